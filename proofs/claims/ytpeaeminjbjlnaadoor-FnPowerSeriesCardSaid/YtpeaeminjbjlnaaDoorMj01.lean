/-
  Transposed lists, orthogonal lists, coordinates. Conditions: the sizes are small.
-/
import Derived.Test.YtpeaeminjbjlnaaDoorMj00
import Derived.Test.YtpeaeminjbjlnaaDoorMk13
import Derived.Test.YtpeaeminjbjlnaaDoorMk05
namespace Go.Proofs.YtpeaeminjbjlnaaDoor
open Go.RowKit
set_option linter.unusedVariables false

def colL (L : List (List Int)) (j : Nat) : List Int := L.map fun row => row.getD j 0
theorem colL_getD {L : List (List Int)} {i j : Nat} (hi : i < L.length) : (colL L j).getD i 0 = at2 L i j := by
  unfold colL at2
  rw [List.getD_eq_getElem?_getD, List.getElem?_map, List.getElem?_eq_getElem hi, List.getD_eq_getElem?_getD (l := L), List.getElem?_eq_getElem hi]
  rfl
theorem rep_getD {α : Type} {n j : Nat} (x d : α) (h : j < n) : (List.replicate n x).getD j d = x := by
  rw [List.getD_eq_getElem?_getD, List.getElem?_replicate, if_pos h]; rfl

set_option maxRecDepth 100000 in
set_option maxHeartbeats 1000000 in
theorem transposed_any (v : Value) (L : List (List Int)) (n : Nat) (w : World) (hv : MatV w v L) (hL : ∀ row ∈ L, row.length = n) (hm : L.length ≤ 1000) (hn : n ≤ 1000) :
    Calls Tryd.prog 183 #[v, .int .i64 n] w fun e w' => ∃ o vs, e = .returned o ∧ OwnM w.heap.size w' o vs (transL L n) ∧ w.grownBy w' none := by
  obtain ⟨i0, hi, hz0, hz1, hz2⟩ := info_parts info_ints
  have HI := Lib.hid hi; have HZ0 := Lib.hid hz0; have HZ1 := Lib.hid hz1; have HZ2 := Lib.hid hz2
  have HV := Lib.hid fun w' (hg : w.grownBy w' none) => hv.carry hg
  have HL := Lib.hid hL
  obtain ⟨a, c, rfl⟩ := hv.shape
  clear hi hz0 hz1 hz2 hv hL
  generalize hlen : L.length = m at *
  have HLEN := Lib.hid hlen
  clear hlen
  go_enter Tryd.func183, Tryd.ntmps183
  go_wp2_with (
    at_make
    refine wpList_make_full _ rfl _ _ 37 rfl w.heap.size 24 i0 (.slice none 0 0) 1 Tryd.underlying37 HI.out HZ0.out HZ1.out _ _ _ _ n rfl rfl rfl rfl (by rw [HZ2.out]; omega) (by unfold maxLen; omega) (Nat.le_refl _) ?_
    intro w1 hown' hgr'
    have H1 := Lib.hid hown'; have H2 := Lib.hid hgr'
    clear hown' hgr')
  have hz : (madeCells (Value.slice none 0 0).cells (n * 1)).toList = List.replicate n nilS := by rw [Nat.mul_one]; exact toList_madeCells_one _ _
  have ho := H1.out
  rw [hz] at ho
  have HS := Lib.hid ((Sep.start w).newM H2.out (nils_own ho))
  clear hz ho H1 H2 HI HZ0 HZ1 HZ2
  generalize w.heap.size = g at *
  go_loopw [13] (fun i wr => ∃ (j : Nat) (vs : List Value) (T : List (List Int)), j ≤ n ∧ i = .int .i64 j ∧ T.length = n ∧ (∀ q, q < j → T.getD q [] = colL L q) ∧ Sep wr [OM (.slice (some ⟨g, 0, none⟩) n n) vs T, KeepA w]) (fun i _ => n - (intOf i).toNat)
  case atStart => exact ⟨0, _, _, by omega, rfl, by simp, fun _ h => absurd h (by omega), HS.out⟩
  case round =>
    obtain ⟨j, vs, T, hj, rfl, hl, hq, hsep⟩ := hrel
    have HQ := Lib.hid hq; have HSP := Lib.hid hsep; have HTL := Lib.hid hl
    clear hl hq hsep
    by_cases hlt : j < n
    · have hZ := zeros_any m wr (by omega)
      have HZ := Lib.hid hZ
      clear hZ
      go_wp2_with (
        go_at_call 243
        with_reducible refine HZ.out.mono ?_
        rintro e w2 ⟨u, rfl, hu, hg⟩
        obtain ⟨ua, uc, rfl⟩ := own_shape hu
        simp only [List.length_replicate] at hu ⊢
        have hs2 := HSP.out.newI hg hu
        have hcell := hs2.s2.hd.cell HTL.out.symm (show j < T.length by rw [HTL.out]; exact hlt)
        have hfree := hs2.s2.hd.free HTL.out.symm j
        have HP := Lib.hid (hs2.putM HTL.out.symm (show j < T.length by rw [HTL.out]; exact hlt))
        generalize vs.getD j nilS = old at hcell
        clear hu hg hs2)
      generalize w2.setCell ⟨g, j, none⟩ (.slice ua m uc) = w3 at *
      have HT1 := Lib.hid (show (T.set j (List.replicate m 0)).length = n by rw [List.length_set]; exact HTL.out)
      obtain ⟨vs1, hvs1⟩ : ∃ vs1, vs1 = vs.set j (.slice ua m uc) := ⟨_, rfl⟩
      rw [← hvs1] at HP
      clear hvs1 HZ hcell hfree
      obtain ⟨w4, hw4⟩ : ∃ w4, w4 = w3 := ⟨_, rfl⟩
      subst hw4
      go_loopw [24] (fun i wx => ∃ (k : Nat) (zs : List Int), k ≤ m ∧ i = .int .i64 k ∧ zs.length = m ∧ (∀ q, q < k → zs.getD q 0 = at2 L q j) ∧ Sep wx [OM (.slice (some ⟨g, 0, none⟩) n n) vs1 (T.set j zs), KeepA w]) (fun i _ => m - (intOf i).toNat)
      case atStart => exact ⟨0, _, by omega, rfl, by simp, fun _ h => absurd h (by omega), HP.out⟩
      case round =>
        obtain ⟨k, zs, hk, rfl, hz, hzq, hsx⟩ := hrel
        have HZL := Lib.hid hz; have HZQ := Lib.hid hzq; have HSX := Lib.hid hsx
        clear hz hzq hsx
        have hg1 : (T.set j zs).getD j [] = zs := by rw [getD_setL (by rw [HTL.out]; exact hlt), if_pos rfl]
        have HG1 := Lib.hid hg1
        clear hg1
        by_cases hk2 : k < m
        · obtain ⟨d, ra, rc, rfl, hs, hd, hcell, hrow⟩ := (HV.out _ HSX.out.s2.hd).row (show k < L.length by rw [HLEN.out]; exact hk2)
          have hrl := HL.out _ (List.getElem_mem (show k < L.length by rw [HLEN.out]; exact hk2))
          rw [hrl] at hcell hrow
          obtain ⟨d2, rfl, hs2, hd2, hc2⟩ := hrow.at (show j < (L[k]'(by rw [HLEN.out]; exact hk2)).length by rw [hrl]; exact hlt)
          obtain ⟨db, dof, _⟩ := d
          obtain ⟨db2, dof2, _⟩ := d2
          simp only at hs hcell hs2 hc2
          subst hs hs2
          have hat : (L[k]'(by rw [HLEN.out]; exact hk2))[j]'(by rw [hrl]; exact hlt) = at2 L k j := by
            unfold at2
            rw [List.getD_eq_getElem?_getD (l := L), List.getElem?_eq_getElem (show k < L.length by rw [HLEN.out]; exact hk2), Option.getD_some, getD_lt]
          rw [hat] at hc2
          obtain ⟨gi, ci, n1, e1, e2, e3, e4⟩ := HSX.out.setM (by rw [List.length_set]; exact HTL.out.symm) (i := j) (j := k) (by rw [List.length_set, HTL.out]; exact hlt) (by rw [HG1.out, HZL.out]; exact hk2)
          have E4 := Lib.hid e4
          rw [HG1.out, HZL.out] at e1
          generalize at2 (T.set j zs) j k = old at e2
          generalize hx : at2 L k j = x at *
          have HX := Lib.hid hx
          clear hx
          have k0 : (0 : Int) ≤ (k : Int) := by omega
          have k1 : (k : Int) < (m : Int) := by omega
          have j0 : (0 : Int) ≤ (j : Int) := by omega
          have j1 : (j : Int) < (n : Int) := by omega
          clear hat hrl hrow hd hd2 e4
          go_wp2_with fail
          go_region
          all_goals
            go_wp2
            go_roundw
            case rel =>
              refine ⟨k + 1, zs.set k x, by omega, by go_num, by rw [List.length_set]; exact HZL.out, fun q hq => ?_, ?_⟩
              · by_cases hqk : k = q
                · subst hqk
                  rw [getD_set_self (by rw [HZL.out]; exact hk2), HX.out]
                · rw [getD_set_ne hqk]
                  exact HZQ.out q (by omega)
              · have h := (E4.out x).dr
                rw [HG1.out, List.set_set] at h
                exact h
            case measure => simp [intOf]; omega
        · have hzc : zs = colL L j := by
            refine list_ext_getD (by rw [HZL.out]; simp [colL]; exact HLEN.out.symm) fun q hq => ?_
            rw [HZQ.out q (by have := HZL.out; omega), colL_getD (by have := HZL.out; have := HLEN.out; omega)]
          have HZC := Lib.hid hzc
          clear hzc
          go_wp2
          go_roundw
          case rel =>
            refine ⟨j + 1, vs1, T.set j zs, by omega, by go_num, by rw [List.length_set]; exact HTL.out, fun q hq => ?_, HSX.out⟩
            rw [getD_setL (by rw [HTL.out]; exact hlt)]
            split
            · next h => rw [h, HZC.out]
            · exact HQ.out q (by omega)
          case measure => simp [intOf]; omega
    · have hfin : T = transL L n := by
        refine List.ext_getElem (by rw [HTL.out, transL_len]) fun q h1 h2 => ?_
        have := HQ.out q (by have := HTL.out; omega)
        rw [List.getD_eq_getElem?_getD, List.getElem?_eq_getElem h1, Option.getD_some] at this
        rw [this]
        simp [transL, colL]
      have HF := Lib.hid hfin
      clear hfin
      go_wp2
      go_ret
      exact ⟨_, vs, rfl, by rw [← HF.out]; exact HSP.out.mat, HSP.out.s2.hd⟩

theorem orthogonal_any (p : Nat) [NeZero p] (v : Value) (L : List (List Int)) (n : Nat) (w : World) (hf : fldN p = true) (hp2 : p ≤ 1000) (hv : MatV w v L) (hL : RowsOk p n L) (hm : L.length ≤ 1000) (hn : n ≤ 1000) :
    Calls Tryd.prog 172 #[.int .i64 p, v, .int .i64 n] w fun e w' => ∃ o c, e = .returned (.slice o (orthL p L n).length c) ∧ Pre w.heap.size w' (.slice o (orthL p L n).length c) (orthL p L n) ∧ w.grownBy w' none := by
  have HT := Lib.hid (transposed_any v L n w hv (fun row hrow => (hL row hrow).1) hm hn)
  have hto := transL_ok hL
  have HK := Lib.hid fun w1 u (hu : MatV w1 u (transL L n)) => kernel_own p u (transL L n) L.length w1 hf hp2 hu hto (by rw [transL_len]; exact hn) hm
  have HO := Lib.hid (show kernelL p L.length (transL L n) = orthL p L n from rfl)
  rw [HO.out] at HK
  obtain ⟨a, c, rfl⟩ := hv.shape
  clear hv hL hto
  generalize orthL p L n = K at *
  generalize L.length = m at *
  go_enter Tryd.func172, Tryd.ntmps172
  go_wp2_with (first
    | (go_at_call 183
       with_reducible refine HT.out.mono ?_
       rintro e w1 ⟨o, vs, rfl, ho, hg⟩
       have HR := Lib.hid ho.read; have HG := Lib.hid hg
       clear ho hg)
    | (go_at_call 127
       with_reducible refine (HK.out _ _ HR.out).mono ?_
       rintro e w2 ⟨ra, rc, rfl, hp, hg⟩
       have HP := Lib.hid hp; have HG2 := Lib.hid hg
       clear hp hg))
  go_ret
  exact ⟨ra, rc, rfl, HP.out.base HG.out.size, HG.out.trans HG2.out⟩

end Go.Proofs.YtpeaeminjbjlnaaDoor

/-
  Coordinates in a reduced list, and who asks for them. Conditions: the sizes are small.
-/
namespace Go.Proofs.YtpeaeminjbjlnaaDoor
open Go.RowKit
set_option linter.unusedVariables false

theorem take_snocD {α : Type} {l : List α} {k : Nat} (d : α) (h : k < l.length) : l.take (k + 1) = l.take k ++ [l.getD k d] := by
  rw [List.take_succ_eq_append_getElem h, List.getD_eq_getElem?_getD, List.getElem?_eq_getElem h]; rfl
theorem coordsL_at {m : List (List Int)} {v : List Int} {k : Nat} (h : k < m.length) : (coordsL m v).getD k 0 = v.getD (leadL (m.getD k [])) 0 := by
  unfold coordsL
  rw [List.getD_eq_getElem?_getD, List.getElem?_map, List.getElem?_eq_getElem h, List.getD_eq_getElem?_getD (l := m), List.getElem?_eq_getElem h]
  rfl
/-- a row of a list that was there when the call began, at a later world -/
theorem MatV.rowD {w : World} {v : Value} {L : List (List Int)} (h : MatV w v L) {i : Nat} (hi : i < L.length) :
    ∃ (b o cap ml : Nat) (r : Option Addr) (c : Nat), v = .slice (some ⟨b, o, none⟩) ml cap ∧ w.cell? ⟨b, o + i, none⟩ = some (.slice r (L.getD i []).length c) ∧ IntsV w (.slice r (L.getD i []).length c) (L.getD i []) := by
  obtain ⟨a, c, rfl⟩ := h.shape
  obtain ⟨d, r, rc, rfl, hs, hd, hc, hr⟩ := h.row hi
  obtain ⟨b, o, _⟩ := d
  simp only at hs hc
  subst hs
  have e : L.getD i [] = L[i] := by rw [List.getD_eq_getElem?_getD, List.getElem?_eq_getElem hi]; rfl
  rw [e]
  exact ⟨b, o, c, _, r, rc, rfl, hc, hr⟩
theorem MatV.rowK {w wr : World} {v : Value} {L : List (List Int)} (h : MatV w v L) (hg : w.grownBy wr none) {i : Nat} (hi : i < L.length) :
    ∃ (b o cap ml : Nat) (r : Option Addr) (c : Nat), v = .slice (some ⟨b, o, none⟩) ml cap ∧ wr.cell? ⟨b, o + i, none⟩ = some (.slice r (L.getD i []).length c) ∧ IntsV w (.slice r (L.getD i []).length c) (L.getD i []) := by
  obtain ⟨a, c, rfl⟩ := h.shape
  obtain ⟨d, r, rc, rfl, hs, hd, hc, hr⟩ := h.row hi
  obtain ⟨b, o, _⟩ := d
  simp only at hs hc
  subst hs
  have e : L.getD i [] = L[i] := by rw [List.getD_eq_getElem?_getD, List.getElem?_eq_getElem hi]; rfl
  rw [e]
  exact ⟨b, o, c, _, r, rc, rfl, (World.cell?_of_block (w := w) (a := ⟨b, o + i, none⟩) (hg.block _ hd (by simp))).trans hc, hr⟩
theorem Sep.updI {w w' : World} {l : List Asrt} {v : Value} {zs zs' : List Int} {B : Nat} (h : Sep w (OI v zs :: l)) (ho : Only (Hits v) w w') (hi : OwnInts B w' v zs') : Sep w' (OI v zs' :: l) :=
  h.upd' (A' := OI v zs') ho (hi.rebase fun _ _ => Nat.zero_le _) fun _ hk => Or.inl hk
theorem Sep.updM {w w' : World} {l : List Asrt} {v : Value} {vs vs' : List Value} {L L' : List (List Int)} {B : Nat} (h : Sep w (OM v vs L :: l)) (ho : Only (Foot v vs) w w') (hi : OwnM B w' v vs' L') (hf : ∀ x ∈ vs', x ∈ vs) : Sep w' (OM v vs' L' :: l) :=
  h.upd' (A' := OM v vs' L') ho (hi.rebase fun _ _ => Nat.zero_le _) fun k hk => Or.inl (Foot.mono hf hk)
theorem IntsV.blk_lt {w : World} {u : Value} {y : List Int} (h : IntsV w u y) (hy : y ≠ []) {k : Nat} (hk : Value.blk' u = some k) : k < w.heap.size := by
  obtain ⟨a, c, rfl, h⟩ := h
  obtain ⟨d, rfl, _, hd, _⟩ := h hy
  simp only [Value.blk', Option.some.injEq] at hk
  omega

set_option maxRecDepth 100000 in
set_option maxHeartbeats 1000000 in
theorem coordinates_any (p n : Nat) [NeZero p] (u v : Value) (m : List (List Int)) (x : List Int) (w : World) (hf : fldN p = true) (hp2 : p ≤ 1000) (hu : MatV w u m) (hv : IntsV w v x) (hr : IsRed p n m) (hx : VecOk p n x) (hm : m.length ≤ 1000) (hn : n ≤ 1000) :
    Calls Tryd.prog 174 #[.int .i64 p, u, v] w fun e w' => ∃ o, e = .returned (.tuple #[o, .bool (hasB p n m x)]) ∧ OwnInts w.heap.size w' o (coordsL m x) ∧ w.grownBy w' none := by
  have HCL := Lib.hid (clone_any v x w hv (by rw [hx.1]; omega))
  have HU := Lib.hid hu
  have HROK := Lib.hid (fun k (hk : k ≤ m.length) => rest_ok hr.1 hx k hk)
  have HRC := Lib.hid (fun i (hi : i < m.length) => rest_coord hf hr hx hi)
  have HLT := Lib.hid (fun i (hi : i < m.length) => lead_lt hf hr hi)
  have HHAS := Lib.hid (rest_has hf hr hx)
  have HMO := Lib.hid hr.1
  have hp1 := lt_p hf
  have hcl : (coordsL m x).length = m.length := by simp [coordsL]
  have HCLN := Lib.hid hcl
  have hsh := hu.shape
  obtain ⟨va, vc, rfl, hvx⟩ := hv
  obtain ⟨ua, uc, rfl⟩ := hsh
  have hxl := hx.1
  rw [hxl] at HCL ⊢
  have HXL := Lib.hid hxl
  have HV : True := trivial
  clear hu hr hx hcl hvx hxl
  generalize hml : m.length = l at *
  have HML := Lib.hid hml
  clear hml
  generalize hasB p n m x = hb at *
  go_enter Tryd.func174, Tryd.ntmps174
  go_wp2_with (go_at_call 112
               with_reducible refine HCL.out.mono ?_
               rintro e w1 ⟨cv, rfl, ho, hg⟩
               have HO := Lib.hid ((Sep.start w).newI hg ho)
               obtain ⟨ca, cc, hce⟩ := own_shape ho
               rw [HXL.out] at hce
               subst hce
               clear ho hg)
  have HE := Lib.hid HO.out.emptyI
  go_loopw [9, 18] (fun out i wr => ∃ k : Nat, k ≤ l ∧ i = .int .i64 k ∧ Sep wr [OI out ((coordsL m x).take k), OI (.slice ca n cc) (restTo p m x k), KeepA w]) (fun _ i _ => l - (intOf i).toNat)
  case atStart => exact ⟨0, by omega, rfl, HE.out⟩
  case round =>
    obtain ⟨k, hk, rfl, hs⟩ := hrel
    have HS := Lib.hid hs
    clear hs
    by_cases hlt : k < l
    · have hkl : k < m.length := by rw [HML.out]; exact hlt
      obtain ⟨b, o, cap, ml, r, rc, he, hcell, hrow0⟩ := HU.out.rowK HS.out.s3.hd hkl
      cases he
      have hro := HMO.out _ (getD_mem hkl)
      have hll := HLT.out k hlt
      have hok := HROK.out k (by omega)
      have hcd := HRC.out k hlt
      have hsn := take_snocD 0 (show k < (coordsL m x).length by rw [HCLN.out]; exact hlt)
      rw [coordsL_at hkl] at hsn
      rw [hro.1] at hcell hrow0
      have hrow := hrow0.carry HS.out.s3.hd
      have hown := HS.out.s2.hd
      obtain ⟨g, gc, hge, hg0, hg1, hgh⟩ := hown.parts (by intro h; have := hok.1; rw [h] at this; simp at this; omega)
      rw [hok.1] at hge
      cases hge
      have hrc := hown.cell hok.1.symm (j := leadL (m.getD k [])) (by rw [hok.1]; exact hll)
      rw [← getD_lt, hcd] at hrc
      have hbd := hok.2 _ (List.getElem_mem (show leadL (m.getD k []) < (restTo p m x k).length by rw [hok.1]; exact hll))
      rw [← getD_lt, hcd] at hbd
      have hnx : restTo p m x (k + 1) = addT p (restTo p m x k) (-(x.getD (leadL (m.getD k [])) 0)) (m.getD k []) := by
        rw [← hcd]; rfl
      have hap : ∀ q, Hits (.slice (some ⟨g, 0, none⟩) n cc) q → Value.blk' (.slice r n rc) ≠ some q := by
        intro q hq hq'
        have h1 := hrow0.blk_lt (by intro h; have := hro.1; rw [h] at this; simp at this; omega) hq'
        exact HS.out.tl.apt.1 q hq h1
      have HLD := Lib.hid (lead_any _ _ wr hrow (by rw [hro.1]; omega))
      have HSN := Lib.hid hsn; have HNX := Lib.hid hnx
      have hz : (restTo p m x k).length = n := hok.1
      have HAT := Lib.hid fun w2 (h : Sep w2 [OI (.slice (some ⟨g, 0, none⟩) n cc) (restTo p m x k), KeepA w]) =>
        addTimes_any p (-(x.getD (leadL (m.getD k [])) 0)) (.slice (some ⟨g, 0, none⟩) n cc) (.slice r n rc) (restTo p m x k) (m.getD k []) 0 w2 h.hd (hrow0.carry h.s2.hd) (fun _ => hap) (by rw [hz, hro.1]) (by rw [hz]; omega) (by omega) (by omega) (by omega) (by omega)
          (fun z hz' => by have := hok.2 z hz'; omega) (fun z hz' => by have := hro.2 z hz'; omega)
      have hll2 : ((leadL (m.getD k []) : Nat) : Int) < (n : Int) := by omega
      have A5 := Lib.hid (show ((coordsL m x).take k).length ≤ 1000000000 by rw [List.length_take]; omega)
      clear hro hcd hsn hrow0 hrow hown hg0 hg1 hgh hok hnx hap hz hkl
      generalize hld : leadL (m.getD k []) = ld at *
      generalize hby : x.getD ld 0 = by' at *
      clear hld hby
      go_wp2_with (first
        | (go_at_call 225
           with_reducible refine HLD.out.mono ?_
           rintro e w' ⟨rfl, rfl⟩)
        | (at_builtin
           refine app_intS rfl _ _ rfl rfl rfl HS.out A5.out ?_
           intro g2 cap2 w2 hs2
           have HS2 := Lib.hid hs2
           clear hs2)
        | (go_at_call 244
           go_loud (with_reducible refine (HAT.out _ (HS2.out.tl)).mono ?_)
           rintro e w3 ⟨rfl, ho3, hon3⟩
           have HS3 := Lib.hid (HS2.out.s2.updI hon3 ho3).s2
           clear ho3 hon3))
      go_roundw
      case rel => exact ⟨k + 1, by omega, by go_num, by have h := HS3.out; rw [List.length_take] at h; rw [HSN.out, HNX.out]; exact h⟩
      case measure => simp [intOf]; omega
    · have hkl : k = l := by omega
      subst hkl
      have ht : (coordsL m x).take k = coordsL m x := List.take_of_length_le (by rw [HCLN.out]; exact Nat.le_refl _)
      have HTK := Lib.hid ht
      have hz := isZero_any (.slice ca n cc) (restTo p m x k) wr HS.out.s2.hd.read (by rw [(HROK.out k (Nat.le_refl _)).1]; omega)
      rw [HHAS.out] at hz
      have HZ := Lib.hid hz
      clear ht hz
      go_wp2_with (go_at_call 228
                   with_reducible refine HZ.out.mono ?_
                   rintro e w' ⟨rfl, rfl⟩)
      go_ret2
      exact ⟨_, rfl, by have := HS.out.under Sep.tl (by simp +contextual); rw [HTK.out] at this; exact this.ints, HS.out.s3.hd⟩
theorem coordsL_bd {p : Int} {m : List (List Int)} {x : List Int} {n : Nat} (hx : VecOk p n x) (hld : ∀ i, i < m.length → leadL (m.getD i []) < n) : ∀ z ∈ coordsL m x, 0 ≤ z ∧ z < p := by
  intro z hz
  obtain ⟨i, hi, rfl⟩ := List.getElem_of_mem hz
  have hi' : i < m.length := by simpa [coordsL] using hi
  rw [← getD_lt hi, coordsL_at hi', getD_lt (by rw [hx.1]; exact hld i hi')]
  exact hx.2 _ (List.getElem_mem _)
end Go.Proofs.YtpeaeminjbjlnaaDoor

/-
  Two rows of a list change places. Conditions: as each says.
-/
namespace Go.Proofs.YtpeaeminjbjlnaaDoor
open Go.RowKit
set_option linter.unusedVariables false

theorem swapL_comm {L : List (List Int)} (a b : Nat) : swapL L a b = swapL L b a := by
  unfold swapL
  by_cases h : a = b
  · subst h; rfl
  · rw [List.set_comm _ _ h]
/-- what the three assignments that exchange two rows read and leave -/
theorem Sep.swapM {w : World} {l : List Asrt} {g n cap : Nat} {vs : List Value} {L : List (List Int)} (h : Sep w (OM (.slice (some ⟨g, 0, none⟩) n cap) vs L :: l)) (hn : n = L.length) {r j : Nat} (hr : r < L.length) (hj : j < L.length) :
    w.cell? ⟨g, r, none⟩ = some (vs.getD r nilS) ∧ w.cell? ⟨g, j, none⟩ = some (vs.getD j nilS) ∧ w.frozen? ⟨g, r, none⟩ = false ∧ w.frozen? ⟨g, j, none⟩ = false ∧
      ∃ vs', Sep ((w.setCell ⟨g, r, none⟩ (vs.getD j nilS)).setCell ⟨g, j, none⟩ (vs.getD r nilS)) (OM (.slice (some ⟨g, 0, none⟩) n cap) vs' (swapL L r j) :: l) := by
  subst hn
  have hlen := h.hd.len
  refine ⟨h.hd.cell rfl hr, h.hd.cell rfl hj, h.hd.free rfl r, h.hd.free rfl j, ?_⟩
  have o1 := h.hd.out
  rw [hlen] at o1
  have s1 := World.ownsRow.stored o1 r (vs.getD j nilS)
  have n1 : Only (· = g) w _ := Only.of_grown s1.2 fun k hk => by simp at hk; exact hk.symm
  have s2 := World.ownsRow.stored s1.1 j (vs.getD r nilS)
  have n2 : Only (· = g) _ _ := Only.of_grown s2.2 fun k hk => by simp at hk; exact hk.symm
  have nn := n1.trans n2
  have S1 : ∀ k, k = g → ∀ i, ¬ Hits (vs.getD i nilS) k := by
    intro k hk i hi
    subst hk
    exact apart_types h.hd.out (h.hd.row i) (by decide) _ rfl hi
  by_cases hne : j = r
  · subst hne
    rw [swapL_self hr]
    have e : (vs.set j (vs.getD j nilS)).set j (vs.getD j nilS) = vs := by
      rw [List.set_set]
      refine List.ext_getElem (by simp) fun i h1 h2 => ?_
      rw [List.getElem_set]
      split
      · next hi => subst hi; rw [List.getD_eq_getElem?_getD, List.getElem?_eq_getElem h2]; rfl
      · rfl
    refine ⟨vs, h.updM (nn.mono fun k hk => by rw [hk]; exact Or.inl rfl) (B := 0) ⟨hlen, ?_, fun i => (h.hd.row i).only nn fun q hq hq' => S1 q hq' i hq, h.hd.ap⟩ fun x hx => hx⟩
    have := s2.1
    rw [e] at this
    rw [hlen]
    exact this
  · obtain ⟨m1, b1⟩ := h.hd.swapped hj hr hne nn S1 (by rw [hlen]; exact s2.1)
    rw [swapL_comm] at m1
    exact ⟨_, h.updM (nn.mono fun k hk => by rw [hk]; exact Or.inl rfl) m1 b1⟩
/-- the same with the rows' lengths -/
theorem Sep.swapR {w : World} {l : List Asrt} {g n cap c : Nat} {p : Int} {vs : List Value} {L : List (List Int)} (h : Sep w (OM (.slice (some ⟨g, 0, none⟩) n cap) vs L :: l)) (hn : n = L.length) (hok : RowsOk p c L) {r j : Nat} (hr : r < L.length) (hj : j < L.length) :
    ∃ ar cr aj cj, w.cell? ⟨g, r, none⟩ = some (.slice ar c cr) ∧ w.cell? ⟨g, j, none⟩ = some (.slice aj c cj) ∧ w.frozen? ⟨g, r, none⟩ = false ∧ w.frozen? ⟨g, j, none⟩ = false ∧ (∃ vx, (w.setCell ⟨g, r, none⟩ (.slice aj c cj)).cell? ⟨g, j, none⟩ = some vx) ∧
      ∃ vs', Sep ((w.setCell ⟨g, r, none⟩ (.slice aj c cj)).setCell ⟨g, j, none⟩ (.slice ar c cr)) (OM (.slice (some ⟨g, 0, none⟩) n cap) vs' (swapL L r j) :: l) := by
  obtain ⟨h1, h2, h3, h4, h5⟩ := h.swapM hn hr hj
  obtain ⟨ar, cr, er⟩ := own_shape (h.hd.row r)
  obtain ⟨aj, cj, ej⟩ := own_shape (h.hd.row j)
  rw [(hok _ (getD_mem hr)).1] at er
  rw [(hok _ (getD_mem hj)).1] at ej
  rw [er] at h1 h5
  rw [ej] at h2 h5
  exact ⟨ar, cr, aj, cj, h1, h2, h3, h4, cell?_setCell_some h2, h5⟩
/-- what the assignments that exchange two rows read and leave, with the rows' lengths -/
theorem Sep.swapN {w : World} {l : List Asrt} {g n cap c : Nat} {vs : List Value} {L : List (List Int)} (h : Sep w (OM (.slice (some ⟨g, 0, none⟩) n cap) vs L :: l)) (hn : n = L.length) (hr' : ∀ row ∈ L, row.length = c) {r j : Nat} (hr : r < L.length) (hj : j < L.length) :
    ∃ ar cr aj cj, w.cell? ⟨g, r, none⟩ = some (.slice ar c cr) ∧ w.cell? ⟨g, j, none⟩ = some (.slice aj c cj) ∧ w.frozen? ⟨g, r, none⟩ = false ∧ w.frozen? ⟨g, j, none⟩ = false ∧
      ∃ vs', Sep ((w.setCell ⟨g, r, none⟩ (.slice aj c cj)).setCell ⟨g, j, none⟩ (.slice ar c cr)) (OM (.slice (some ⟨g, 0, none⟩) n cap) vs' (swapL L r j) :: l) := by
  obtain ⟨h1, h2, h3, h4, h5⟩ := h.swapM hn hr hj
  obtain ⟨ar, cr, er⟩ := own_shape (h.hd.row r)
  obtain ⟨aj, cj, ej⟩ := own_shape (h.hd.row j)
  rw [hr' _ (getD_mem hr)] at er
  rw [hr' _ (getD_mem hj)] at ej
  rw [er] at h1 h5
  rw [ej] at h2 h5
  exact ⟨ar, cr, aj, cj, h1, h2, h3, h4, h5⟩
end Go.Proofs.YtpeaeminjbjlnaaDoor

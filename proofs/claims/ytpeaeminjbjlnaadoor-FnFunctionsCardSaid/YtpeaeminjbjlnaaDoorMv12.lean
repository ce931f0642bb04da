/-
  The specification's null rows. Conditions: the sizes are small.
-/
import Derived.Test.YtpeaeminjbjlnaaDoorMv11
import Derived.Test.YtpeaeminjbjlnaaDoorMv09
import Derived.Deep.CutRange
namespace Go.Proofs.YtpeaeminjbjlnaaDoor
open Go.RowKit
set_option linter.unusedVariables false

theorem fdNegE_any (p a : Int) (w : World) (hp : 1 ≤ p) (hp2 : p ≤ 1000) (ha : 0 ≤ a) (ha2 : a ≤ p) : Calls Tryd.prog 237 #[.int .i64 p, .int .i64 a] w fun e w' => e = .returned (.int .i64 ((p - a) % p)) ∧ w = w' := by
  have h1 := Int.emod_nonneg (p - a) (show p ≠ 0 by omega)
  have h2 := Int.emod_lt_of_pos (p - a) (show 0 < p by omega)
  go_enter Tryd.func237, Tryd.ntmps237
  go_wp2
  go_ret
  exact ⟨rfl, rfl⟩
def nullPart (p : Int) (n : Nat) (m : List (List Int)) (j : Nat) : List (List Int) := ((List.range j).filter fun t => !isLead m t).map fun t => nullTo p n m t m.length
theorem nullPart_lead {p : Int} {n : Nat} {m : List (List Int)} {j : Nat} (h : isLead m j = true) : nullPart p n m (j + 1) = nullPart p n m j := by
  unfold nullPart
  rw [List.range_succ, List.filter_append, List.map_append]
  simp [h]
theorem nullPart_free {p : Int} {n : Nat} {m : List (List Int)} {j : Nat} (h : isLead m j = false) : nullPart p n m (j + 1) = nullPart p n m j ++ [nullTo p n m j m.length] := by
  unfold nullPart
  rw [List.range_succ, List.filter_append, List.map_append]
  simp [h]
theorem nullPart_len (p : Int) (n : Nat) (m : List (List Int)) (j : Nat) : (nullPart p n m j).length ≤ j := by
  unfold nullPart
  rw [List.length_map]
  exact Nat.le_trans (List.length_filter_le _ _) (by simp)
theorem isLead_yes {m : List (List Int)} {j i : Nat} (hi : i < m.length) (h : leadL (m.getD i []) = j) : isLead m j = true := by
  unfold isLead
  rw [List.any_eq_true]
  refine ⟨m.getD i [], getD_mem hi, ?_⟩
  rw [h]; exact beq_self_eq_true _
theorem isLead_no {m : List (List Int)} {j : Nat} (h : ∀ i, i < m.length → leadL (m.getD i []) ≠ j) : isLead m j = false := by
  unfold isLead
  rw [List.any_eq_false]
  intro r hr
  obtain ⟨i, hi, rfl⟩ := List.getElem_of_mem hr
  have := h i hi
  rw [List.getD_eq_getElem?_getD, List.getElem?_eq_getElem hi] at this
  simpa using this

set_option maxRecDepth 100000 in
set_option maxHeartbeats 4000000 in
theorem spNull_any (p : Nat) [NeZero p] (n : Nat) (u : Value) (L : List (List Int)) (w : World) (hf : fldN p = true) (hp2 : p ≤ 1000) (hv : MatV w u L) (hL : RowsOk p n L) (hm : L.length ≤ 1000) (hn : n ≤ 1000) :
    Calls Tryd.prog 177 #[.int .i64 p, .int .i64 n, u] w fun e w' => ∃ v c, e = .returned (.slice v (orthL p L n).length c) ∧ Pre w.heap.size w' (.slice v (orthL p L n).length c) (orthL p L n) ∧ w.grownBy w' none := by
  obtain ⟨i0, hi, hz0, hz1, hz2⟩ := info_parts info_int
  have HI := Lib.hid hi; have HZ0 := Lib.hid hz0; have HZ1 := Lib.hid hz1; have HZ2 := Lib.hid hz2
  have hp1 := lt_p hf
  have HR := Lib.hid (spReduce_any p n u L w hf hp2 hv hL hm hn)
  have hred := reducedL_red hf hL
  have hrl : (reducedL p n L).length ≤ 1000 := by rw [reducedL_len hf hL]; exact Nat.le_trans (rank_le hf hL) hm
  have heq := spNull_eq hf hL
  unfold spNullL at heq
  have hnp : nullRows p n (reducedL p n L) = nullPart p n (reducedL p n L) n := rfl
  rw [hnp] at heq
  have HNOK := Lib.hid (nullRows_ok (p := p) (n := n) (m := reducedL p n L) hp1)
  rw [hnp] at HNOK
  have HR2 := Lib.hid fun w' o (ho : MatV w' o (nullPart p n (reducedL p n L) n)) => spReduce_any p n o _ w' hf hp2 ho HNOK.out (Nat.le_trans (nullPart_len _ _ _ _) hn) hn
  rw [heq] at HR2
  have HLT := Lib.hid fun i (hi : i < (reducedL p n L).length) => lead_lt hf hred hi
  have HROW := Lib.hid hred.1
  have HNUL := Lib.hid fun j i => nullTo_ok (p := p) (n := n) (j := j) (m := reducedL p n L) hp1 i
  obtain ⟨ua, uc, rfl⟩ := hv.shape
  clear hv hL hred heq hnp hi hz0 hz1 hz2
  generalize orthL p L n = K at *
  generalize reducedL p n L = M at *
  generalize hml : M.length = r at *
  have HML := Lib.hid hml
  generalize L.length = l at *
  clear hml
  go_enter Tryd.func177, Tryd.ntmps177
  go_wp2_with (first
    | (go_at_call 168
       with_reducible refine HR.out.mono ?_
       rintro e w1 ⟨ma, mc, rfl, hp, hg⟩
       have HU := Lib.hid hp.read; have HG := Lib.hid hg
       clear hp hg)
    | (at_make; refine wpList_make_full _ rfl _ _ 24 rfl w1.heap.size 3 i0 (.int .i64 0) 1 Tryd.underlying24 HI.out HZ0.out HZ1.out _ _ _ _ n rfl rfl rfl rfl (by rw [HZ2.out]; omega) (by unfold maxLen; omega) (Nat.le_refl _) ?_; intro w2 hown' hgr'
       have H1 := Lib.hid hown'; have H2 := Lib.hid hgr'
       clear hown' hgr'))
  have ho := H1.out
  rw [madeCells_int] at ho
  have ho' : OwnInts w1.heap.size w2 (.slice (some ⟨w1.heap.size, 0, none⟩) n n) (List.replicate n 0) := by
    unfold OwnInts; rw [List.length_replicate]; exact ho
  have HS := Lib.hid ((Sep.start w1).newI H2.out ho')
  clear ho ho' H1 H2
  generalize w1.heap.size = g at *
  go_loopw [25] (fun i wr => ∃ (k : Nat) (zs : List Int), k ≤ n ∧ i = .int .i64 k ∧ zs.length = n ∧ (∀ t, t < k → zs.getD t 0 = -1) ∧ Sep wr [OI (.slice (some ⟨g, 0, none⟩) n n) zs, KeepA w1]) (fun i _ => n - (intOf i).toNat)
  case atStart => exact ⟨0, _, by omega, rfl, by simp, fun _ h => absurd h (by omega), HS.out⟩
  case round =>
    obtain ⟨k, zs, hk, rfl, hz1, hz2, hs⟩ := hrel
    have HZL := Lib.hid hz1; have HZN := Lib.hid hz2; have HS1 := Lib.hid hs
    clear hz1 hz2 hs
    by_cases hlt : k < n
    · have hc := HS1.out.hd.cell HZL.out.symm (show k < zs.length by rw [HZL.out]; exact hlt)
      have hfr := HS1.out.hd.free HZL.out.symm k
      have HP := Lib.hid (HS1.out.setI HZL.out.symm k (-1))
      generalize zs[k]'(by rw [HZL.out]; exact hlt) = old at hc
      go_wp2
      go_roundw
      case rel => exact ⟨k + 1, zs.set k (-1), by omega, by go_num, by rw [List.length_set]; exact HZL.out, fun t ht => by
        by_cases h : k = t
        · subst h; rw [getD_set_self (by rw [HZL.out]; exact hlt)]
        · rw [getD_set_ne h]; exact HZN.out t (by omega), HP.out⟩
      case measure => simp [intOf]; omega
    · go_wp2_with fail
      obtain ⟨w3, hw3⟩ : ∃ w3, w3 = wr := ⟨_, rfl⟩
      subst hw3
      go_loopw [34] (fun i wr => ∃ (k : Nat) (zs : List Int), k ≤ r ∧ i = .int .i64 k ∧ zs.length = n ∧ (∀ t, t < n → (∃ q, q < k ∧ leadL (M.getD q []) = t ∧ 0 ≤ zs.getD t 0) ∨ ((∀ q, q < k → leadL (M.getD q []) ≠ t) ∧ zs.getD t 0 = -1)) ∧ Sep wr [OI (.slice (some ⟨g, 0, none⟩) n n) zs, KeepA w1]) (fun i _ => r - (intOf i).toNat)
      case atStart => exact ⟨0, zs, by omega, rfl, HZL.out, fun t ht => Or.inr ⟨fun q hq => absurd hq (by omega), HZN.out t (by omega)⟩, HS1.out⟩
      case round =>
        obtain ⟨k, zs, hk, rfl, hz1, hz2, hs⟩ := hrel
        have HZL := Lib.hid hz1; have HZN := Lib.hid hz2; have HS1 := Lib.hid hs
        clear hz1 hz2 hs
        by_cases hlt : k < r
        · have hkm : k < M.length := by rw [HML.out]; exact hlt
          obtain ⟨b, o, cap, ml, ra, rc, he, hcell, hrow0⟩ := HU.out.rowK HS1.out.s2.hd hkm
          cases he
          have hro := HROW.out _ (getD_mem hkm)
          rw [hro.1] at hcell hrow0
          have hll := HLT.out k hlt
          have HLD := Lib.hid (spLead_any _ _ wr (hrow0.carry HS1.out.s2.hd) (by rw [hro.1]; omega))
          clear hrow0 hro hkm
          generalize hld : leadL (M.getD k []) = ld at *
          have HLDE := Lib.hid hld
          have hc := HS1.out.hd.cell HZL.out.symm (show ld < zs.length by rw [HZL.out]; exact hll)
          have hfr := HS1.out.hd.free HZL.out.symm ld
          have HP := Lib.hid (HS1.out.setI HZL.out.symm ld k)
          generalize zs[ld]'(by rw [HZL.out]; exact hll) = old at hc
          have l0 : ((ld : Nat) : Int) < (n : Int) := by omega
          clear hld
          go_wp2_with (go_at_call 276
                       with_reducible refine HLD.out.mono ?_
                       rintro e w' ⟨rfl, rfl⟩)
          go_roundw
          case rel => exact ⟨k + 1, zs.set ld k, by omega, by go_num, by rw [List.length_set]; exact HZL.out, fun t ht => by
            by_cases h : ld = t
            · subst h
              exact Or.inl ⟨k, by omega, HLDE.out, by rw [getD_set_self (by rw [HZL.out]; exact hll)]; omega⟩
            · rw [getD_set_ne h]
              rcases HZN.out t ht with ⟨q, h1, h2, h3⟩ | ⟨h1, h2⟩
              · exact Or.inl ⟨q, by omega, h2, h3⟩
              · refine Or.inr ⟨fun q hq => ?_, h2⟩
                by_cases hqk : q = k
                · rw [hqk, HLDE.out]; exact h
                · exact h1 q (by omega), HP.out⟩
          case measure => simp [intOf]; omega
        · have hkr : k = r := by omega
          subst hkr
          have hlead : ∀ t, t < n → (isLead M t = true ∧ 0 ≤ zs.getD t 0) ∨ (isLead M t = false ∧ zs.getD t 0 = -1) := by
            intro t ht
            rcases HZN.out t ht with ⟨q, h1, h2, h3⟩ | ⟨h1, h2⟩
            · exact Or.inl ⟨isLead_yes (by rw [HML.out]; exact h1) h2, h3⟩
            · exact Or.inr ⟨isLead_no fun i hi => h1 i (by have := HML.out; omega), h2⟩
          have HLEAD := Lib.hid hlead
          have HS2 := Lib.hid (HS1.out.nilM)
          clear hlead
          go_wp2_with fail
          clear hlt hk
          obtain ⟨w4, hw4⟩ : ∃ w4, w4 = wr := ⟨_, rfl⟩
          subst hw4
          go_loopw [12, 13] (fun out j wr => ∃ (t : Nat) (vs : List Value), t ≤ n ∧ j = .int .i64 t ∧ Sep wr [OM out vs (nullPart p n M t), OI (.slice (some ⟨g, 0, none⟩) n n) zs, KeepA w1]) (fun _ j _ => n - (intOf j).toNat)
          case atStart => exact ⟨0, [], by omega, rfl, HS2.out⟩
          case round =>
            obtain ⟨t, vs, ht, rfl, hs⟩ := hrel
            have HS3 := Lib.hid hs
            clear hs
            by_cases hlt : t < n
            · have hc := HS3.out.s2.hd.cell HZL.out.symm (show t < zs.length by rw [HZL.out]; exact hlt)
              rw [← getD_lt (by rw [HZL.out]; exact hlt)] at hc
              have t0 : (0 : Int) ≤ (t : Int) := by omega
              have t1 : (t : Int) < (n : Int) := by omega
              rcases HLEAD.out t hlt with ⟨h1, h2⟩ | ⟨h1, h2⟩
              · have HNP := Lib.hid (nullPart_lead (p := p) (n := n) h1)
                generalize zs.getD t 0 = z at *
                clear h1
                go_wp2
                go_roundw
                case rel => exact ⟨t + 1, vs, by omega, by go_num, by rw [HNP.out]; exact HS3.out⟩
                case measure => simp [intOf]; omega
              · have HNP := Lib.hid (nullPart_free (p := p) (n := n) h1)
                rw [h2] at hc
                have A5 := Lib.hid (Nat.le_trans (nullPart_len p n M t) (show t ≤ 1000000 by omega))
                clear h1 h2
                go_wp2_with (
                  at_make
                  refine wpList_make_full _ rfl _ _ 24 rfl wr.heap.size 3 i0 (.int .i64 0) 1 Tryd.underlying24 HI.out HZ0.out HZ1.out _ _ _ _ n rfl rfl rfl rfl (by rw [HZ2.out]; omega) (by unfold maxLen; omega) (Nat.le_refl _) ?_
                  intro w5 hown' hgr'
                  rw [madeCells_int] at hown'
                  have ho' : OwnInts wr.heap.size w5 (.slice (some ⟨wr.heap.size, 0, none⟩) n n) (List.replicate n 0) := by
                    unfold OwnInts; rw [List.length_replicate]; exact hown'
                  have hs5 := HS3.out.newI hgr' ho'
                  have hc5 := hs5.hd.cell (show n = (List.replicate n (0 : Int)).length by simp) (show t < (List.replicate n (0 : Int)).length by simpa using hlt)
                  have hf5 := hs5.hd.free (show n = (List.replicate n (0 : Int)).length by simp) t
                  have HP5 := Lib.hid (hs5.setI (show n = (List.replicate n (0 : Int)).length by simp) t 1)
                  clear hown' hgr' ho' hs5
                  generalize (List.replicate n (0 : Int))[t]'(by simpa using hlt) = old5 at hc5)
                generalize wr.heap.size = gv at *
                generalize w5.setCell ⟨gv, t, none⟩ (.int .i64 1) = w6 at *
                clear hc hc5 hf5
                obtain ⟨w7, hw7⟩ : ∃ w7, w7 = w6 := ⟨_, rfl⟩
                subst hw7
                go_loopw [62] (fun i wx => ∃ k2 : Nat, k2 ≤ k ∧ i = .int .i64 k2 ∧ Sep wx [OI (.slice (some ⟨gv, 0, none⟩) n n) (nullTo p n M t k2), OM u12 vs (nullPart p n M t), OI (.slice (some ⟨g, 0, none⟩) n n) zs, KeepA w1]) (fun i _ => k - (intOf i).toNat)
                case atStart => exact ⟨0, by omega, rfl, HP5.out⟩
                case round =>
                  obtain ⟨k2, hk2, rfl, hs⟩ := hrel
                  have HS6 := Lib.hid hs
                  clear hs
                  by_cases hlt2 : k2 < k
                  · have hkm : k2 < M.length := by rw [HML.out]; exact hlt2
                    obtain ⟨b, o, cap, ml, ra, rc, he, hcell, hrow0⟩ := HU.out.rowK HS6.out.s4.hd hkm
                    cases he
                    have hro := HROW.out _ (getD_mem hkm)
                    rw [hro.1] at hcell hrow0
                    have hll := HLT.out k2 hlt2
                    have HLD := Lib.hid fun wq (h : w1.grownBy wq none) => spLead_any _ _ wq (hrow0.carry h) (by rw [hro.1]; omega)
                    obtain ⟨d, rfl, hs1, hd1, hc1⟩ := (hrow0.carry HS6.out.s4.hd).at (show t < (M.getD k2 []).length by rw [hro.1]; exact hlt)
                    obtain ⟨db, dof, _⟩ := d
                    simp only at hs1 hc1
                    subst hs1
                    have hat : (M.getD k2 [])[t]'(by rw [hro.1]; exact hlt) = at2 M k2 t := by unfold at2; rw [getD_lt]
                    have hbd := hro.2 _ (List.getElem_mem (show t < (M.getD k2 []).length by rw [hro.1]; exact hlt))
                    rw [hat] at hc1 hbd
                    have hnx : nullTo p n M t (k2 + 1) = (nullTo p n M t k2).set (leadL (M.getD k2 [])) ((p - at2 M k2 t) % p) := rfl
                    have HNX := Lib.hid hnx
                    have hnl := (HNUL.out t k2).1
                    obtain ⟨old6, hv1⟩ : ∃ old6, wr.cell? ⟨gv, leadL (M.getD k2 []), none⟩ = some (.int .i64 old6) := ⟨_, HS6.out.hd.cell hnl.symm (show leadL (M.getD k2 []) < (nullTo p n M t k2).length by rw [hnl]; exact hll)⟩
                    have hv2 := HS6.out.hd.free hnl.symm (leadL (M.getD k2 []))
                    have HP6 := Lib.hid fun y => HS6.out.setI hnl.symm (leadL (M.getD k2 [])) y
                    clear hrow0 hro hkm hd1 hat hnx hnl
                    generalize at2 M k2 t = y at *
                    generalize leadL (M.getD k2 []) = ld at *
                    have HNEG := Lib.hid fun wq => fdNegE_any p y wq (by omega) (by omega) hbd.1 (by omega)
                    obtain ⟨nv, hnv⟩ : ∃ nv, nv = ((p : Int) - y) % p := ⟨_, rfl⟩
                    rw [← hnv] at HNEG HNX
                    clear hnv
                    have l0 : ((ld : Nat) : Int) < (n : Int) := by omega
                    have l1 : (0 : Int) ≤ ((ld : Nat) : Int) := by omega
                    have l2 : (0 : Int) ≤ (k2 : Int) := by omega
                    have l3 : (k2 : Int) < (k : Int) := by omega
                    go_wp2_with fail
                    refine wp_region_still_tail 13 (by kernel_rfl) (by kernel_rfl) ?_
                    simp only [List.take_succ_cons, List.take_zero, List.drop_succ_cons, List.drop_zero]
                    repeat still_step
                    still_call (calls_flip (HLD.out _ (HS6.out.dr.s4.hd)))
                    repeat still_step
                    still_call (calls_flip (HNEG.out _))
                    repeat still_step
                    refine wpStill_nil ?_
                    change wpList _ _ _ _ _ wr.drew
                    go_wp2
                    go_roundw
                    case rel => exact ⟨k2 + 1, by omega, by go_num, by rw [HNX.out]; exact (HP6.out _).dr⟩
                    case measure => simp [intOf]; omega
                  · have hkk : k2 = k := by omega
                    subst hkk
                    go_wp2_with (
                      at_builtin
                      refine app_rowS rfl _ _ rfl rfl rfl HS6.out A5.out ?_
                      intro g2 cap2 w8 hs8
                      have HS8 := Lib.hid hs8
                      clear hs8)
                    go_roundw
                    case rel => exact ⟨t + 1, _, by omega, by go_num, by rw [HNP.out, HML.out]; exact HS8.out⟩
                    case measure => simp [intOf]; omega
            · have htn : t = n := by omega
              subst htn
              have hM := HS3.out.hd.read
              obtain ⟨oa, oc, hoe⟩ := hM.shape
              subst hoe
              have HF := Lib.hid (HR2.out _ _ hM)
              have HK := Lib.hid HS3.out.s3.hd
              clear hM
              generalize (nullPart p t M t).length = nl at *
              go_wp2_with (go_at_call 168
                           with_reducible refine HF.out.mono ?_
                           rintro e w9 ⟨ra, rc, rfl, hp9, hg9⟩
                           have HP9 := Lib.hid hp9; have HG9 := Lib.hid hg9
                           clear hp9 hg9)
              go_ret
              exact ⟨ra, rc, rfl, HP9.out.base (Nat.le_trans HG.out.size HK.out.size), HG.out.trans (HK.out.trans HG9.out)⟩
end Go.Proofs.YtpeaeminjbjlnaaDoor

/-
  Separators: the program's and the specification's. Conditions: the sizes are small.
-/
namespace Go.Proofs.YtpeaeminjbjlnaaDoor
open Go.RowKit
set_option linter.unusedVariables false

theorem IsRed.len_le {p n : Nat} [NeZero p] {L : List (List Int)} (h : IsRed p n L) : L.length ≤ n := by
  obtain ⟨hok, piv, hr⟩ := h
  have key : ∀ i, i < L.length → i ≤ piv i := by
    intro i
    induction i with
    | zero => intro _; omega
    | succ i ih =>
      intro hi
      have h1 := ih (by omega)
      have h2 := hr.inc i (i + 1) (by omega) hi
      omega
  rcases Nat.eq_zero_or_pos L.length with h0 | h0
  · omega
  · have h1 := key (L.length - 1) (by omega)
    have h2 := hr.lt (L.length - 1) (by omega)
    omega
theorem Pre.rowOwn {B : Nat} {w : World} {v : Value} {K : List (List Int)} (h : Pre B w v K) {k : Nat} (hk : k < K.length) :
    ∃ g cap r c, v = .slice (some ⟨g, 0, none⟩) K.length cap ∧ w.cell? ⟨g, k, none⟩ = some (.slice r (K.getD k []).length c) ∧ OwnInts B w (.slice r (K.getD k []).length c) (K.getD k []) := by
  obtain ⟨a, m, c, c', vs, R, rfl, ho, hl, hK⟩ := h
  obtain ⟨g, cap, he, _, _, _⟩ := ho.head (fun h => by rw [h] at hl; have h2 : K.length ≤ 0 := hl; omega)
  cases he
  have hc := ho.cell rfl (show k < R.length by omega)
  have hr := ho.row k
  have e : K.getD k [] = R.getD k [] := by
    rw [hK]
    simp only [List.getD_eq_getElem?_getD]
    rw [List.getElem?_take, if_pos hk]
  obtain ⟨r, rc, hre⟩ := own_shape hr
  rw [hre] at hc hr
  rw [e]
  exact ⟨g, c', r, rc, rfl, hc, hr⟩
def SepPost (w : World) (so : Option (List Int)) (e : Ending) (w' : World) : Prop :=
  match so with
  | some z => ∃ o, e = .returned (.tuple #[o, .bool true]) ∧ IntsV w' o z ∧ w.grownBy w' none
  | none => e = .returned (.tuple #[nilS, .bool false]) ∧ w.grownBy w' none
theorem sepOf_at {p : Int} {K : List (List Int)} {x : List Int} {k : Nat} (hk : k < K.length) (h0 : ∀ i, i < k → dotP p (K.getD i []) x = 0) (h1 : dotP p (K.getD k []) x ≠ 0) : sepOf p K x = some (scaleV p (K.getD k []) (invI p (dotP p (K.getD k []) x))) := by
  unfold sepOf
  have e : K = K.take k ++ (K.getD k [] :: K.drop (k + 1)) := by
    rw [List.getD_eq_getElem?_getD, List.getElem?_eq_getElem hk, Option.getD_some, List.getElem_cons_drop, List.take_append_drop]
  have hn : (K.take k).find? (fun w => dotP p w x != 0) = none := by
    rw [List.find?_eq_none]
    intro w hw
    obtain ⟨i, hi, rfl⟩ := List.getElem_of_mem hw
    have hi' : i < k := by rw [List.length_take] at hi; omega
    have := h0 i hi'
    rw [List.getD_eq_getElem?_getD, List.getElem?_eq_getElem (by omega)] at this
    rw [List.getElem_take]
    simp only [Option.getD_some] at this
    rw [this]; decide
  have h2 : (K.take k ++ (K.getD k [] :: K.drop (k + 1))).find? (fun w => dotP p w x != 0) = some (K.getD k []) := by
    rw [List.find?_append, hn, Option.none_or, List.find?_cons_of_pos (by rw [bne_iff_ne]; exact h1)]
  rw [← e] at h2
  rw [h2]; rfl
theorem sepOf_end {p : Int} {K : List (List Int)} {x : List Int} (h0 : ∀ i, i < K.length → dotP p (K.getD i []) x = 0) : sepOf p K x = none := by
  unfold sepOf
  rw [Option.map_eq_none_iff, List.find?_eq_none]
  intro w hw
  obtain ⟨i, hi, rfl⟩ := List.getElem_of_mem hw
  have := h0 i hi
  rw [List.getD_eq_getElem?_getD, List.getElem?_eq_getElem hi, Option.getD_some] at this
  rw [this]; decide
theorem one_mat {w : World} {rv : Value} {z : List Int} (ho : OwnInts 0 w rv z) : OwnM 0 (w.alloc (.cells #[rv] 24)) (.slice (some ⟨w.heap.size, 0, none⟩) 1 1) [rv] [z] := by
  have hl := World.ownsRow_lit (e := 24) (base := 0) (size := 1) w #[rv] 1 (Nat.zero_le _) (by unfold maxLen; omega) rfl
  exact OwnM.join (vs := []) (L := []) rfl (fun i => by simp only [List.getD_nil]; exact OwnInts.nil 0 _) (fun i j _ k hk => absurd hk (by simp only [List.getD_nil]; exact nil_hits)) (ho.alloc _) (fun i k hk => absurd hk (by simp only [List.getD_nil]; exact nil_hits)) (by simpa using hl)

section
variable (p n : Int) (u v : Value) (L : List (List Int)) (x : List Int) (w : World) (hu : MatV w u L) (hv : IntsV w v x) (hl : L.length ≤ 1000000) (hll : ∀ row ∈ L, row.length ≤ 1000000) (hxl : x.length ≤ 1000000)
include hu hv hl hll hxl
set_option maxRecDepth 100000 in
theorem separatorOf_no (ht : Tab w) (hno : vectorB p n L x = false) : Calls Tryd.prog 72 #[.int .i64 p, mxV n u, v] w (SepPost w none) := by
  have HS := Lib.hid fun w' (hg : w.grownBy w' none) => isSpace_any p n u L w' (ht.grown hg) (hu.carry hg) hl hll
  have HX := Lib.hid fun w' (hg : w.grownBy w' none) => isVector_any p n v x w' (hv.carry hg) hxl
  unfold vectorB at hno
  unfold mxV at *
  obtain ⟨a, c, rfl⟩ := hu.shape
  obtain ⟨xa, xc, rfl, hvx⟩ := hv
  have e0 := Lib.hid (alloc_heap_new w (.cells #[.int .i64 n, .slice a L.length c] 74))
  clear hu hvx hll ht
  generalize L.length = l at *
  generalize x.length = xl at *
  cases h1 : spaceB p n L <;> cases h2 : vecB p n x
  all_goals
    rw [h1] at HS
    rw [h2] at HX
    first
      | (exfalso; rw [h1, h2] at hno; exact absurd hno (by decide))
      | (clear h1 h2 hno
         go_enter Tryd.func72, Tryd.ntmps72
         go_wp2_with (first
           | (go_at_call 171
              with_reducible refine (HS.out _ (grownBy_alloc _ _ none)).mono ?_
              rintro e w1 ⟨rfl, hg⟩
              obtain ⟨c0, c1, f0, f1⟩ := bx (bx_on e0.out hg)
              have HG := Lib.hid ((grownBy_alloc w _ none).trans hg)
              clear hg)
           | (go_at_call 173; with_reducible refine (HX.out _ HG.out).mono ?_; rintro e w' ⟨rfl, rfl⟩))
         go_ret2
         exact ⟨rfl, HG.out⟩)
set_option maxRecDepth 100000 in
set_option maxHeartbeats 1000000 in
theorem separatorOf_yes (ht : Tab w) (hb : vectorB p n L x = true) : Calls Tryd.prog 72 #[.int .i64 p, mxV n u, v] w (SepPost w (sepOf p (orthL p L n.toNat) x)) := by
  have HS := fun w' (hg : w.grownBy w' none) => isSpace_any p n u L w' (ht.grown hg) (hu.carry hg) hl hll
  have HX := fun w' (hg : w.grownBy w' none) => isVector_any p n v x w' (hv.carry hg) hxl
  have hb' := hb
  unfold vectorB at hb'
  rw [Bool.and_eq_true] at hb'
  rw [hb'.1] at HS
  rw [hb'.2] at HX
  have HS := Lib.hid HS; have HX := Lib.hid HX
  obtain ⟨q, i, m, rfl, rfl, h1, h2, h3, h4, h5, h6, h7⟩ := vectorB_nat hb
  rw [Int.toNat_natCast]
  have hxm := h7.1
  subst hxm
  have hp1 := lt_p h1
  have HO := Lib.hid fun w' (hg : w.grownBy w' none) => orthogonal_any q u L x.length w' h1 (by omega) (hu.carry hg) h6 (by omega) (by omega)
  have hor := (orth_red h1 h6).1
  have hkb := (orth_red h1 h6).len_le
  have HOR := Lib.hid hor
  have HF := Lib.hid h1
  have HV := Lib.hid hv
  have H7 := Lib.hid h7
  unfold mxV at *
  obtain ⟨a, c, rfl⟩ := hu.shape
  obtain ⟨xa, xc, rfl, hvx⟩ := hv
  have e0 := Lib.hid (alloc_heap_new w (.cells #[.int .i64 x.length, .slice a L.length c] 74))
  clear hu hvx hll ht hb hb' h5 h6 h7 hor
  generalize orthL q L x.length = K at *
  have hkl : K.length ≤ K.length := Nat.le_refl _
  generalize hKl : K.length = kl at *
  have HKL := Lib.hid hKl
  clear hKl hkl
  generalize L.length = l at *
  generalize x.length = m at *
  go_enter Tryd.func72, Tryd.ntmps72
  go_wp2_with (first
    | (go_at_call 171
       with_reducible refine (HS.out _ (grownBy_alloc _ _ none)).mono ?_
       rintro e w1 ⟨rfl, hg⟩
       obtain ⟨c0, c1, f0, f1⟩ := bx (bx_on e0.out hg)
       have HG := Lib.hid ((grownBy_alloc w _ none).trans hg)
       clear hg)
    | (go_at_call 173; with_reducible refine (HX.out _ HG.out).mono ?_; rintro e w' ⟨rfl, rfl⟩)
    | (go_at_call 172
       with_reducible refine (HO.out _ HG.out).mono ?_
       rintro e w2 ⟨ka, kc, rfl, hp, hg⟩
       have HP := Lib.hid hp; have HG2 := Lib.hid (HG.out.trans hg)
       clear hp hg c0 c1 f0 f1))
  go_loop [30] (fun i => ∃ k : Nat, k ≤ kl ∧ i = .int .i64 k ∧ (∀ j, j < k → dotP q (K.getD j []) x = 0)) (fun i => kl - (intOf i).toNat)
  case atStart => exact ⟨0, by omega, rfl, fun j h => absurd h (by omega)⟩
  case round =>
    obtain ⟨k, hk, rfl, hz⟩ := hrel
    have HZ := Lib.hid hz
    clear hz
    by_cases hlt : k < kl
    · have hkk : k < K.length := by rw [HKL.out]; exact hlt
      obtain ⟨g, cap, r, rc, he, hcell, hrow⟩ := HP.out.rowOwn hkk
      cases he
      have hro := HOR.out _ (getD_mem hkk)
      have hdb := dotP_bd (p := q) (K.getD k []) x
      have HDOT := Lib.hid (dot_any q _ _ (K.getD k []) x w2 hrow.read (HV.out.carry HG2.out) (by rw [hro.1, H7.out.1]) (by rw [hro.1]; omega) (by omega) (by omega) (fun z hz => by have := hro.2 z hz; omega) (fun z hz => by have := H7.out.2 z hz; omega))
      rw [show dotTo (K.getD k []) x (K.getD k []).length % q = dotP q (K.getD k []) x from rfl] at HDOT
      rw [hro.1] at hcell hrow HDOT
      have HRO := Lib.hid hro
      clear hro
      by_cases hd0 : dotP q (K.getD k []) x = 0
      · rw [hd0] at HDOT
        have HD0 := Lib.hid hd0
        clear hd0 hdb hrow hkk
        go_wp2_with (go_at_call 195
                     with_reducible refine HDOT.out.mono ?_
                     rintro e w' ⟨rfl, rfl⟩)
        go_round
        case rel => exact ⟨k + 1, by omega, by go_num, fun j hj => by
          by_cases hjk : j = k
          · rw [hjk]; exact HD0.out
          · exact HZ.out j (by omega)⟩
        case measure => simp [intOf]; omega
      · have HSEP := Lib.hid (sepOf_at hkk HZ.out hd0)
        have hw : w.heap.size ≤ w2.heap.size := HG2.out.size
        have HAP := Lib.hid (divide_any q 0 (dotP q (K.getD k []) x) _ _ _ 0 _ (one_mat (hrow.base (Nat.zero_le _))) (by simp) (by simp) (fun row hrow => by rw [List.mem_singleton] at hrow; rw [hrow]; have := HRO.out.1; omega) (by omega) (by omega) hdb.1 (by omega)
          (fun row hrow z hz => by rw [List.mem_singleton] at hrow; rw [hrow] at hz; have := HRO.out.2 z hz; omega))
        have HRW := Lib.hid hrow
        generalize hby : dotP q (K.getD k []) x = by' at *
        have hbb : (by' != 0) = true := by rw [bne_iff_ne]; exact hd0
        unfold opV at HAP
        rw [show ((0 : Nat) : Int) = 0 from rfl] at HAP
        clear hby hrow hkk
        go_wp2_with (first
          | (go_at_call 195
             with_reducible refine HDOT.out.mono ?_
             rintro e w' ⟨rfl, rfl⟩)
          | (go_at_call 196
             go_loud (with_reducible refine HAP.out.mono ?_)
             rintro e w3 ⟨rfl, ho3, hon3⟩
             have HO3 := Lib.hid ho3; have HN3 := Lib.hid hon3
             clear ho3 hon3))
        go_ret2
        rw [HSEP.out]
        have hrow3 := HO3.out.row 0
        refine ⟨_, rfl, ?_, ?_⟩
        · have h := hrow3.read
          simpa [divL] using h
        · refine grown_of_below (((Below.grown (Below.refl _ w) HG2.out (Nat.le_refl _) (by simp)).alloc hw _).trans (HN3.out.below (by simp; omega) fun t ht => ?_))
          rcases ht with ht | ⟨y, hy, ht⟩
          · simp only [Hits, Value.ownBlock, Option.some.injEq] at ht
            omega
          · rw [List.mem_singleton] at hy
            rw [hy] at ht
            have h1 := (HRW.out.lt t ht).1
            have h2 := HG.out.size
            omega
    · have HEND := Lib.hid (sepOf_end fun j hj => HZ.out j (by have := HKL.out; omega))
      go_wp2
      go_ret2
      rw [HEND.out]
      exact ⟨rfl, HG2.out⟩
end
end Go.Proofs.YtpeaeminjbjlnaaDoor

/-
  Preimages of valid spaces. Conditions: the space and the matrix are valid and fit.
-/
namespace Go.Proofs.YtpeaeminjbjlnaaDoor
open Go.RowKit
set_option linter.unusedVariables false

theorem preB_nat {p n m : Int} {A M : List (List Int)} (h : preB p n A m M = true) : ∃ (q : Nat) (_ : NeZero q) (k : Nat), p = q ∧ n = k ∧ m = k ∧ fldN q = true ∧ q ≤ 97 ∧ k ≤ 24 ∧ A.length ≤ k ∧ M.length ≤ 24 ∧ IsRed q k A ∧ RowsOk q k A ∧ RowsOk q k M ∧ spaceB q k A = true ∧ matB q k M = true := by
  unfold preB at h
  simp only [Bool.and_eq_true, beq_iff_eq] at h
  obtain ⟨h1, h2, rfl⟩ := h
  obtain ⟨q, i, k, rfl, rfl, a1, a2, a3, a4, a5, a6⟩ := spaceB_nat h1
  obtain ⟨_, _, k2, e, _, hm, hM⟩ := matB_parts h2
  obtain rfl : k = k2 := by omega
  exact ⟨q, i, k, rfl, rfl, rfl, a1, a2, a3, a4, hm, a5, a6, hM, h1, h2⟩
theorem take_D {L : List (List Int)} {i n : Nat} : (L.map fun x => x.take n).getD i [] = (L.getD i []).take n := by
  rw [List.getD_eq_getElem?_getD, List.getD_eq_getElem?_getD, List.getElem?_map]
  cases L[i]? <;> simp
/-- a row is appended to the list of parts -/
theorem parts_snoc {w : World} {us : List Value} {K : List (List Int)} {n g : Nat} {u : Value} (hl : us.length ≤ K.length) (h : ∀ j, j < us.length → IntsV w (us.getD j nilS) ((K.getD j []).take n) ∧ ∀ k, Value.blk' (us.getD j nilS) = some k → k ≠ g)
    (hu : IntsV w u ((K.getD us.length []).take n) ∧ ∀ k, Value.blk' u = some k → k ≠ g) : ∀ j, j < (us ++ [u]).length → IntsV w ((us ++ [u]).getD j nilS) ((K.getD j []).take n) ∧ ∀ k, Value.blk' ((us ++ [u]).getD j nilS) = some k → k ≠ g := by
  intro j hj
  rw [List.length_append, List.length_singleton] at hj
  by_cases e : j < us.length
  · have : (us ++ [u]).getD j nilS = us.getD j nilS := by rw [List.getD_eq_getElem?_getD, List.getElem?_append_left e, ← List.getD_eq_getElem?_getD]
    rw [this]
    exact h j e
  · have e2 : j = us.length := by omega
    subst e2
    have : (us ++ [u]).getD us.length nilS = u := by rw [List.getD_eq_getElem?_getD, List.getElem?_append_right (Nat.le_refl _)]; simp
    rw [this]
    exact hu
theorem parts_read {w w' : World} {g n : Nat} {v : Value} {us : List Value} {K : List (List Int)} {B : Nat} (hs : w'.ownsRow B 24 1 v us.length us) (hl : us.length = K.length) (hg : w.grownBy w' (some g)) (h : ∀ j, j < us.length → IntsV w (us.getD j nilS) ((K.getD j []).take n) ∧ ∀ k, Value.blk' (us.getD j nilS) = some k → k ≠ g) :
    MatV w' v (K.map fun x => x.take n) := by
  refine owns_read hs (by rw [List.length_map]; exact hl) fun i hi => ?_
  rw [List.length_map] at hi
  rw [take_D]
  obtain ⟨h1, h2⟩ := h i (by omega)
  exact h1.only (Only.of_some hg) fun k hk hk' => h2 k hk hk'

set_option maxRecDepth 100000 in
set_option maxHeartbeats 2000000 in
theorem preimageOf_yes (p n m : Int) (u v : Value) (A M : List (List Int)) (w : World) (ht : Tab w) (hu : MatV w u A) (hv : MatV w v M) (hb : preB p n A m M = true) :
    Calls Tryd.prog 58 #[.int .i64 p, mxV n u, mxV m v] w fun e w' => ∃ o, e = .returned (.tuple #[mxV M.length o, .bool true]) ∧ MatV w' o (preL p n.toNat M A) ∧ w.grownBy w' none := by
  obtain ⟨q, iq, k, rfl, rfl, rfl, hf, hq, hk, hla, hlm, hR, hA, hM, hb1, hb2⟩ := preB_nat hb
  rw [Int.toNat_natCast]
  have H1 := fun W (hg : w.grownBy W none) => isSpace_any q k u A W (ht.grown hg) (hu.carry hg) (by omega) (fun row hr => by rw [(hA row hr).1]; omega)
  have H2 := fun W (hg : w.grownBy W none) => isMatrix_any q k v M W (ht.grown hg) (hv.carry hg) (by omega) (fun row hr => by rw [(hM row hr).1]; omega)
  rw [hb1] at H1
  rw [hb2] at H2
  have H1 := Lib.hid H1; have H2 := Lib.hid H2
  have H3 := Lib.hid fun W (hg : w.grownBy W none) => clones_any v M W (hv.carry hg) (by omega) (fun row hr => by rw [(hM row hr).1]; omega)
  have H4 := Lib.hid fun W o (h : MatV W o (M ++ A)) => kernel_own q o (M ++ A) k W hf (by omega) h (app_ok hM hA) (by rw [List.length_append]; omega) (by omega)
  have hkr := (kernelL_red hf (app_ok hM hA)).1
  have hkn := (kernelL_red hf (app_ok hM hA)).len_le
  have hpo := preRows_ok hf hM hA
  have H5 := Lib.hid fun W o (h : MatV W o (preRows q k M A)) => span_any q M.length o (preRows q k M A) W hf (by omega) h hpo (by simp [preRows]; rw [List.length_append] at hkn; omega) (by omega)
  have HPR := Lib.hid (show preRows q k M A = (kernelL q k (M ++ A)).map fun x => x.take M.length from rfl)
  have HPL := Lib.hid (show reducedL q M.length (preRows q k M A) = preL q k M A from rfl)
  have HKR := Lib.hid (show ∀ i, i < (kernelL q k (M ++ A)).length → ((kernelL q k (M ++ A)).getD i []).length = M.length + A.length from fun i hi => by rw [(hkr _ (getD_mem hi)).1, List.length_append])
  have HV := Lib.hid fun W (hg : w.grownBy W none) => hu.carry hg
  have hkn2 : (kernelL q k (M ++ A)).length ≤ 100 := by rw [List.length_append] at hkn; omega
  obtain ⟨ua, uc, rfl⟩ := hu.shape
  obtain ⟨va, vc, rfl⟩ := hv.shape
  unfold mxV at *
  rw [HPL.out] at H5
  generalize preRows q k M A = PR at *
  generalize preL q k M A = PL at *
  generalize kernelL q k (M ++ A) = K at *
  generalize hal : A.length = la at *
  generalize hml : M.length = lm at *
  have HAL := Lib.hid hal; have HML := Lib.hid hml
  have HS := Lib.hid ((((Sep.start w).box #[.int .i64 k, .slice ua la uc] 74).box #[.int .i64 k, .slice va lm vc] 39).box #[.int .i64 0, .slice none 0 0] 74)
  have HG := Lib.hid (show w.grownBy _ none from HS.out.tl.tl.tl.hd)
  simp only [show ∀ (W : World) o, (W.alloc o).heap.size = W.heap.size + 1 from fun W o => by simp] at HS
  obtain ⟨y0, y1, y2, y3⟩ := bx HS.out.s3.hd
  obtain ⟨z0, z1, z2, z3⟩ := bx HS.out.s2.hd
  clear hu hv hA hM hb hal hml hR hf hkr hkn hpo hb1 hb2 HPL
  go_enter Tryd.func58, Tryd.ntmps58
  go_wp2_with (first
    | (go_at_call 171
       go_loud (with_reducible refine (H1.out _ HG.out).mono ?_)
       rintro e w1 ⟨rfl, g1⟩
       have HS1 := Lib.hid (HS.out.grown g1)
       have HG1 := Lib.hid (HG.out.trans g1)
       obtain ⟨a0, a1, a2, a3⟩ := bx HS1.out.s3.hd
       obtain ⟨b0, b1, b2, b3⟩ := bx HS1.out.s2.hd
       clear g1)
    | (go_at_call 117
       go_loud (with_reducible refine (H2.out _ HG1.out).mono ?_)
       rintro e w2 ⟨rfl, g2⟩
       have HS2 := Lib.hid (HS1.out.grown g2)
       obtain ⟨e0, e1, e2, e3⟩ := bx HS2.out.s3.hd
       obtain ⟨f0, f1, f2, f3⟩ := bx HS2.out.s2.hd
       clear g2))
  have HSE := Lib.hid HS2.out.emptyS
  generalize hg5 : w2.heap.size = g5 at *
  generalize w2.alloc (.cells #[] 24) = w5 at *
  have hgd : w5.grownBy w5.drew none := ⟨rfl, rfl, rfl, Nat.le_refl _, fun _ _ _ => rfl⟩
  have HSF := Lib.hid fun W (h : w5.grownBy W none) => HSE.out.grown h
  have HGW := Lib.hid (show w.grownBy w5.drew none from (HSF.out _ hgd).tl.tl.tl.tl.hd)
  have HGD := Lib.hid hgd
  have hlt5 : g5 < w5.drew.heap.size := (World.ownsRow.lt (HSF.out _ hgd).hd g5 rfl).2
  obtain ⟨p0, p1, p2, p3⟩ := bx (HSF.out _ hgd).s4.hd
  obtain ⟨p4, p5, p6, p7⟩ := bx (HSF.out _ hgd).s3.hd
  clear hgd
  go_upto_region 5 with fail
  go_cut [43, 44, 45] from 34 to 45 (fun kk ll ii wx => ∃ (ka : Option Addr) (kc : Nat), kk = .slice ka K.length kc ∧ ll = .int .i64 K.length ∧ ii = .int .i64 0 ∧ Pre w5.drew.heap.size wx (.slice ka K.length kc) K ∧ w5.grownBy wx none)
  case first =>
    go_region_law (first
      | (try go_simp
         go_at_call 118
         go_loud (refine (H3.out _ HGW.out).mono ?_)
         rintro e w6 ⟨o, vs, rfl, ho, g2⟩
         obtain ⟨oa, oc, hoe, _, _⟩ := own_form ho
         subst hoe
         rw [HML.out] at ho ⊢
         have HO := Lib.hid ho
         have HG2 := Lib.hid g2
         obtain ⟨q0, q1, q2, q3⟩ := bx (HSF.out _ (HGD.out.trans g2)).s4.hd
         obtain ⟨q4, q5, q6, q7⟩ := bx (HSF.out _ (HGD.out.trans g2)).s3.hd
         clear ho g2)
      | (go_loud (refine step_app_rows rfl _ _ rfl rfl rfl (HO.out.mixed (w0 := w5.drew)) (HV.out _ HGW.out) (Nat.le_refl _) HG2.out.size HG2.out (by rw [HML.out]; omega) (by rw [HAL.out]; omega) ?_)
         intro a3 c3 us3 w7 hmx hbz g3
         have HMX := Lib.hid (hmx.read g3)
         rw [HAL.out, HML.out] at HMX ⊢
         have HG3 := Lib.hid (HGW.out.trans g3)
         have HGE := Lib.hid (HGD.out.trans g3)
         have hsz7 := g3.size
         obtain ⟨r0, r1, r2, r3⟩ := bx (HSF.out _ (HGD.out.trans g3)).s4.hd
         obtain ⟨r4, r5, r6, r7⟩ := bx (HSF.out _ (HGD.out.trans g3)).s3.hd
         clear hmx hbz g3)
      | (try go_simp
         go_at_call 127
         go_loud (with_reducible refine (H4.out _ _ HMX.out).mono ?_)
         rintro e w8 ⟨ka, kc, rfl, hp, g4⟩
         have HS8 := Lib.hid (HSF.out _ (HGE.out.trans g4))
         have HP := Lib.hid hp
         have HGK := Lib.hid (HGE.out.trans g4)
         obtain ⟨t0, t1, t2, t3⟩ := bx (HSF.out _ (HGE.out.trans g4)).s4.hd
         obtain ⟨t4, t5, t6, t7⟩ := bx (HSF.out _ (HGE.out.trans g4)).s3.hd
         clear hp g4))
    all_goals
      go_wp2_with fail
      go_meet
      exact ⟨ka, kc, rfl, rfl, rfl, HP.out.base hsz7, HGK.out⟩
  case rest =>
    obtain ⟨ka, kc, rfl, rfl, rfl, hpre, hgk⟩ := hcut
    have HP := Lib.hid hpre
    have HS8 := Lib.hid (HSF.out _ hgk)
    have hg8 : w.grownBy wc none := (HSF.out _ hgk).tl.tl.tl.tl.hd
    have HG8 := Lib.hid hg8
    have HST := Lib.hid (HSF.out _ hgk).fresh
    have hlt8 : g5 < w5.drew.heap.size := hlt5
    clear hpre hgk hg8
    generalize hKl : K.length = lk at *
    have HKL := Lib.hid hKl
    clear hKl
    go_wp2_with fail
    go_loopw [9, 45] (fun out i wr => ∃ (t : Nat) (us : List Value), t ≤ lk ∧ i = .int .i64 t ∧ us.length = t ∧ (∀ j, j < us.length → IntsV wc (us.getD j nilS) ((K.getD j []).take lm) ∧ ∀ k, Value.blk' (us.getD j nilS) = some k → k ≠ g5) ∧ Sep wr [OS out us, KeepX wc g5]) (fun _ i _ => lk - (intOf i).toNat)
    case atStart => exact ⟨0, [], by omega, rfl, rfl, fun j h => absurd h (by simp), HST.out⟩
    case round =>
      obtain ⟨t, us, htk, rfl, hul, hus, hs⟩ := hrel
      have HSX := Lib.hid hs; have HUS := Lib.hid hus; have HUL := Lib.hid hul
      have hg := hs.s2.hd
      clear hs hus hul
      by_cases hlt : t < lk
      · obtain ⟨kb, kcap, kml, r, rcp, he, hcell, hrow, hcp, hr0, hblk⟩ := HP.out.rowX hg hlt8 (show t < K.length by rw [HKL.out]; exact hlt)
        cases he
        have hrl := HKR.out t hlt
        rw [hrl] at hcell hrow hcp hblk
        have hul := HUL.out
        have HNX := Lib.hid (parts_snoc (u := .slice r lm rcp) (n := lm) (g := g5) (K := K) (w := wc) (us := us) (by rw [HUL.out, HKL.out]; omega) HUS.out ⟨by rw [HUL.out]; exact hrow.take (by rw [hrl]; omega) rcp, fun k hk => by
          have := hblk k (by rw [← hk]; cases r <;> rfl)
          omega⟩)
        have hcp2 : ((lm : Nat) : Int) ≤ ((rcp : Nat) : Int) := by omega
        have hcp3 : lm ≤ rcp := by omega
        clear hrow hblk hg hrl
        go_wp2_with (
          at_builtin
          refine app_share rfl _ _ rfl rfl rfl HSX.out slice_one (by rw [HUL.out]; omega) ?_
          intro g2 cap2 w9 hs9
          have HS9 := Lib.hid hs9
          clear hs9)
        go_roundw
        case rel => exact ⟨t + 1, _, by omega, by go_num, by rw [List.length_append, HUL.out]; rfl, HNX.out, by have h := HS9.out; rw [HUL.out] at h; exact h⟩
        case measure => simp [intOf]; omega
      · have hrd : MatV wr u9 PR := by
          rw [HPR.out]
          exact parts_read HSX.out.hd (by rw [HUL.out, HKL.out]; omega) hg HUS.out
        obtain ⟨xa, xc, rfl⟩ := hrd.shape
        have HRD := Lib.hid hrd
        have HBX := Lib.hid (HS8.out.past hg)
        clear hrd hg
        generalize PR.length = pl at *
        go_wp2_with (
          go_at_call 166
          go_loud (refine (H5.out _ _ HRD.out).mono ?_)
          rintro e w9 ⟨o4, rfl, hp, g9⟩
          obtain ⟨ra, rc, rfl⟩ := hp.shape
          have HX9 := Lib.hid (HBX.out.grown g9)
          have hsz := lt_of_blk HBX.out.hd
          have HPP := Lib.hid hp
          obtain ⟨t0, t1, t2, t3⟩ := bx HX9.out.hd
          clear hp g9)
        have HD4 := Lib.hid ((HX9.out.setB 0 (.int .i64 lm)).setB 1 (.slice ra PL.length rc))
        have HMM := Lib.hid ((HPP.out.only (one_set (w := w9) (w.heap.size + 1 + 1) (.int .i64 lm) (.slice ra PL.length rc)) (fun k' hk' => by have : k' = w.heap.size + 1 + 1 := hk'; omega)).read)
        have HE := Lib.hid (show w.grownBy _ none from HD4.out.tl.tl.tl.hd)
        generalize PL.length = rl at *
        refine bodyPost_ret_by (v := .tuple #[.agg #[.int .i64 lm, .slice ra rl rc], .bool true]) ?_ rfl ⟨_, rfl, HMM.out, HE.out⟩
        simp [results, go_sem, *]
end Go.Proofs.YtpeaeminjbjlnaaDoor

/-
  The specification's separators. Conditions: the sizes are small.
-/
namespace Go.Proofs.YtpeaeminjbjlnaaDoor
open Go.RowKit
set_option linter.unusedVariables false

section
variable (p n : Int) (u v : Value) (L : List (List Int)) (x : List Int) (w : World) (hu : MatV w u L) (hv : IntsV w v x) (hl : L.length ≤ 1000000) (hll : ∀ row ∈ L, row.length ≤ 1000000) (hxl : x.length ≤ 1000000) (hp0 : -1000 ≤ p) (hp1 : p ≤ 1000)
include hu hv hl hll hxl hp0 hp1
set_option maxRecDepth 100000 in
theorem sSeparatorOf_no (hno : vectorB p n L x = false) : Calls Tryd.prog 73 #[.int .i64 p, mxV n u, v] w (SepPost w none) := by
  have HS := fun w' (hg : w.grownBy w' none) => spVector_any p n u v L x w' (hu.carry hg) (hv.carry hg) hl hll hxl hp0 hp1
  rw [hno] at HS
  have HS := Lib.hid HS
  unfold mxV at *
  obtain ⟨a, c, rfl⟩ := hu.shape
  obtain ⟨xa, xc, rfl, hvx⟩ := hv
  clear hu hvx hll hno
  generalize L.length = l at *
  generalize x.length = xl at *
  go_enter Tryd.func73, Tryd.ntmps73
  go_wp2_with (go_at_call 197
               with_reducible refine (HS.out _ (grownBy_alloc _ _ none)).mono ?_
               rintro e w1 ⟨rfl, hg⟩
               have HG := Lib.hid ((grownBy_alloc w _ none).trans hg)
               clear hg)
  go_ret2
  exact ⟨rfl, HG.out⟩
set_option maxRecDepth 100000 in
set_option maxHeartbeats 1000000 in
theorem sSeparatorOf_yes (hb : vectorB p n L x = true) : Calls Tryd.prog 73 #[.int .i64 p, mxV n u, v] w (SepPost w (sepOf p (orthL p L n.toNat) x)) := by
  have HS := fun w' (hg : w.grownBy w' none) => spVector_any p n u v L x w' (hu.carry hg) (hv.carry hg) hl hll hxl hp0 hp1
  rw [hb] at HS
  have HS := Lib.hid HS
  obtain ⟨q, i, m, rfl, rfl, h1, h2, h3, h4, h5, h6, h7⟩ := vectorB_nat hb
  rw [Int.toNat_natCast]
  have hxm := h7.1
  subst hxm
  have hp1 := lt_p h1
  have HO := Lib.hid fun w' (hg : w.grownBy w' none) => spNull_any q x.length u L w' h1 (by omega) (hu.carry hg) h6 (by omega) (by omega)
  have hor := (orth_red h1 h6).1
  have hkb := (orth_red h1 h6).len_le
  have HOR := Lib.hid hor
  have HF := Lib.hid h1
  have HV := Lib.hid hv
  have H7 := Lib.hid h7
  unfold mxV at *
  obtain ⟨a, c, rfl⟩ := hu.shape
  obtain ⟨xa, xc, rfl, hvx⟩ := hv
  have e0 := Lib.hid (alloc_heap_new w (.cells #[.int .i64 x.length, .slice a L.length c] 74))
  clear hu hvx hll hb h1 h5 h6 h7 hor
  generalize orthL q L x.length = K at *
  generalize hKl : K.length = kl at *
  have HKL := Lib.hid hKl
  clear hKl
  generalize L.length = l at *
  generalize x.length = m at *
  go_enter Tryd.func73, Tryd.ntmps73
  go_wp2_with (first
    | (go_at_call 197
       with_reducible refine (HS.out _ (grownBy_alloc _ _ none)).mono ?_
       rintro e w1 ⟨rfl, hg⟩
       obtain ⟨c0, c1, f0, f1⟩ := bx (bx_on e0.out hg)
       have HG := Lib.hid ((grownBy_alloc w _ none).trans hg)
       clear hg)
    | (go_at_call 177
       with_reducible refine (HO.out _ HG.out).mono ?_
       rintro e w2 ⟨ka, kc, rfl, hp, hg⟩
       have HP := Lib.hid hp.read; have HG2 := Lib.hid (HG.out.trans hg)
       clear hp hg c0 c1 f0 f1))
  go_loopw [27] (fun i wr => ∃ k : Nat, k ≤ kl ∧ i = .int .i64 k ∧ (∀ j, j < k → dotP q (K.getD j []) x = 0) ∧ w2.grownBy wr none) (fun i _ => kl - (intOf i).toNat)
  case atStart => exact ⟨0, by omega, rfl, fun j h => absurd h (by omega), grownBy_refl _ _⟩
  case round =>
    obtain ⟨k, hk, rfl, hz, hgr⟩ := hrel
    have HZ := Lib.hid hz; have HGR := Lib.hid hgr
    clear hz hgr
    by_cases hlt : k < kl
    · have hkk : k < K.length := by rw [HKL.out]; exact hlt
      obtain ⟨b, o, cap, ml, r, rc, he, hcell, hrow0⟩ := HP.out.rowK HGR.out hkk
      cases he
      have hro := HOR.out _ (getD_mem hkk)
      have hdb := dotP_bd (p := q) (K.getD k []) x
      have HDOT := Lib.hid (spDot_q q _ _ (K.getD k []) x wr (hrow0.carry HGR.out) (HV.out.carry (HG2.out.trans HGR.out)) (by rw [hro.1, H7.out.1]) (by rw [hro.1]; omega) (by omega) (by omega) (fun z hz => by have := hro.2 z hz; omega) (fun z hz => by have := H7.out.2 z hz; omega))
      rw [show dotTo (K.getD k []) x (K.getD k []).length % q = dotP q (K.getD k []) x from rfl] at HDOT
      rw [hro.1] at hcell HDOT hrow0
      have HRO := Lib.hid hro; have HROW := Lib.hid hrow0
      clear hro hrow0
      by_cases hd0 : dotP q (K.getD k []) x = 0
      · rw [hd0] at HDOT
        have HD0 := Lib.hid hd0
        clear hd0 hdb hkk
        go_wp2_with (go_at_call 178
                     with_reducible refine HDOT.out.mono ?_
                     rintro e w' ⟨rfl, q3, rfl⟩)
        go_roundw
        case rel => exact ⟨k + 1, by omega, by go_num, fun j hj => by
          by_cases hjk : j = k
          · rw [hjk]; exact HD0.out
          · exact HZ.out j (by omega), HGR.out.trans (grown_drewN _ _)⟩
        case measure => simp [intOf]; omega
      · have HSEP := Lib.hid (sepOf_at hkk HZ.out hd0)
        obtain ⟨hi1, hi2, hi3⟩ := inv_ok HF.out (show 0 < dotP q (K.getD k []) x by omega) hdb.2
        have HINV := Lib.hid fun wq => fdInvS_any q (dotP q (K.getD k []) x) wq HF.out (by omega) (by omega) hdb.2
        generalize hby : dotP q (K.getD k []) x = by' at *
        have hbb : (by' == 0) = false := by rw [beq_eq_false_iff_ne]; exact hd0
        generalize hiv : invI q by' = iv at *
        generalize K.getD k [] = row at *
        clear hby hkk hiv hi1
        go_wp2_with (first
          | (go_at_call 178
             with_reducible refine HDOT.out.mono ?_
             rintro e w' ⟨rfl, q3, rfl⟩)
          | (go_at_call 198
             with_reducible refine (HINV.out _).mono ?_
             rintro e w' ⟨rfl, rfl⟩))
        have HG3 := Lib.hid (HGR.out.trans (grown_drewN wr q3))
        generalize wr.drewN q3 = w5 at *
        clear hcell
        have HSC := Lib.hid (show (scaleV q row iv).length = m by simp only [scaleV, List.length_map]; exact HRO.out.1)
        go_loopw [12, 42] (fun out i wx => ∃ k2 : Nat, k2 ≤ m ∧ i = .int .i64 k2 ∧ Sep wx [OI out ((scaleV q row iv).take k2), KeepA w5]) (fun _ i _ => m - (intOf i).toNat)
        case atStart => exact ⟨0, by omega, rfl, (Sep.start w5).nilI⟩
        case round =>
          obtain ⟨k2, hk2, rfl, hs⟩ := hrel
          have HS6 := Lib.hid hs
          clear hs
          by_cases hlt2 : k2 < m
          · obtain ⟨d, rfl, hs1, hd1, hc1⟩ := (HROW.out.carry (HG3.out.trans HS6.out.s2.hd)).at (show k2 < row.length by rw [HRO.out.1]; exact hlt2)
            obtain ⟨db, dof, _⟩ := d
            simp only at hs1 hc1
            subst hs1
            have hbd := HRO.out.2 _ (List.getElem_mem (show k2 < row.length by rw [HRO.out.1]; exact hlt2))
            have hsn := take_snocD 0 (show k2 < (scaleV q row iv).length by rw [HSC.out]; exact hlt2)
            rw [scale_getD (by rw [HRO.out.1]; exact hlt2), getD_lt (by rw [HRO.out.1]; exact hlt2)] at hsn
            have HSN := Lib.hid hsn
            generalize row[k2]'(by rw [HRO.out.1]; exact hlt2) = y at *
            have HMUL := Lib.hid fun wq => fdMulS_any q y iv wq (by omega) (by omega) hbd.1 (by omega) (by omega) (by omega)
            have A5 := Lib.hid (show ((scaleV q row iv).take k2).length ≤ 1000000000 by rw [List.length_take]; omega)
            clear hsn hd1
            generalize y * iv % (q : Int) = ny at *
            go_wp2_with (first
              | (go_at_call 199
                 with_reducible refine (HMUL.out _).mono ?_
                 rintro e w' ⟨rfl, rfl⟩)
              | (at_builtin
                 refine app_intS rfl _ _ rfl rfl rfl HS6.out A5.out ?_
                 intro g2 cap2 w7 hs7
                 have HS7 := Lib.hid hs7
                 clear hs7))
            go_roundw
            case rel => exact ⟨k2 + 1, by omega, by go_num, by have h := HS7.out; rw [List.length_take] at h; rw [HSN.out]; exact h⟩
            case measure => simp [intOf]; omega
          · have ht : (scaleV q row iv).take k2 = scaleV q row iv := List.take_of_length_le (by rw [HSC.out]; omega)
            have HTK := Lib.hid ht
            clear ht
            go_wp2
            go_ret2
            rw [HSEP.out]
            exact ⟨_, rfl, by have h := HS6.out.hd.read; rw [HTK.out] at h; exact h, HG2.out.trans (HG3.out.trans HS6.out.s2.hd)⟩
    · have HEND := Lib.hid (sepOf_end fun j hj => HZ.out j (by have := HKL.out; omega))
      go_wp2
      go_ret2
      rw [HEND.out]
      exact ⟨rfl, HG2.out.trans HGR.out⟩
end
end Go.Proofs.YtpeaeminjbjlnaaDoor

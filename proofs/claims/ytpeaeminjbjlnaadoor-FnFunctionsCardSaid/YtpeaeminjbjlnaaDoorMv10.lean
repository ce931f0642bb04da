/-
  The specification's reduction of lists. Conditions: the sizes are small.
-/
import Derived.Test.YtpeaeminjbjlnaaDoorMv08
import Derived.Test.YtpeaeminjbjlnaaDoorMv03
import Derived.Deep.RegionWith
import Derived.StillTailTactics
import Derived.Deep.CutRange
import Derived.Test.YtpeaeminjbjlnaaDoorMv05
namespace Go.Proofs.YtpeaeminjbjlnaaDoor
open Go.RowKit
set_option linter.unusedVariables false

theorem swapL_comm {L : List (List Int)} (a b : Nat) : swapL L a b = swapL L b a := by
  unfold swapL
  by_cases h : a = b
  · subst h; rfl
  · rw [List.set_comm _ _ h]
theorem redTo_full {p : Int} {R T : List (List Int)} {n k : Nat} (hk : k ≤ n) (h : (redTo p R T k).r = (redTo p R T k).R.length) : redTo p R T n = redTo p R T k := by
  induction n with
  | zero => rw [show k = 0 by omega]
  | succ n ih =>
    by_cases e : k = n + 1
    · rw [e]
    · have ih := ih (by omega)
      show stepL p n (redTo p R T n) = _
      rw [ih]
      unfold stepL
      rw [pivAt_is_none (by omega) (fun l h1 h2 => by omega)]
/-- what the three assignments that exchange two rows read and leave -/
theorem Sep.swapM {w : World} {l : List Asrt} {g n cap : Nat} {vs : List Value} {L : List (List Int)} (h : Sep w (OM (.slice (some ⟨g, 0, none⟩) n cap) vs L :: l)) (hn : n = L.length) {r j : Nat} (hr : r < L.length) (hj : j < L.length) :
    w.cell? ⟨g, r, none⟩ = some (vs.getD r nilS) ∧ w.cell? ⟨g, j, none⟩ = some (vs.getD j nilS) ∧ w.frozen? ⟨g, r, none⟩ = false ∧ w.frozen? ⟨g, j, none⟩ = false ∧
      ∃ vs', Sep ((w.setCell ⟨g, r, none⟩ (vs.getD j nilS)).setCell ⟨g, j, none⟩ (vs.getD r nilS)) (OM (.slice (some ⟨g, 0, none⟩) n cap) vs' (swapL L r j) :: l) := by
  subst hn
  have hlen := h.hd.len
  refine ⟨h.hd.cell rfl hr, h.hd.cell rfl hj, h.hd.free rfl r, h.hd.free rfl j, ?_⟩
  have o1 := h.hd.out
  rw [hlen] at o1
  have s1 := World.ownsRow.stored o1 r (vs.getD j nilS)
  have n1 : Only (· = g) w _ := Only.of_grown s1.2 fun k hk => by simp at hk; exact hk.symm
  have s2 := World.ownsRow.stored s1.1 j (vs.getD r nilS)
  have n2 : Only (· = g) _ _ := Only.of_grown s2.2 fun k hk => by simp at hk; exact hk.symm
  have nn := n1.trans n2
  have S1 : ∀ k, k = g → ∀ i, ¬ Hits (vs.getD i nilS) k := by
    intro k hk i hi
    subst hk
    exact apart_types h.hd.out (h.hd.row i) (by decide) _ rfl hi
  by_cases hne : j = r
  · subst hne
    rw [swapL_self hr]
    have e : (vs.set j (vs.getD j nilS)).set j (vs.getD j nilS) = vs := by
      rw [List.set_set]
      refine List.ext_getElem (by simp) fun i h1 h2 => ?_
      rw [List.getElem_set]
      split
      · next hi => subst hi; rw [List.getD_eq_getElem?_getD, List.getElem?_eq_getElem h2]; rfl
      · rfl
    refine ⟨vs, h.updM (nn.mono fun k hk => by rw [hk]; exact Or.inl rfl) (B := 0) ⟨hlen, ?_, fun i => (h.hd.row i).only nn fun q hq hq' => S1 q hq' i hq, h.hd.ap⟩ fun x hx => hx⟩
    have := s2.1
    rw [e] at this
    rw [hlen]
    exact this
  · obtain ⟨m1, b1⟩ := h.hd.swapped hj hr hne nn S1 (by rw [hlen]; exact s2.1)
    rw [swapL_comm] at m1
    exact ⟨_, h.updM (nn.mono fun k hk => by rw [hk]; exact Or.inl rfl) m1 b1⟩
/-- the same with the rows' lengths -/
theorem Sep.swapR {w : World} {l : List Asrt} {g n cap c : Nat} {p : Int} {vs : List Value} {L : List (List Int)} (h : Sep w (OM (.slice (some ⟨g, 0, none⟩) n cap) vs L :: l)) (hn : n = L.length) (hok : RowsOk p c L) {r j : Nat} (hr : r < L.length) (hj : j < L.length) :
    ∃ ar cr aj cj, w.cell? ⟨g, r, none⟩ = some (.slice ar c cr) ∧ w.cell? ⟨g, j, none⟩ = some (.slice aj c cj) ∧ w.frozen? ⟨g, r, none⟩ = false ∧ w.frozen? ⟨g, j, none⟩ = false ∧ (∃ vx, (w.setCell ⟨g, r, none⟩ (.slice aj c cj)).cell? ⟨g, j, none⟩ = some vx) ∧
      ∃ vs', Sep ((w.setCell ⟨g, r, none⟩ (.slice aj c cj)).setCell ⟨g, j, none⟩ (.slice ar c cr)) (OM (.slice (some ⟨g, 0, none⟩) n cap) vs' (swapL L r j) :: l) := by
  obtain ⟨h1, h2, h3, h4, h5⟩ := h.swapM hn hr hj
  obtain ⟨ar, cr, er⟩ := own_shape (h.hd.row r)
  obtain ⟨aj, cj, ej⟩ := own_shape (h.hd.row j)
  rw [(hok _ (getD_mem hr)).1] at er
  rw [(hok _ (getD_mem hj)).1] at ej
  rw [er] at h1 h5
  rw [ej] at h2 h5
  exact ⟨ar, cr, aj, cj, h1, h2, h3, h4, cell?_setCell_some h2, h5⟩
theorem calls_flip {f : FuncId} {args : Array Value} {w : World} {v : Value} (h : Calls Tryd.prog f args w fun e w' => e = .returned v ∧ w = w') : Calls Tryd.prog f args w fun e w' => e = .returned v ∧ w' = w :=
  h.mono fun _ _ h => ⟨h.1, h.2.symm⟩
theorem set_getD_self {L : List (List Int)} {r : Nat} : L.set r (L.getD r []) = L := by
  refine List.ext_getElem (by simp) fun i h1 h2 => ?_
  rw [List.getElem_set]
  split
  · next hi => subst hi; rw [List.getD_eq_getElem?_getD, List.getElem?_eq_getElem h2]; rfl
  · rfl
theorem getM {w : World} {l : List Asrt} {g n cap c : Nat} {p : Int} {vs : List Value} {L : List (List Int)} (h : Sep w (OM (.slice (some ⟨g, 0, none⟩) n cap) vs L :: l)) (hn : n = L.length) (hok : RowsOk p c L) {i j : Nat} (hi : i < L.length) (hj : j < c) :
    ∃ gi ci, gi ≠ g ∧ w.cell? ⟨g, i, none⟩ = some (.slice (some ⟨gi, 0, none⟩) c ci) ∧ w.cell? ⟨gi, j, none⟩ = some (.int .i64 (at2 L i j)) ∧ w.frozen? ⟨gi, j, none⟩ = false ∧ (0 ≤ at2 L i j ∧ at2 L i j < p) ∧
      ∀ x, Sep (w.setCell ⟨gi, j, none⟩ (.int .i64 x)) (OM (.slice (some ⟨g, 0, none⟩) n cap) vs (L.set i ((L.getD i []).set j x)) :: l) := by
  have hr := hok _ (getD_mem hi)
  obtain ⟨gi, ci, h1, h2, h3, h4, h5⟩ := h.setM hn hi (j := j) (by rw [hr.1]; exact hj)
  rw [hr.1] at h2
  refine ⟨gi, ci, h1, h2, h3, h4, ?_, h5⟩
  unfold at2
  rw [getD_lt (by rw [hr.1]; exact hj)]
  exact hr.2 _ (List.getElem_mem _)

theorem OwnM.firstRows {B m c r : Nat} {w : World} {a : Option Addr} {vs : List Value} {R : List (List Int)} (h : OwnM B w (.slice a m c) vs R) (hr : r ≤ R.length) : OwnM B w (.slice a r c) (vs.take r) (R.take r) := by
  have hl := h.len
  have g1 : ∀ i, (vs.take r).getD i nilS = if i < r then vs.getD i nilS else nilS := by
    intro i
    simp only [List.getD_eq_getElem?_getD, List.getElem?_take]
    split <;> rfl
  have g2 : ∀ i, (R.take r).getD i [] = if i < r then R.getD i [] else [] := by
    intro i
    simp only [List.getD_eq_getElem?_getD, List.getElem?_take]
    split <;> rfl
  have hvr : (vs.take r).length = r := by rw [List.length_take]; omega
  refine ⟨by rw [hvr, List.length_take]; omega, ?_, fun i => ?_, fun i j hij => ?_⟩
  · obtain ⟨h1, h2⟩ := h.out
    refine ⟨by rw [hvr]; omega, ?_⟩
    rcases h2 with ⟨he, h0⟩ | ⟨g, cap, cur, he, hg, hh, hc, hm, hs, ht⟩
    · cases he
      have : r = 0 := by omega
      subst this
      exact Or.inl ⟨rfl, by simp⟩
    · cases he
      refine Or.inr ⟨g, c, cur, by rw [hvr], hg, hh, by omega, hm, hs, ?_⟩
      rw [hvr, Nat.mul_one]
      rw [Nat.mul_one] at ht
      rw [← ht, List.take_take, Nat.min_eq_left (by omega)]
  · rw [g1, g2]
    split
    · exact h.row i
    · exact OwnInts.nil B w
  · rw [g1, g1]
    split
    · split
      · exact h.ap i j hij
      · exact fun k _ h => nil_hits h
    · exact fun k h => absurd h nil_hits
set_option maxRecDepth 100000 in
set_option maxHeartbeats 4000000 in
theorem spReduce_own (p : Nat) [NeZero p] (n : Nat) (u : Value) (L : List (List Int)) (w : World) (hfld : fldN p = true) (hp2 : p ≤ 1000) (hv : MatV w u L) (hL : RowsOk p n L) (hm : L.length ≤ 1000) (hn : n ≤ 1000) :
    Calls Tryd.prog 168 #[.int .i64 p, .int .i64 n, u] w fun e w' => ∃ v c, e = .returned (.slice v (reducedL p n L).length c) ∧ (∃ vs, OwnM w.heap.size w' (.slice v (reducedL p n L).length c) vs (reducedL p n L)) ∧ w.grownBy w' none := by
  have hp1 := lt_p hfld
  have HV := Lib.hid hv
  have HROW := Lib.hid fun k (hk : k < L.length) => (hL _ (getD_mem hk)).1
  have HFIT0 := Lib.hid (show Fit p L.length n 0 L (List.replicate L.length []) from ⟨rfl, List.length_replicate, hL, nils_ok p _⟩)
  have hsh := hv.shape
  obtain ⟨ua, uc, rfl⟩ := hsh
  clear hv hL
  generalize hml : L.length = m at *
  have HML := Lib.hid hml
  clear hml
  go_enter Tryd.func168, Tryd.ntmps168
  go_wp2_with fail
  go_loopw [7, 21] (fun o i wr => ∃ (k : Nat) (vs : List Value), k ≤ m ∧ i = .int .i64 k ∧ Sep wr [OM o vs (L.take k), KeepA w]) (fun _ i _ => m - (intOf i).toNat)
  case atStart => exact ⟨0, [], by omega, rfl, (Sep.start w).nilM⟩
  case round =>
    obtain ⟨k, vs, hk, rfl, hs⟩ := hrel
    have HS := Lib.hid hs
    clear hs
    by_cases hlt : k < m
    · obtain ⟨b, o, cap, ml, r, rc, he, hcell, hrow⟩ := HV.out.rowK HS.out.s2.hd (show k < L.length by rw [HML.out]; exact hlt)
      cases he
      have hrl := HROW.out k hlt
      rw [hrl] at hcell hrow
      have HCL := Lib.hid (l1Own_any _ _ wr (hrow.carry HS.out.s2.hd) (by omega))
      have HTK := Lib.hid (take_snocD [] (show k < L.length by rw [HML.out]; exact hlt))
      have A5 := Lib.hid (show (L.take k).length ≤ 1000000 by rw [List.length_take]; omega)
      have htl : (L.take k).length = k := by rw [List.length_take, HML.out]; omega
      have HTL := Lib.hid htl
      clear hrow hrl htl
      go_wp2_with (first
        | (go_at_call 217
           with_reducible refine HCL.out.mono ?_
           rintro e w2 ⟨rv, rfl, ho, hg⟩
           obtain ⟨ra, rc2, hre⟩ := own_shape ho
           subst hre
           have HS2 := Lib.hid (HS.out.newI hg ho)
           clear ho hg)
        | (at_builtin
           refine app_rowS rfl _ _ rfl rfl rfl HS2.out A5.out ?_
           intro g2 cap2 w3 hs3
           have HS3 := Lib.hid hs3
           clear hs3))
      go_roundw
      case rel => exact ⟨k + 1, _, by omega, by go_num, by rw [HTK.out]; have h := HS3.out; rw [List.length_take] at h; exact h⟩
      case measure => simp [intOf]; omega
    · have hkm : L.take k = L := List.take_of_length_le (by rw [HML.out]; omega)
      have hs := HS.out
      rw [hkm] at hs
      obtain ⟨ma, mc, hme, hmi, hmc⟩ := own_form hs.hd
      rw [HML.out] at hme hmc
      subst hme
      have HS := Lib.hid hs
      have HAT := Lib.hid (fun k (hk : k ≤ n) => at_round hfld HFIT0.out hk)
      clear hs hkm
      obtain ⟨w1, hw1⟩ : ∃ w1, w1 = wr := ⟨_, rfl⟩
      subst hw1
      go_wp2_with fail
      clear hlt hk
      go_loopw [10, 11] (fun r c wr => ∃ (k : Nat) (vs : List Value), k ≤ n ∧ c = .int .i64 k ∧ r = .int .i64 (redTo p L (List.replicate m []) k).r ∧ Sep wr [OM (.slice ma m mc) vs (redTo p L (List.replicate m []) k).R, KeepA w]) (fun _ c _ => n - (intOf c).toNat)
      case atStart => exact ⟨0, vs, by omega, rfl, rfl, HS.out⟩
      case round =>
        obtain ⟨k, vs, hk, rfl, rfl, hs⟩ := hrel
        have HS := Lib.hid hs
        obtain ⟨hfit, hrm⟩ := HAT.out k hk
        have HFIT := Lib.hid hfit
        have hnext : redTo p L (List.replicate m []) (k + 1) = stepL p k (redTo p L (List.replicate m []) k) := rfl
        have HNEXT := Lib.hid hnext
        have hfull : (redTo p L (List.replicate m []) k).r = m → redTo p L (List.replicate m []) n = redTo p L (List.replicate m []) k := fun h => redTo_full hk (by rw [h, hfit.lR])
        have HFULL := Lib.hid hfull
        clear hs hfit hnext hfull
        generalize hst : redTo p L (List.replicate m []) k = s at *
        have HST := Lib.hid hst
        clear hst
        generalize hsr : s.r = r at *
        have HSR := Lib.hid hsr
        clear hsr
        by_cases hkn : k < n
        · by_cases hrm2 : r < m
          · obtain ⟨g, gc, hge, _, _, _⟩ := HS.out.hd.head (by intro h; have := HFIT.out.lR; rw [h] at this; simp at this; omega)
            rw [HFIT.out.lR] at hge
            cases hge
            go_wp2_with fail
            go_loop [12] (fun i => ∃ j : Nat, j ≤ m ∧ i = .int .i64 j ∧ r ≤ j ∧ ∀ l, r ≤ l → l < j → at2 s.R l k = 0) (fun i => m - (intOf i).toNat)
            case atStart => exact ⟨r, hrm, rfl, Nat.le_refl _, fun l h1 h2 => absurd h1 (by omega)⟩
            case round =>
              obtain ⟨j, hjm, rfl, hrj, hz⟩ := hrel
              have HZ := Lib.hid hz
              clear hz
              by_cases hj : j < m
              · obtain ⟨gj, cj, nj, e1, e2, e3, hyb0, e5⟩ := getM HS.out HFIT.out.lR.symm HFIT.out.oR (i := j) (j := k) (by rw [HFIT.out.lR]; exact hj) hkn
                clear e3 e5 nj
                generalize hy : at2 s.R j k = y at *
                have HY := Lib.hid hy
                clear hy
                by_cases hy0 : y = 0
                · subst hy0
                  go_wp2
                  go_round
                  case rel => exact ⟨j + 1, by omega, by go_num, by omega, fun l h1 h2 => by
                    by_cases hlj : l = j
                    · rw [hlj]; exact HY.out
                    · exact HZ.out l h1 (by omega)⟩
                  case measure => simp [intOf]; omega
                · have hyb : (y == 0) = false := by rw [beq_eq_false_iff_ne]; exact hy0
                  have hjb : ((j : Int) == m) = false := by rw [beq_eq_false_iff_ne]; omega
                  have hpiv : pivAt s.R k r = some j := pivAt_is_some (by rw [HFIT.out.lR]; exact hrm) HZ.out hrj (by rw [HFIT.out.lR]; exact hj) (by rw [HY.out]; exact hy0)
                  have HSTEP := Lib.hid (show stepL p k s = stepWith p k j s by unfold stepL; rw [HSR.out, hpiv])
                  have HFIT1 := Lib.hid (fit_swap HFIT.out hrm2 hj)
                  have HYY := Lib.hid (show at2 (swapL s.R r j) r k = y by
                    rw [← HY.out]
                    unfold at2
                    rw [swapL_get (by rw [HFIT.out.lR]; exact hrm2) (by rw [HFIT.out.lR]; exact hj)]
                    unfold La.tw
                    rw [if_pos rfl])
                  obtain ⟨ar, cr, aj, cj2, d1, d2, d3, d4, ⟨vx, d6⟩, vs1, d5⟩ := HS.out.swapR HFIT.out.lR.symm HFIT.out.oR (r := r) (j := j) (by rw [HFIT.out.lR]; exact hrm2) (by rw [HFIT.out.lR]; exact hj)
                  have hcj := d2.symm.trans e1
                  simp only [Option.some.injEq, Value.slice.injEq, true_and] at hcj
                  obtain ⟨rfl, rfl⟩ := hcj
                  have D5 := Lib.hid d5
                  have k0 : (0 : Int) ≤ (r : Int) := by omega
                  have k1 : (r : Int) < (m : Int) := by omega
                  clear e1 d5 hpiv
                  go_upto_region 18 with fail
                  clear d1 d2 d3 d4 d6 e2
                  generalize (wr.setCell ⟨g, r, none⟩ (.slice (some ⟨gj, 0, none⟩) n cj2)).setCell ⟨g, j, none⟩ (.slice ar n cr) = w2 at *
                  generalize hR1 : swapL s.R r j = R1 at *
                  have HR1 := Lib.hid hR1
                  have oR1 := Lib.hid (show RowsOk p n R1 from HFIT1.out.oR)
                  have lR1 := Lib.hid (show R1.length = m from HFIT1.out.lR)
                  clear hR1
                  obtain ⟨gr, cr2, nr, b1, b2, b3, b4, b5⟩ := getM D5.out lR1.out.symm oR1.out (i := r) (j := k) (by rw [lR1.out]; exact hrm2) hkn
                  rw [HYY.out] at b2
                  have hyp : 0 < y := by omega
                  obtain ⟨hi1, hi2, hi3⟩ := inv_ok hfld hyp hyb0.2
                  have HINV := Lib.hid fun w1 => fdInvS_any p y w1 hfld hp2 hyp hyb0.2
                  clear b3 b4 b5 hi1
                  generalize hiv : invI p y = iv at *
                  have HIV := Lib.hid hiv
                  clear hiv
                  go_wp2_with (go_at_call 198
                               with_reducible refine (HINV.out _).mono ?_
                               rintro e w' ⟨rfl, rfl⟩)
                  clear b1 b2
                  obtain ⟨w3, hw3⟩ : ∃ w3, w3 = w2 := ⟨_, rfl⟩
                  subst hw3
                  have hX := oR1.out _ (getD_mem (show r < R1.length by rw [lR1.out]; exact hrm2))
                  have HX := Lib.hid hX
                  clear hX
                  go_loopw [92] (fun i wx => ∃ (q : Nat) (zs : List Int), q ≤ n ∧ i = .int .i64 q ∧ zs.length = n ∧ (∀ t, t < q → zs.getD t 0 = (R1.getD r []).getD t 0 * iv % p) ∧ (∀ t, q ≤ t → zs.getD t 0 = (R1.getD r []).getD t 0) ∧ Sep wx [OM (.slice (some ⟨g, 0, none⟩) m mc) vs1 (R1.set r zs), KeepA w]) (fun i _ => n - (intOf i).toNat)
                  case atStart => exact ⟨0, R1.getD r [], by omega, rfl, HX.out.1, fun _ h => absurd h (by omega), fun _ _ => rfl, by rw [set_getD_self]; exact D5.out⟩
                  case round =>
                    obtain ⟨q, zs, hq, rfl, hz1, hz2, hz3, hsx⟩ := hrel
                    have HZ1 := Lib.hid hz1; have HZ2 := Lib.hid hz2; have HZ3 := Lib.hid hz3; have HSX := Lib.hid hsx
                    clear hz1 hz2 hz3 hsx
                    have hg1 : (R1.set r zs).getD r [] = zs := by rw [getD_setL (by rw [lR1.out]; exact hrm2), if_pos rfl]
                    have HG1 := Lib.hid hg1
                    clear hg1
                    by_cases hqn : q < n
                    · obtain ⟨gi, ci, n1, f1, f2, f3, f4⟩ := HSX.out.setM (by rw [List.length_set]; exact lR1.out.symm) (i := r) (j := q) (by rw [List.length_set, lR1.out]; exact hrm2) (by rw [HG1.out, HZ1.out]; exact hqn)
                      have F4 := Lib.hid f4
                      have hel : at2 (R1.set r zs) r q = (R1.getD r []).getD q 0 := by unfold at2; rw [HG1.out]; exact HZ3.out q (Nat.le_refl _)
                      rw [HG1.out, HZ1.out] at f1
                      rw [hel] at f2
                      have hbd := HX.out.2 _ (List.getElem_mem (show q < (R1.getD r []).length by rw [HX.out.1]; exact hqn))
                      rw [← getD_lt (by rw [HX.out.1]; exact hqn)] at hbd
                      clear hel f4
                      generalize hx : (R1.getD r []).getD q 0 = x at *
                      have HXX := Lib.hid hx
                      have HMUL := Lib.hid fun w1 => fdMulS_any p x iv w1 (by omega) (by omega) hbd.1 (by omega) (by omega) (by omega)
                      have q0 : (0 : Int) ≤ (q : Int) := by omega
                      have q1 : (q : Int) < (n : Int) := by omega
                      clear hx
                      go_wp2_with fail
                      refine wp_region_still_tail 16 (by kernel_rfl) (by kernel_rfl) ?_
                      simp only [List.take_succ_cons, List.take_zero, List.drop_succ_cons, List.drop_zero]
                      repeat still_step
                      still_call (calls_flip (HMUL.out _))
                      repeat still_step
                      refine wpStill_nil ?_
                      change wpList _ _ _ _ _ wr.drew
                      go_wp2
                      go_roundw
                      case rel =>
                        refine ⟨q + 1, zs.set q (x * iv % p), by omega, by go_num, by rw [List.length_set]; exact HZ1.out, fun t ht => ?_, fun t ht => ?_, ?_⟩
                        · by_cases htq : q = t
                          · subst htq
                            rw [getD_set_self (by rw [HZ1.out]; exact hqn), HXX.out]
                          · rw [getD_set_ne htq]
                            exact HZ2.out t (by omega)
                        · rw [getD_set_ne (by omega)]
                          exact HZ3.out t (by omega)
                        · have h := (F4.out (x * iv % p)).dr
                          rw [HG1.out, List.set_set] at h
                          exact h
                      case measure => simp [intOf]; omega
                    · have hzs : zs = scaleV p (R1.getD r []) iv := by
                        refine list_ext_getD (by rw [HZ1.out]; simp only [scaleV, List.length_map]; exact HX.out.1.symm) fun t ht => ?_
                        rw [scale_getD (by rw [HX.out.1]; have := HZ1.out; omega)]
                        exact HZ2.out t (by have := HZ1.out; omega)
                      have hsx := HSX.out
                      rw [hzs] at hsx
                      have HFIT2 := Lib.hid (show RowsOk p n (divL p R1 r iv) ∧ (divL p R1 r iv).length = m from ⟨divL_ok oR1.out (by rw [lR1.out]; exact hrm2) iv, by rw [divL_len]; exact lR1.out⟩)
                      change Sep _ [OM _ vs1 (divL p R1 r iv), KeepA w] at hsx
                      generalize hR2 : divL p R1 r iv = R2 at *
                      have HR2 := Lib.hid hR2
                      have HS2 := Lib.hid hsx
                      clear hR2 hsx hzs
                      obtain ⟨w5, hw5⟩ : ∃ w5, w5 = wr := ⟨_, rfl⟩
                      subst hw5
                      go_wp2_with fail
                      go_loopw [114] (fun i wx => ∃ l : Nat, l ≤ m ∧ i = .int .i64 l ∧ Sep wx [OM (.slice (some ⟨g, 0, none⟩) m mc) vs1 (clearTo p R2 k r R2 l), KeepA w]) (fun i _ => m - (intOf i).toNat)
                      case atStart => exact ⟨0, by omega, rfl, by rw [clearTo_zero]; exact HS2.out⟩
                      case round =>
                        obtain ⟨l, hlm, rfl, hs4⟩ := hrel
                        have HS4 := Lib.hid hs4
                        clear hs4
                        by_cases hl : l < m
                        · have lC : (clearTo p R2 k r R2 l).length = m := by rw [clearTo_len]; exact HFIT2.out.2
                          have oC : RowsOk p n (clearTo p R2 k r R2 l) := clearTo_ok HFIT2.out.1 (by rw [HFIT2.out.2]; exact hrm2)
                          obtain ⟨gl, cl, nl, t1, t2, t3, t4, t5⟩ := getM HS4.out lC.symm oC (i := l) (j := k) (by rw [lC]; exact hl) hkn
                          rw [clearTo_at] at t2 t4
                          clear t3 t5
                          have l0 : (0 : Int) ≤ (l : Int) := by omega
                          have l1 : (l : Int) < (m : Int) := by omega
                          by_cases hlr : l = r
                          · have hb1 : ((l : Int) == r) = true := by rw [beq_iff_eq]; omega
                            have A1 := Lib.hid (clearTo_skip (p := p) (A := R2) (show ¬ (l ≠ r ∧ at2 R2 l k ≠ 0) from fun h => h.1 hlr))
                            clear hlr lC oC
                            go_wp2
                            go_roundw
                            case rel => exact ⟨l + 1, by omega, by go_num, by rw [A1.out]; exact HS4.out⟩
                            case measure => simp [intOf]; omega
                          · have hb1 : ((l : Int) == r) = false := by rw [beq_eq_false_iff_ne]; omega
                            by_cases hz0 : at2 R2 l k = 0
                            · have A1 := Lib.hid (clearTo_skip (p := p) (A := R2) (show ¬ (l ≠ r ∧ at2 R2 l k ≠ 0) from fun h => h.2 hz0))
                              rw [hz0] at t2
                              clear lC oC hz0 t4
                              go_wp2
                              go_roundw
                              case rel => exact ⟨l + 1, by omega, by go_num, by rw [A1.out]; exact HS4.out⟩
                              case measure => simp [intOf]; omega
                            · have A1 := Lib.hid (clearTo_do (p := p) (A := R2) (by rw [HFIT2.out.2]; exact hl) ⟨hlr, hz0⟩)
                              have LC := Lib.hid lC; have OC := Lib.hid oC
                              clear lC oC
                              generalize hz : at2 R2 l k = z at *
                              have hb2 : (z == 0) = false := by rw [beq_eq_false_iff_ne]; exact hz0
                              generalize clearTo p R2 k r R2 l = C at *
                              clear hz
                              go_wp2_with fail
                              clear t1 t2 hb2
                              obtain ⟨w6, hw6⟩ : ∃ w6, w6 = wr := ⟨_, rfl⟩
                              subst hw6
                              have hX := OC.out _ (getD_mem (show l < C.length by rw [LC.out]; exact hl))
                              have hY := OC.out _ (getD_mem (show r < C.length by rw [LC.out]; exact hrm2))
                              have HXC := Lib.hid hX; have HYC := Lib.hid hY
                              clear hX hY
                              go_loopw [142] (fun i wx => ∃ (q : Nat) (zs : List Int), q ≤ n ∧ i = .int .i64 q ∧ zs.length = n ∧ (∀ t, t < q → zs.getD t 0 = ((C.getD l []).getD t 0 + -z * (C.getD r []).getD t 0) % p) ∧ (∀ t, q ≤ t → zs.getD t 0 = (C.getD l []).getD t 0) ∧ Sep wx [OM (.slice (some ⟨g, 0, none⟩) m mc) vs1 (C.set l zs), KeepA w]) (fun i _ => n - (intOf i).toNat)
                              case atStart => exact ⟨0, C.getD l [], by omega, rfl, HXC.out.1, fun _ h => absurd h (by omega), fun _ _ => rfl, by rw [set_getD_self]; exact HS4.out⟩
                              case round =>
                                obtain ⟨q, zs, hq, rfl, hz1, hz2, hz3, hsx⟩ := hrel
                                have HZ1 := Lib.hid hz1; have HZ2 := Lib.hid hz2; have HZ3 := Lib.hid hz3; have HSX := Lib.hid hsx
                                clear hz1 hz2 hz3 hsx
                                have hg1 : (C.set l zs).getD l [] = zs := by rw [getD_setL (by rw [LC.out]; exact hl), if_pos rfl]
                                have hg2 : (C.set l zs).getD r [] = C.getD r [] := by rw [getD_setL (by rw [LC.out]; exact hl), if_neg (fun e => hlr e.symm)]
                                have HG1 := Lib.hid hg1; have HG2 := Lib.hid hg2
                                clear hg1 hg2
                                by_cases hqn : q < n
                                · obtain ⟨gi, ci, n1, f1, f2, f3, f4⟩ := HSX.out.setM (by rw [List.length_set]; exact LC.out.symm) (i := l) (j := q) (by rw [List.length_set, LC.out]; exact hl) (by rw [HG1.out, HZ1.out]; exact hqn)
                                  obtain ⟨gy, cy, n2, y1, y2, y3, y4⟩ := HSX.out.setM (by rw [List.length_set]; exact LC.out.symm) (i := r) (j := q) (by rw [List.length_set, LC.out]; exact hrm2) (by rw [HG2.out, HYC.out.1]; exact hqn)
                                  have F4 := Lib.hid f4
                                  have hel : at2 (C.set l zs) l q = (C.getD l []).getD q 0 := by unfold at2; rw [HG1.out]; exact HZ3.out q (Nat.le_refl _)
                                  have hel2 : at2 (C.set l zs) r q = (C.getD r []).getD q 0 := by unfold at2; rw [HG2.out]
                                  rw [HG1.out, HZ1.out] at f1
                                  rw [HG2.out, HYC.out.1] at y1
                                  rw [hel] at f2
                                  rw [hel2] at y2
                                  have hbx := HXC.out.2 _ (List.getElem_mem (show q < (C.getD l []).length by rw [HXC.out.1]; exact hqn))
                                  rw [← getD_lt (by rw [HXC.out.1]; exact hqn)] at hbx
                                  have hby := HYC.out.2 _ (List.getElem_mem (show q < (C.getD r []).length by rw [HYC.out.1]; exact hqn))
                                  rw [← getD_lt (by rw [HYC.out.1]; exact hqn)] at hby
                                  clear hel hel2 f4 y3 y4
                                  generalize hx : (C.getD l []).getD q 0 = x at *
                                  generalize hy : (C.getD r []).getD q 0 = y' at *
                                  have HXX := Lib.hid hx; have HYX := Lib.hid hy
                                  have m0 := Int.emod_nonneg (z * y') (show (p : Int) ≠ 0 by omega)
                                  have m1 := Int.emod_lt_of_pos (z * y') (show 0 < (p : Int) by omega)
                                  have M1 := Lib.hid fun w1 => fdMulS_any p z y' w1 (by omega) (by omega) t4.1 (by omega) hby.1 (by omega)
                                  have M2 := Lib.hid fun w1 => fdSubS_any p x (z * y' % p) w1 (by omega) (by omega) hbx.1 (by omega) m0 (by omega)
                                  have HLE := Lib.hid (less_eq p z x y')
                                  rw [HLE.out] at M2
                                  have q0 : (0 : Int) ≤ (q : Int) := by omega
                                  have q1 : (q : Int) < (n : Int) := by omega
                                  clear hx hy m0 m1
                                  go_wp2_with fail
                                  refine wp_region_still_tail 25 (by kernel_rfl) (by kernel_rfl) ?_
                                  simp only [List.take_succ_cons, List.take_zero, List.drop_succ_cons, List.drop_zero]
                                  repeat still_step
                                  still_call (calls_flip (M1.out _))
                                  repeat still_step
                                  still_call (calls_flip (M2.out _))
                                  repeat still_step
                                  refine wpStill_nil ?_
                                  change wpList _ _ _ _ _ wr.drew
                                  go_wp2
                                  go_roundw
                                  case rel =>
                                    refine ⟨q + 1, zs.set q ((x + -z * y') % p), by omega, by go_num, by rw [List.length_set]; exact HZ1.out, fun t ht => ?_, fun t ht => ?_, ?_⟩
                                    · by_cases htq : q = t
                                      · subst htq
                                        rw [getD_set_self (by rw [HZ1.out]; exact hqn), HXX.out, HYX.out]
                                      · rw [getD_set_ne htq]
                                        exact HZ2.out t (by omega)
                                    · rw [getD_set_ne (by omega)]
                                      exact HZ3.out t (by omega)
                                    · have h := (F4.out ((x + -z * y') % p)).dr
                                      rw [HG1.out, List.set_set] at h
                                      exact h
                                  case measure => simp [intOf]; omega
                                · have hzs : zs = addT p (C.getD l []) (-z) (C.getD r []) := by
                                    refine list_ext_getD (by rw [HZ1.out]; have h1 := HXC.out.1; have h2 := HYC.out.1; simp only [addT, List.length_zipWith]; omega) fun t ht => ?_
                                    have ht' : t < n := by have := HZ1.out; omega
                                    rw [addT_getD (by rw [HXC.out.1, HYC.out.1]) (by rw [HXC.out.1]; exact ht')]
                                    exact HZ2.out t (by omega)
                                  have HZS := Lib.hid hzs
                                  clear hzs
                                  go_wp2
                                  go_roundw
                                  case rel => exact ⟨l + 1, by omega, by go_num, by rw [A1.out]; unfold subL; rw [← HZS.out]; exact HSX.out⟩
                                  case measure => simp [intOf]; omega
                        · have B1 := Lib.hid (show clearTo p R2 k r R2 l = clearL p R2 k r R2 by
                            have e : l = R2.length := by rw [HFIT2.out.2]; omega
                            rw [e]; exact clearTo_all _ _ _ _ _)
                          have hfin : (stepWith p k j s).R = clearL p R2 k r R2 ∧ (stepWith p k j s).r = r + 1 := by
                            unfold stepWith
                            simp only [HSR.out, HR1.out, HYY.out, HIV.out, HR2.out, and_self]
                          have HFIN := Lib.hid hfin
                          clear hfin
                          go_wp2
                          go_roundw
                          case rel => exact ⟨k + 1, vs1, by omega, by go_num, by rw [HNEXT.out, HSTEP.out, HFIN.out.2]; go_num, by rw [HNEXT.out, HSTEP.out, HFIN.out.1, ← B1.out]; exact HS4.out⟩
                          case measure => simp [intOf]; omega
              · have hpiv : pivAt s.R k r = none := pivAt_is_none (by rw [HFIT.out.lR]; exact hrm) fun l h1 h2 => HZ.out l h1 (by have := HFIT.out.lR; omega)
                have hstep : stepL p k s = s := by unfold stepL; rw [HSR.out, hpiv]
                have HSTEP := Lib.hid hstep
                have hjm2 : j = m := by omega
                subst hjm2
                clear hpiv hstep
                go_wp2
                go_roundw
                case rel => exact ⟨k + 1, vs, by omega, by go_num, by rw [HNEXT.out, HSTEP.out, HSR.out], by rw [HNEXT.out, HSTEP.out]; exact HS.out⟩
                case measure => simp [intOf]; omega
          · have HEND := Lib.hid (HFULL.out (by omega))
            have hred : reducedL p n L = s.R.take r := by rw [reducedL_eq p n L (List.replicate m []), HEND.out, HSR.out]
            have hrl : (reducedL p n L).length = r := by rw [hred, List.length_take, HFIT.out.lR]; omega
            have HRED := Lib.hid hred; have HRL := Lib.hid hrl
            clear hred hrl
            have c0 : (0 : Int) ≤ (r : Int) := by omega
            have c1 : (r : Int) ≤ (mc : Int) := by omega
            go_wp2
            go_ret
            exact ⟨ma, mc, by rw [HRL.out]; rfl, ⟨vs.take r, by rw [HRL.out, HRED.out]; exact HS.out.mat.firstRows (by rw [HFIT.out.lR]; exact hrm)⟩, HS.out.s2.hd⟩
        · have hkn2 : k = n := by omega
          subst hkn2
          have HEND := Lib.hid HST.out
          have hred : reducedL p k L = s.R.take r := by rw [reducedL_eq p k L (List.replicate m []), HEND.out, HSR.out]
          have hrl : (reducedL p k L).length = r := by rw [hred, List.length_take, HFIT.out.lR]; omega
          have HRED := Lib.hid hred; have HRL := Lib.hid hrl
          clear hred hrl
          have c0 : (0 : Int) ≤ (r : Int) := by omega
          have c1 : (r : Int) ≤ (mc : Int) := by omega
          go_wp2
          go_ret
          exact ⟨ma, mc, by rw [HRL.out]; rfl, ⟨vs.take r, by rw [HRL.out, HRED.out]; exact HS.out.mat.firstRows (by rw [HFIT.out.lR]; exact hrm)⟩, HS.out.s2.hd⟩
theorem spReduce_any (p : Nat) [NeZero p] (n : Nat) (u : Value) (L : List (List Int)) (w : World) (hfld : fldN p = true) (hp2 : p ≤ 1000) (hv : MatV w u L) (hL : RowsOk p n L) (hm : L.length ≤ 1000) (hn : n ≤ 1000) :
    Calls Tryd.prog 168 #[.int .i64 p, .int .i64 n, u] w fun e w' => ∃ v c, e = .returned (.slice v (reducedL p n L).length c) ∧ Pre w.heap.size w' (.slice v (reducedL p n L).length c) (reducedL p n L) ∧ w.grownBy w' none := by
  refine (spReduce_own p n u L w hfld hp2 hv hL hm hn).mono ?_
  rintro e w' ⟨v, c, rfl, ⟨vs, ho⟩, hg⟩
  exact ⟨v, c, rfl, ⟨v, _, c, c, vs, _, rfl, ho, Nat.le_refl _, (List.take_of_length_le (Nat.le_refl _)).symm⟩, hg⟩
end Go.Proofs.YtpeaeminjbjlnaaDoor

/-
  The specification's checks of spaces, sums and coordinates. Conditions: the sizes are small.
-/
namespace Go.Proofs.YtpeaeminjbjlnaaDoor
open Go.RowKit
set_option linter.unusedVariables false

theorem spRows_any (p n : Int) (v : Value) (L : List (List Int)) (w : World) (hv : MatV w v L) (hl : L.length ≤ 1000000) (hll : ∀ row ∈ L, row.length ≤ 1000000) (hp0 : -1000 ≤ p) (hp1 : p ≤ 1000) :
    Calls Tryd.prog 207 #[.int .i64 p, .int .i64 n, v] w fun e w' => e = .returned (.bool (rowsB p n L)) ∧ w = w' := by
  have HV := Lib.hid hv; have HLL := Lib.hid hll
  obtain ⟨a, c, rfl⟩ := hv.shape
  clear hv hll
  generalize hlen : L.length = l at *
  have HL := Lib.hid hlen
  clear hlen
  go_enter Tryd.func207, Tryd.ntmps207
  go_wp2
  go_loop [11] (fun i => ∃ k : Nat, k ≤ l ∧ i = .int .i64 k ∧ ∀ j (h : j < L.length), j < k → vecB p n L[j] = true) (fun i => l - (intOf i).toNat)
  case atStart => exact ⟨0, by omega, rfl, fun _ _ h => absurd h (by omega)⟩
  case round =>
    obtain ⟨k, hk, rfl, ho⟩ := hrel
    have HO := Lib.hid ho
    clear ho
    by_cases hlt : k < l
    · have hkl : k < L.length := by rw [HL.out]; exact hlt
      obtain ⟨d, r, rc, rfl, hs, hd, hcell, hrow⟩ := HV.out.row hkl
      have hlr := HLL.out L[k] (List.getElem_mem _)
      obtain ⟨db, dof, _⟩ := d
      simp only at hs hcell
      subst hs
      have HBAD := Lib.hid (show vecB p n L[k] = false → rowsB p n L = false by
        intro h
        unfold rowsB
        exact List.all_eq_false.2 ⟨L[k], List.getElem_mem _, by rw [h]; simp⟩)
      have HF := Lib.hid (fdIn_any p _ L[k] w hrow hlr (by omega) (by omega))
      have HVB := Lib.hid (show vecB p n L[k] = (decide ((L[k].length : Int) = n) && L[k].all (elB p)) from rfl)
      clear hd hrow hlr
      generalize hrl : L[k].length = rl at *
      clear hrl
      by_cases hq : (rl : Int) = n
      · have hb1 : ((rl : Int) != n) = false := by rw [bne_eq_false_iff_eq]; exact hq
        cases he : L[k].all (elB p)
        · rw [he] at HF
          have hfin := HBAD.out (by rw [HVB.out, he, Bool.and_false])
          have HFIN := Lib.hid hfin
          clear hfin he
          go_wp2_with (go_at_call 192; with_reducible refine HF.out.mono ?_; rintro e w' ⟨rfl, rfl⟩)
          go_ret
          exact ⟨by rw [HFIN.out]; rfl, rfl⟩
        · rw [he] at HF
          have hv1 : vecB p n L[k] = true := by rw [HVB.out, he, decide_eq_true hq]; rfl
          have HV2 := Lib.hid hv1
          clear hv1 he
          go_wp2_with (go_at_call 192; with_reducible refine HF.out.mono ?_; rintro e w' ⟨rfl, rfl⟩)
          go_round
          case rel => exact ⟨k + 1, by omega, by go_num, fun j h hj => by
            by_cases hjk : j = k
            · subst hjk; exact HV2.out
            · exact HO.out j h (by omega)⟩
          case measure => simp [intOf]; omega
      · have hb1 : ((rl : Int) != n) = true := by rw [bne_iff_ne]; exact hq
        have hfin := HBAD.out (by rw [HVB.out, decide_eq_false hq, Bool.false_and])
        have HFIN := Lib.hid hfin
        clear hfin hq
        go_wp2
        go_ret
        exact ⟨by rw [HFIN.out]; rfl, rfl⟩
    · have hfin : rowsB p n L = true := by
        unfold rowsB
        refine List.all_eq_true.2 fun x hx => ?_
        obtain ⟨j, hj, rfl⟩ := List.getElem_of_mem hx
        exact HO.out j hj (by have := HL.out; omega)
      have HFIN := Lib.hid hfin
      clear hfin
      go_wp2
      go_ret
      exact ⟨by rw [HFIN.out]; rfl, rfl⟩

end Go.Proofs.YtpeaeminjbjlnaaDoor

/-
  The specification's comparisons of lists: what is answered, and that nothing but draws happens. Conditions: lengths are small.
-/
namespace Go.Proofs.YtpeaeminjbjlnaaDoor
open Go.RowKit
set_option linter.unusedVariables false

/-- l1Same: nothing but draws. -/
theorem l1Same_q (v1 v2 : Value) (x y : List Int) (w : World) (h1 : IntsV w v1 x) (h2 : IntsV w v2 y) (l1 : x.length ≤ 1000000000) (l2 : y.length ≤ 1000000000) :
    Calls Tryd.prog 280 #[v1, v2] w fun e w' => e = .returned (.bool (x == y)) ∧ ∃ q, w' = w.drewN q := by
  obtain ⟨a1, c1, rfl, r1⟩ := h1
  obtain ⟨a2, c2, rfl, r2⟩ := h2
  have R1 := Lib.hid r1; have R2 := Lib.hid r2
  clear r1 r2
  by_cases hl : x.length = y.length
  · generalize hlx : x.length = l at *
    have HLX := Lib.hid hlx; have HLY := Lib.hid hl
    rw [← HLY.out]
    clear hlx hl
    go_enter Tryd.func280, Tryd.ntmps280
    go_wp2
    go_loopw [13] (fun i wr => ∃ k : Nat, k ≤ l ∧ i = .int .i64 k ∧ (∀ j (h : j < x.length) (h' : j < y.length), j < k → x[j] = y[j]) ∧ ∃ q, wr = w.drewN q) (fun i _ => l - (intOf i).toNat)
    case atStart => exact ⟨0, by omega, rfl, fun _ _ _ h => absurd h (by omega), 0, rfl⟩
    case round =>
      obtain ⟨k, hk, rfl, ho, q0, rfl⟩ := hrel
      have HO := Lib.hid ho
      clear ho
      by_cases hlt : k < l
      · have hkx : k < x.length := by rw [HLX.out]; exact hlt
        have hky : k < y.length := by rw [← HLY.out]; exact hlt
        obtain ⟨d1, ha1, hs1, hd1, hi1⟩ := R1.out (by intro h; rw [h] at hkx; simp at hkx)
        obtain ⟨d2, ha2, hs2, hd2, hi2⟩ := R2.out (by intro h; rw [h] at hky; simp at hky)
        subst ha1 ha2
        obtain ⟨b1, o1, _⟩ := d1
        obtain ⟨b2, o2, _⟩ := d2
        simp only at hs1 hs2 hd1 hd2
        subst hs1 hs2
        have hc1 := hi1 k hkx
        have hc2 := hi2 k hky
        generalize hzx : x[k] = zx at hc1
        generalize hzy : y[k] = zy at hc2
        have HZX := Lib.hid hzx; have HZY := Lib.hid hzy
        clear hzx hzy hi1 hi2 hd1 hd2
        by_cases he : zx = zy
        · subst he
          go_wp2
          go_quiet (fail)
          go_wp2
          go_roundw
          case rel => exact ⟨k + 1, by omega, by go_num, fun j h h' hj => by
            by_cases hjk : j = k
            · subst hjk; rw [HZX.out, HZY.out]
            · exact HO.out j h h' (by omega), ⟨_, rfl⟩⟩
          case measure => simp [intOf]; omega
        · have hb : (zx != zy) = true := by rw [bne_iff_ne]; exact he
          have hfin : (x == y) = false := by
            rw [beq_eq_false_iff_ne]
            intro h
            subst h
            exact he (HZX.out.symm.trans HZY.out)
          have HF := Lib.hid hfin
          clear hfin he
          go_wp2
          go_quiet (fail)
          go_wp2
          go_ret
          exact ⟨by rw [HF.out]; rfl, _, World.drewN_drewN _ _ _⟩
      · have hfin : (x == y) = true := by
          rw [beq_iff_eq]
          refine List.ext_getElem (by rw [HLX.out, HLY.out]) fun j h h' => HO.out j h h' (by have := HLX.out; omega)
        have HF := Lib.hid hfin
        clear hfin
        go_wp2
        go_ret
        exact ⟨by rw [HF.out]; rfl, _, rfl⟩
  · have hfin : (x == y) = false := by
      rw [beq_eq_false_iff_ne]
      intro h
      exact hl (by rw [h])
    have hb : ((x.length : Int) != y.length) = true := by rw [bne_iff_ne]; omega
    have HF := Lib.hid hfin
    clear hfin hl
    go_enter Tryd.func280, Tryd.ntmps280
    go_wp2
    go_ret
    exact ⟨by rw [HF.out]; rfl, 0, rfl⟩

theorem spSame_q (v1 v2 : Value) (X Y : List (List Int)) (w : World) (h1 : MatV w v1 X) (h2 : MatV w v2 Y) (l1 : X.length ≤ 1000000) (l2 : Y.length ≤ 1000000) (m1 : ∀ row ∈ X, row.length ≤ 1000000) (m2 : ∀ row ∈ Y, row.length ≤ 1000000) :
    Calls Tryd.prog 275 #[v1, v2] w fun e w' => e = .returned (.bool (X == Y)) ∧ ∃ q, w' = w.drewN q := by
  obtain ⟨a1, c1, rfl⟩ := h1.shape
  obtain ⟨a2, c2, rfl⟩ := h2.shape
  have R1 := Lib.hid h1; have R2 := Lib.hid h2; have M1 := Lib.hid m1; have M2 := Lib.hid m2
  clear h1 h2 m1 m2
  by_cases hl : X.length = Y.length
  · rw [← hl]
    generalize hlx : X.length = l at *
    have HLX := Lib.hid hlx; have HLY := Lib.hid hl
    clear hlx hl
    go_enter Tryd.func275, Tryd.ntmps275
    go_wp2
    go_loopw [13] (fun i wr => ∃ k : Nat, k ≤ l ∧ i = .int .i64 k ∧ (∀ j (h : j < X.length) (h' : j < Y.length), j < k → X[j] = Y[j]) ∧ ∃ q, wr = w.drewN q) (fun i _ => l - (intOf i).toNat)
    case atStart => exact ⟨0, by omega, rfl, fun _ _ _ h => absurd h (by omega), 0, rfl⟩
    case round =>
      obtain ⟨k, hk, rfl, ho, q0, rfl⟩ := hrel
      have HO := Lib.hid ho
      clear ho
      by_cases hlt : k < l
      · have hkx : k < X.length := by rw [HLX.out]; exact hlt
        have hky : k < Y.length := by rw [← HLY.out]; exact hlt
        obtain ⟨d1, r1, rc1, ha1, hs1, hd1, hc1, hr1⟩ := R1.out.row hkx
        obtain ⟨d2, r2, rc2, ha2, hs2, hd2, hc2, hr2⟩ := R2.out.row hky
        subst ha1 ha2
        obtain ⟨b1, o1, _⟩ := d1
        obtain ⟨b2, o2, _⟩ := d2
        simp only at hs1 hs2 hd1 hd2 hc1 hc2
        subst hs1 hs2
        have A := Lib.hid fun W (h : w.grownBy W none) => l1Same_q _ _ X[k] Y[k] W (hr1.carry h) (hr2.carry h) (by have := M1.out _ (List.getElem_mem hkx); omega) (by have := M2.out _ (List.getElem_mem hky); omega)
        clear hr1 hr2 hd1 hd2
        generalize X[k].length = n1 at *
        generalize Y[k].length = n2 at *
        cases he : (X[k] == Y[k])
        · rw [he] at A
          have hfin : (X == Y) = false := by
            rw [beq_eq_false_iff_ne]
            intro h
            subst h
            simp at he
          have HF := Lib.hid hfin
          clear hfin he
          go_wp2
          go_quiet ((go_at_call 280; exact quiet_more A.out))
          go_wp2
          go_ret
          exact ⟨by rw [HF.out]; rfl, _, World.drewN_drewN _ _ _⟩
        · rw [he] at A
          have HE := Lib.hid (eq_of_beq he)
          clear he
          go_wp2
          go_quiet ((go_at_call 280; exact quiet_more A.out))
          go_wp2
          go_roundw
          case rel => exact ⟨k + 1, by omega, by go_num, fun j h h' hj => by
            by_cases hjk : j = k
            · subst hjk; exact HE.out
            · exact HO.out j h h' (by omega), _, rfl⟩
          case measure => simp [intOf]; omega
      · have hfin : (X == Y) = true := by
          rw [beq_iff_eq]
          refine List.ext_getElem (by rw [HLX.out, HLY.out]) fun j h h' => HO.out j h h' (by have := HLX.out; omega)
        have HF := Lib.hid hfin
        clear hfin
        go_wp2
        go_ret
        exact ⟨by rw [HF.out]; rfl, _, rfl⟩
  · have hfin : (X == Y) = false := by
      rw [beq_eq_false_iff_ne]
      intro h
      exact hl (by rw [h])
    have hb : ((X.length : Int) != Y.length) = true := by rw [bne_iff_ne]; omega
    have HF := Lib.hid hfin
    clear hfin hl
    go_enter Tryd.func275, Tryd.ntmps275
    go_wp2
    go_ret
    exact ⟨by rw [HF.out]; rfl, 0, rfl⟩

end Go.Proofs.YtpeaeminjbjlnaaDoor

/-
  The specification's check of spaces. Conditions: the sizes are small.
-/
namespace Go.Proofs.YtpeaeminjbjlnaaDoor
open Go.RowKit
set_option linter.unusedVariables false

theorem grown_dr {w w' : World} (h : w.grownBy w' none) : w.grownBy w'.drew none := ⟨h.os, h.tape, h.output, h.size, h.block⟩
theorem q0 {f : FuncId} {args : Array Value} {W : World} {v : Value} (h : Calls Tryd.prog f args W fun e w' => e = .returned v ∧ W = w') : Calls Tryd.prog f args W fun e w' => e = .returned v ∧ ∃ m, w' = W.drewN m :=
  h.mono fun _ _ h => ⟨h.1, 0, h.2 ▸ rfl⟩
set_option maxRecDepth 100000 in
set_option maxHeartbeats 1000000 in
theorem spGood_any (p n : Int) (v : Value) (L : List (List Int)) (w : World) (hv : MatV w v L) (hl : L.length ≤ 1000000) (hll : ∀ row ∈ L, row.length ≤ 1000000) (hp0 : -1000 ≤ p) (hp1 : p ≤ 1000) :
    Calls Tryd.prog 176 #[.int .i64 p, mxV n v] w fun e w' => e = .returned (.bool (spaceB p n L)) ∧ w.grownBy w' none := by
  unfold mxV
  obtain ⟨a, c, rfl⟩ := hv.shape
  have hgr := grownBy_alloc w (.cells #[.int .i64 n, .slice a L.length c] 74) none
  have HK := Lib.hid fun w' (h : (w.alloc (.cells #[.int .i64 n, .slice a L.length c] 74)).grownBy w' none) => (⟨(bx (bx_on (alloc_heap_new w _) h)).1, (bx (bx_on (alloc_heap_new w _) h)).2.1⟩ : w'.cell? ⟨w.heap.size, 0, none⟩ = some (.int .i64 n) ∧ w'.cell? ⟨w.heap.size, 1, none⟩ = some (.slice a L.length c))
  have HRD := Lib.hid (grown_dr (grownBy_refl (w.alloc (.cells #[.int .i64 n, .slice a L.length c] 74)) none))
  have HGR := Lib.hid hgr
  have HA := Lib.hid fun w => fdGood_any p w hp0 hp1
  have HI := Lib.hid fun w => l1In_any n 0 24 w
  have HV := Lib.hid fun w' (h : (w.alloc (.cells #[.int .i64 n, .slice a L.length c] 74)).grownBy w' none) => hv.carry (hgr.trans h)
  have HS := Lib.hid fun w' (h : (w.alloc (.cells #[.int .i64 n, .slice a L.length c] 74)).grownBy w' none) => spRows_any p n _ L w' (hv.carry (hgr.trans h)) hl hll hp0 hp1
  have HLL := Lib.hid hll
  clear hv hll hgr
  cases h1 : fldB p
  · have HF := Lib.hid (show spaceB p n L = false by unfold spaceB; rw [h1]; rfl)
    rw [h1] at HA
    clear h1
    generalize L.length = l at *
    go_enter Tryd.func176, Tryd.ntmps176
    go_wp2_with fail
    go_quiet ((first | (go_at_call 206; exact Calls.quiet_of (q0 (HA.out _)))))
    go_wp2
    go_ret
    exact ⟨by rw [HF.out]; rfl, HGR.out.trans (grown_drewN _ _)⟩
  · cases h2 : decide (0 ≤ n ∧ n ≤ 24)
    · have HF := Lib.hid (show spaceB p n L = false by unfold spaceB; rw [h1, h2]; rfl)
      rw [h1] at HA
      rw [h2] at HI
      clear h1 h2
      generalize L.length = l at *
      go_enter Tryd.func176, Tryd.ntmps176
      go_wp2_with fail
      go_quiet ((first | (go_at_call 206; exact Calls.quiet_of (q0 (HA.out _))) | (go_at_call 137; exact Calls.quiet_of (q0 (HI.out _)))))
      go_wp2
      go_ret
      exact ⟨by rw [HF.out]; rfl, HGR.out.trans (grown_drewN _ _)⟩
    · by_cases h3 : (L.length : Int) ≤ n
      · have hd3 : decide ((L.length : Int) ≤ n) = true := decide_eq_true h3
        cases h4 : rowsB p n L
        · have HF := Lib.hid (show spaceB p n L = false by unfold spaceB redB; rw [h1, h2, h4]; simp)
          rw [h1] at HA
          rw [h2] at HI
          rw [h4] at HS
          clear h1 h2 h4
          generalize L.length = l at *
          go_enter Tryd.func176, Tryd.ntmps176
          go_wp2_with fail
          go_quiet ((first | (go_at_call 206; exact Calls.quiet_of (q0 (HA.out _))) | (go_at_call 137; exact Calls.quiet_of (q0 (HI.out _))) | (go_at_call 207; exact Calls.quiet_of (q0 (HS.out _ (grown_drewN _ _))))))
          go_wp2
          go_ret
          exact ⟨by rw [HF.out]; rfl, HGR.out.trans (grown_drewN _ _)⟩
        · obtain ⟨b1, b2⟩ := fldB_bd h1
          have b3 := of_decide_eq_true h2
          obtain ⟨q, rfl⟩ := Int.eq_ofNat_of_zero_le (show 0 ≤ p by omega)
          obtain ⟨m, rfl⟩ := Int.eq_ofNat_of_zero_le (show 0 ≤ n by omega)
          haveI : NeZero q := ⟨by omega⟩
          have hok := rowsB_ok.1 h4
          have HF := Lib.hid (show spaceB q m L = (reducedL q m L == L) by unfold spaceB redB; rw [h1, h2, h4, hd3, Int.toNat_natCast]; simp)
          rw [h1] at HA
          rw [h2] at HI
          rw [h4] at HS
          rw [fldB_nat] at h1
          have hrk := rank_le h1 hok
          have hrl := reducedL_len h1 hok
          have hro := (reducedL_red h1 hok).1
          have HR := Lib.hid fun w' (h : (w.alloc (.cells #[.int .i64 m, .slice a L.length c] 74)).grownBy w' none) => spReduce_any q m _ L w' h1 (by omega) (HV.out w' h) hok (by omega) (by omega)
          have HSS := Lib.hid fun w' u (h : (w.alloc (.cells #[.int .i64 m, .slice a L.length c] 74)).grownBy w' none) (hu : MatV w' u (reducedL q m L)) => spSame_q u _ (reducedL q m L) L w' hu (HV.out w' h) (by omega) (by omega) (fun row hrow => by rw [(hro row hrow).1]; omega) HLL.out
          clear h1 h2 h4 hok hro hrk hrl
          generalize reducedL q m L = red at *
          generalize (red == L) = bb at *
          generalize L.length = l at *
          generalize red.length = rl at *
          go_enter Tryd.func176, Tryd.ntmps176
          go_wp2_with fail
          go_region_held3 (fun w' => w'.cell? ⟨w.heap.size, 0, none⟩ = some (.int .i64 m) ∧ w'.cell? ⟨w.heap.size, 1, none⟩ = some (.slice a l c)) (first | with_reducible exact HK.out _ HRD.out | with_reducible exact HK.out _ HQ.out | go_keep)
            (first
              | (go_at_call 206; with_reducible refine (HA.out _).mono ?_; rintro e w' ⟨rfl, rfl⟩)
              | (go_at_call 137; with_reducible refine (HI.out _).mono ?_; rintro e w' ⟨rfl, rfl⟩)
              | (go_at_call 207; with_reducible refine (HS.out _ HRD.out).mono ?_; rintro e w' ⟨rfl, rfl⟩)
              | (go_at_call 168
                 with_reducible refine (HR.out _ HRD.out).mono ?_
                 rintro e w2 ⟨ra, rc, rfl, hp, hg⟩
                 have HM := Lib.hid hp.read; have HQ := Lib.hid (HRD.out.trans hg)
                 clear hp hg)
              | (go_at_call 275
                 with_reducible refine (HSS.out _ _ HQ.out HM.out).mono ?_
                 rintro e w3 ⟨rfl, q3, rfl⟩))
          go_wp2
          go_ret
          exact ⟨by rw [HF.out]; rfl, (HGR.out.trans HQ.out).trans (grown_drewN _ _)⟩
      · have hd3 : decide ((L.length : Int) ≤ n) = false := decide_eq_false h3
        have HF := Lib.hid (show spaceB p n L = false by unfold spaceB redB; rw [h1, h2, hd3]; rfl)
        rw [h1] at HA
        rw [h2] at HI
        clear h1 h2 h3
        generalize L.length = l at *
        go_enter Tryd.func176, Tryd.ntmps176
        go_wp2_with fail
        go_quiet ((first | (go_at_call 206; exact Calls.quiet_of (q0 (HA.out _))) | (go_at_call 137; exact Calls.quiet_of (q0 (HI.out _)))))
        go_wp2
        go_ret
        exact ⟨by rw [HF.out]; rfl, HGR.out.trans (grown_drewN _ _)⟩
end Go.Proofs.YtpeaeminjbjlnaaDoor

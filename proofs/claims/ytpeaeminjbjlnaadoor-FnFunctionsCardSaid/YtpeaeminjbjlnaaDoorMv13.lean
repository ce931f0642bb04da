/-
  Preimages in the reference. Conditions: the space and the matrix are valid and fit.
-/
import Derived.Test.YtpeaeminjbjlnaaDoorMv12
import Derived.Test.YtpeaeminjbjlnaaDoorMv11
import Derived.Test.YtpeaeminjbjlnaaDoorMv09
import Derived.Test.YtpeaeminjbjlnaaDoorMv05
import Derived.Test.YtpeaeminjbjlnaaDoorMv08
import Derived.Deep.RegionHeld3
import Derived.Deep.RegionLaw
namespace Go.Proofs.YtpeaeminjbjlnaaDoor
open Go.RowKit
set_option linter.unusedVariables false

theorem cond_at {q : Nat} {M : List (List Int)} {w : List Int} {i : Nat} (hi : i < M.length) : (condRow q M w).getD i 0 = dotP q (M.getD i []) w := by
  unfold condRow
  rw [List.getD_eq_getElem?_getD, List.getElem?_map, List.getElem?_eq_getElem hi, List.getD_eq_getElem?_getD, List.getElem?_eq_getElem hi]
  rfl
theorem take_snocM {L : List (List Int)} {f : List Int → List Int} {k : Nat} (h : k < L.length) : (L.map f).take (k + 1) = (L.map f).take k ++ [f (L.getD k [])] := by
  rw [← take_push (show k < (L.map f).length by simpa using h), List.getElem_map, List.getD_eq_getElem?_getD, List.getElem?_eq_getElem h]
  rfl

set_option maxRecDepth 100000 in
set_option maxHeartbeats 2000000 in
theorem sPreimageOf_yes (p n m : Int) (u v : Value) (A M : List (List Int)) (w : World) (hu : MatV w u A) (hv : MatV w v M) (hp0 : -1000 ≤ p) (hp1 : p ≤ 1000) (hb : preB p n A m M = true) :
    Calls Tryd.prog 59 #[.int .i64 p, mxV n u, mxV m v] w fun e w' => ∃ o, e = .returned (.tuple #[mxV M.length o, .bool true]) ∧ MatV w' o (preL p n.toNat M A) ∧ w.grownBy w' none := by
  obtain ⟨q, iq, k, rfl, rfl, rfl, hf, hq, hk, hla, hlm, hR, hA, hM, hb1, hb2⟩ := preB_nat hb
  rw [Int.toNat_natCast]
  have hpq := lt_p hf
  have H1 := fun W (hg : w.grownBy W none) => spGood_any q k u A W (hu.carry hg) (by omega) (fun row hr => by rw [(hA row hr).1]; omega) hp0 hp1
  have H2 := fun W (hg : w.grownBy W none) => mxGood_any q k v M W (hv.carry hg) (by omega) (fun row hr => by rw [(hM row hr).1]; omega) hp0 hp1
  rw [hb1] at H1
  rw [hb2] at H2
  have H1 := Lib.hid H1; have H2 := Lib.hid H2
  have H3 := Lib.hid fun W (hg : w.grownBy W none) => spNull_any q k u A W hf (by omega) (hu.carry hg) hA (by omega) (by omega)
  have h4 := fun W o (h : MatV W o (condsL q k M A)) => spNull_any q M.length o (condsL q k M A) W hf (by omega) h conds_ok (by have := (orth_red hf hA).len_le; simp [condsL]; omega) (by omega)
  have hko := (orth_red hf hA).1
  have hkn := (orth_red hf hA).len_le
  rw [← pre_eq hf hM hR] at h4
  have H4 := Lib.hid h4
  have HC := Lib.hid (show condsL q k M A = (orthL q A k).map (condRow q M) from rfl)
  have HMV := Lib.hid fun W (hg : w.grownBy W none) => hv.carry hg
  have HMO := Lib.hid hM; have HKO := Lib.hid hko
  obtain ⟨i0, hi, hz0, hz1, hz2⟩ := info_parts info_int
  have HI := Lib.hid hi; have HZ0 := Lib.hid hz0; have HZ1 := Lib.hid hz1; have HZ2 := Lib.hid hz2
  obtain ⟨ua, uc, rfl⟩ := hu.shape
  obtain ⟨va, vc, rfl⟩ := hv.shape
  unfold mxV at *
  generalize preL q k M A = PL at *
  generalize condsL q k M A = C at *
  generalize orthL q A k = K at *
  generalize hal : A.length = la at *
  generalize hml : M.length = lm at *
  have HAL := Lib.hid hal; have HML := Lib.hid hml
  generalize hkl : K.length = lk at *
  have HKL := Lib.hid hkl
  have HS := Lib.hid ((((Sep.start w).box #[.int .i64 k, .slice ua la uc] 74).box #[.int .i64 k, .slice va lm vc] 39).box #[.int .i64 0, .slice none 0 0] 74)
  have HG := Lib.hid (show w.grownBy _ none from HS.out.tl.tl.tl.hd)
  simp only [show ∀ (W : World) o, (W.alloc o).heap.size = W.heap.size + 1 from fun W o => by simp] at HS
  obtain ⟨y0, y1, y2, y3⟩ := bx HS.out.s3.hd
  obtain ⟨z0, z1, z2, z3⟩ := bx HS.out.s2.hd
  clear hu hv hA hM hb hal hml hkl hR hf hko hb1 hb2 h4 hi hz0 hz1 hz2
  go_enter Tryd.func59, Tryd.ntmps59
  go_wp2_with (first
    | (go_at_call 176
       go_loud (with_reducible refine (H1.out _ HG.out).mono ?_)
       rintro e w1 ⟨rfl, g1⟩
       have HS1 := Lib.hid (HS.out.grown g1)
       have HG1 := Lib.hid (HG.out.trans g1)
       obtain ⟨a0, a1, a2, a3⟩ := bx HS1.out.s3.hd
       obtain ⟨b0, b1, b2, b3⟩ := bx HS1.out.s2.hd
       clear g1)
    | (go_at_call 121
       go_loud (with_reducible refine (H2.out _ HG1.out).mono ?_)
       rintro e w2 ⟨rfl, g2⟩
       have HS2 := Lib.hid (HS1.out.grown g2)
       have HG2 := Lib.hid (HG1.out.trans g2)
       obtain ⟨e0, e1, e2, e3⟩ := bx HS2.out.s3.hd
       obtain ⟨f0, f1, f2, f3⟩ := bx HS2.out.s2.hd
       clear g2)
    | (go_at_call 177
       go_loud (with_reducible refine (H3.out _ HG2.out).mono ?_)
       rintro e w3 ⟨ka, kc, rfl, hp, g3⟩
       have HS3 := Lib.hid fun W (h : w3.grownBy W none) => HS2.out.grown (g3.trans h)
       have HG3 := Lib.hid (HG2.out.trans g3)
       have HP := Lib.hid hp.read
       clear hp g3))
  go_loopw [9, 42] (fun out i wr => ∃ (t : Nat) (vs : List Value), t ≤ lk ∧ i = .int .i64 t ∧ Sep wr [OM out vs (C.take t), KeepA w3]) (fun _ i _ => lk - (intOf i).toNat)
  case atStart => exact ⟨0, [], by omega, rfl, (Sep.start w3).nilM⟩
  case round =>
    obtain ⟨t, vs, htk, rfl, hs⟩ := hrel
    have HSX := Lib.hid hs
    have hg := hs.s2.hd
    have hx3 := HS3.out _ hg
    obtain ⟨c0, c1, c2, c3⟩ := bx hx3.s2.hd
    clear hs hx3
    by_cases hlt : t < lk
    · have hkk : t < K.length := by rw [HKL.out]; exact hlt
      obtain ⟨bb, bo, bcap, bml, br, brc, he, hcell, hrow0⟩ := HP.out.rowK hg hkk
      cases he
      have hro := HKO.out _ (getD_mem hkk)
      have HSN := Lib.hid (take_snocM (f := condRow q M) hkk)
      have hCL : C.length = lk := by rw [HC.out, List.length_map, HKL.out]
      have A5 := Lib.hid (show (C.take t).length ≤ 1000000 by rw [List.length_take]; omega)
      rw [hro.1] at hcell hrow0
      have HROW := Lib.hid hrow0; have HRO := Lib.hid hro
      clear hrow0 hro hg
      generalize K.getD t [] = row at *
      go_wp2_with (at_make; refine wpList_make_full _ rfl _ _ 24 rfl wr.heap.size 3 i0 (.int .i64 0) 1 Tryd.underlying24 HI.out HZ0.out HZ1.out _ _ _ _ lm rfl rfl rfl rfl (by rw [HZ2.out]; omega) (by unfold maxLen; omega) (Nat.le_refl _) ?_; intro w5 hown' hgr'
                   have ho5 := hown'
                   rw [madeCells_int] at ho5
                   have ho6 : OwnInts wr.heap.size w5 (.slice (some ⟨wr.heap.size, 0, none⟩) lm lm) (List.replicate lm 0) := by
                     unfold OwnInts; rw [List.length_replicate]; exact ho5
                   have HS5 := Lib.hid (HSX.out.newI hgr' ho6)
                   clear hown' hgr' ho5 ho6)
      clear c0 c1 c2 c3 hcell
      generalize wr.heap.size = gv at *
      go_loopw [50] (fun i wx => ∃ (j : Nat) (zs : List Int), j ≤ lm ∧ i = .int .i64 j ∧ zs.length = lm ∧ (∀ s, s < j → zs.getD s 0 = (condRow q M row).getD s 0) ∧ Sep wx [OI (.slice (some ⟨gv, 0, none⟩) lm lm) zs, OM u9 vs (C.take t), KeepA w3]) (fun i _ => lm - (intOf i).toNat)
      case atStart => exact ⟨0, _, by omega, rfl, by simp, fun _ h => absurd h (by omega), HS5.out⟩
      case round =>
        obtain ⟨j, zs, hj, rfl, hz, hzq, hsx⟩ := hrel
        have HZL := Lib.hid hz; have HZQ := Lib.hid hzq; have HSY := Lib.hid hsx
        have hg := hsx.s3.hd
        have hx3 := HS3.out _ hg
        obtain ⟨c0, c1, c2, c3⟩ := bx hx3.s2.hd
        clear hz hzq hsx hx3
        by_cases hj2 : j < lm
        · have hjm : j < M.length := by rw [HML.out]; exact hj2
          have hgw := HG3.out.trans hg
          obtain ⟨mb, mo, mcap, mml, mr, mrc, he, hcell, hrow0⟩ := (HMV.out _ (grownBy_refl _ _)).rowK hgw hjm
          cases he
          have hmo := HMO.out _ (getD_mem hjm)
          have HDOT := Lib.hid (spDot_q q _ _ (M.getD j []) row _ (hrow0.carry hgw) (HROW.out.carry hg) (by rw [hmo.1, HRO.out.1]) (by rw [hmo.1]; omega) (by omega) (by omega) (fun z hz => by have := hmo.2 z hz; omega) (fun z hz => by have := HRO.out.2 z hz; omega))
          rw [show dotTo (M.getD j []) row (M.getD j []).length % q = dotP q (M.getD j []) row from rfl] at HDOT
          rw [hmo.1] at hcell HDOT
          have HCA := Lib.hid (cond_at (q := q) (w := row) hjm)
          have hc3 := HSY.out.hd.cell HZL.out.symm (show j < zs.length by rw [HZL.out]; exact hj2)
          have hf3 := HSY.out.hd.free HZL.out.symm j
          clear hrow0 hmo hgw hg hjm
          generalize dotP q (M.getD j []) row = dv at *
          generalize zs[j]'(by rw [HZL.out]; exact hj2) = old at hc3
          go_wp2_with (
            go_at_call 178
            go_loud (with_reducible refine HDOT.out.mono ?_)
            rintro e wy ⟨rfl, nd, rfl⟩
            have HP2 := Lib.hid (((HSY.out.drN nd)).setI HZL.out.symm j dv))
          go_roundw
          case rel =>
            refine ⟨j + 1, zs.set j dv, by omega, by go_num, by rw [List.length_set]; exact HZL.out, fun s hs => ?_, HP2.out⟩
            by_cases hsj : j = s
            · subst hsj
              rw [getD_set_self (by rw [HZL.out]; exact hj2), HCA.out]
            · rw [getD_set_ne hsj]
              exact HZQ.out s (by omega)
          case measure => simp [intOf]; omega
        · have hzc : zs = condRow q M row := by
            refine list_ext_getD (by rw [HZL.out]; simp [condRow]; exact HML.out.symm) fun s hs => ?_
            exact HZQ.out s (by have := HZL.out; omega)
          have HZC := Lib.hid hzc
          clear hzc hg
          go_wp2_with (
            at_builtin
            refine app_rowS rfl _ _ rfl rfl rfl HSY.out A5.out ?_
            intro g2 cap2 w7 hs7
            have HS7 := Lib.hid hs7
            clear hs7)
          go_roundw
          case rel => exact ⟨t + 1, _, by omega, by go_num, by
            have h := HS7.out
            rw [List.length_take, hCL, Nat.min_eq_left (by omega)] at h
            rw [show C.take (t + 1) = C.take t ++ [zs] from by rw [HC.out, HZC.out]; exact HSN.out]
            exact h⟩
          case measure => simp [intOf]; omega
    · have hCL : C.take t = C := List.take_of_length_le (by rw [HC.out, List.length_map, HKL.out]; omega)
      have HCC := Lib.hid (show MatV wr u9 C from by have := HSX.out.hd.read; rwa [hCL] at this)
      have HX3 := Lib.hid (HS3.out _ hg)
      clear hg hCL
      obtain ⟨xa, xc, rfl⟩ := HCC.out.shape
      generalize C.length = cl at *
      go_wp2_with (
        go_at_call 177
        go_loud (with_reducible refine (H4.out _ _ HCC.out).mono ?_)
        rintro e w9 ⟨ra, rc, rfl, hp, g9⟩
        have HX9 := Lib.hid (HX3.out.grown g9)
        have hsz := lt_of_blk HX3.out.hd
        have HPP := Lib.hid hp
        obtain ⟨t0, t1, t2, t3⟩ := bx HX9.out.hd
        clear hp g9)
      have HD4 := Lib.hid ((HX9.out.setB 0 (.int .i64 lm)).setB 1 (.slice ra PL.length rc))
      have HMM := Lib.hid ((HPP.out.only (one_set (w := w9) (w.heap.size + 1 + 1) (.int .i64 lm) (.slice ra PL.length rc)) (fun k' hk' => by have : k' = w.heap.size + 1 + 1 := hk'; omega)).read)
      have HE := Lib.hid (show w.grownBy _ none from HD4.out.tl.tl.tl.hd)
      generalize PL.length = rl at *
      refine bodyPost_ret_by (v := .tuple #[.agg #[.int .i64 lm, .slice ra rl rc], .bool true]) ?_ rfl ⟨_, rfl, HMM.out, HE.out⟩
      simp [results, go_sem, *]
end Go.Proofs.YtpeaeminjbjlnaaDoor

/-
  Meets of valid spaces. Conditions: the spaces are valid and of one size.
-/
namespace Go.Proofs.YtpeaeminjbjlnaaDoor
open Go.RowKit
set_option linter.unusedVariables false

theorem Sep.freshM {w : World} {g n c : Nat} {L : List (List Int)} {l : List Asrt} (h : Sep w (OM (.slice (some ⟨g, 0, none⟩) n c) [] L :: l)) : Sep w [OM (.slice (some ⟨g, 0, none⟩) n c) [] L, KeepX w g] :=
  ⟨h.hd, fun C hC => by
    rw [List.mem_singleton] at hC
    subst hC
    refine ⟨fun k hk hk' => ?_, fun k hk => hk.elim⟩
    rcases hk with hk | ⟨x, hx, _⟩
    · have : g = k := by simpa [Hits, Value.ownBlock] using hk
      exact hk'.2 this.symm
    · simp at hx, ⟨rfl, rfl, rfl, Nat.le_refl _, fun _ _ _ => rfl⟩, by simp, trivial⟩
theorem Sep.pastM {w w' : World} {g n c : Nat} {L : List (List Int)} {l : List Asrt} (h : Sep w (OM (.slice (some ⟨g, 0, none⟩) n c) [] L :: l)) (hg : w.grownBy w' (some g)) : Sep w' l :=
  h.tl.only (Only.of_some hg) fun C hC k hk hk' => (h.2.1 C hC).1 k (by subst hk'; exact Or.inl rfl) hk
theorem some_none {a b c : World} {g : Nat} (h : a.grownBy b (some g)) (h' : b.grownBy c none) : a.grownBy c (some g) :=
  ⟨h'.os.trans h.os, h'.tape.trans h.tape, h'.output.trans h.output, Nat.le_trans h.size h'.size, fun k hk hn => (h'.block k (Nat.lt_of_lt_of_le hk h.size) (by simp)).trans (h.block k hk hn)⟩

set_option maxRecDepth 100000 in
set_option maxHeartbeats 2000000 in
theorem meetOf_yes (p n m : Int) (u v : Value) (A M : List (List Int)) (w : World) (ht : Tab w) (hu : MatV w u A) (hv : MatV w v M) (hb : twoB p n A m M = true) :
    Calls Tryd.prog 54 #[.int .i64 p, mxV n u, mxV m v] w fun e w' => ∃ o, e = .returned (.tuple #[mxV n o, .bool true]) ∧ MatV w' o (meetL p n.toNat A M) ∧ w.grownBy w' none := by
  have hb' := hb
  obtain ⟨q, iq, k, rfl, rfl, rfl, hf, hq, hk, hla, hlm, hR, _, hA, hM⟩ := twoB_nat hb'
  rw [Int.toNat_natCast]
  have H1 := fun W (hg : w.grownBy W none) => twoSpaces_any q k k u v A M W (ht.grown hg) (hu.carry hg) (hv.carry hg) (by omega) (fun row hr => by rw [(hA row hr).1]; omega) (by omega) (fun row hr => by rw [(hM row hr).1]; omega)
  rw [hb] at H1
  have H1 := Lib.hid H1
  have H3 := Lib.hid fun W (hg : w.grownBy W none) => clones_any u A W (hu.carry hg) (by omega) (fun row hr => by rw [(hA row hr).1]; omega)
  have H4 := Lib.hid fun W o (h : MatV W o (A ++ M)) => kernel_own q o (A ++ M) k W hf (by omega) h (app_ok hA hM) (by rw [List.length_append]; omega) (by omega)
  have hkr := (kernelL_red hf (app_ok hA hM)).1
  have hkn := (kernelL_red hf (app_ok hA hM)).len_le
  have hpo := meetRows_ok (C := M) (lt_p hf) hA
  have hpl : (meetRows q k A M).length = (kernelL q k (A ++ M)).length := by simp [meetRows]
  have H5 := Lib.hid fun W o (h : MatV W o (meetRows q k A M)) => span_any q k o (meetRows q k A M) W hf (by omega) h hpo (by rw [hpl]; rw [List.length_append] at hkn; omega) (by omega)
  have HCB := Lib.hid fun (row : List Int) (r : Value) (W : World) (hg : w.grownBy W none) (hr : IntsV W r row) (hok : VecOk q A.length row) => combine_any q r _ row A k W (lt_p hf) (by omega) hr (hu.carry hg) hok.1 hok.2 hA (by omega) (by omega)
  have HPR := Lib.hid (show meetRows q k A M = (kernelL q k (A ++ M)).map fun x => combTo q (x.take A.length) A k A.length from rfl)
  have hkv : ∀ i, i < (kernelL q k (A ++ M)).length → VecOk q A.length (((kernelL q k (A ++ M)).getD i []).take A.length) := fun i hi => take_ok' (hkr _ (getD_mem hi)) (by rw [List.length_append]; omega)
  have HKV := Lib.hid hkv
  have HKR := Lib.hid (show ∀ i, i < (kernelL q k (A ++ M)).length → ((kernelL q k (A ++ M)).getD i []).length = A.length + M.length from fun i hi => by rw [(hkr _ (getD_mem hi)).1, List.length_append])
  have HV := Lib.hid fun W (hg : w.grownBy W none) => hv.carry hg
  have hkn2 : (kernelL q k (A ++ M)).length ≤ 100 := by rw [List.length_append] at hkn; omega
  obtain ⟨ua, uc, rfl⟩ := hu.shape
  obtain ⟨va, vc, rfl⟩ := hv.shape
  unfold mxV at *
  rw [show reducedL q k (meetRows q k A M) = meetL q k A M from rfl] at H5
  generalize meetRows q k A M = PR at *
  generalize meetL q k A M = PL at *
  generalize kernelL q k (A ++ M) = K at *
  generalize hal : A.length = la at *
  generalize hml : M.length = lm at *
  have HAL := Lib.hid hal; have HML := Lib.hid hml
  have HS := Lib.hid ((((Sep.start w).box #[.int .i64 k, .slice ua la uc] 74).box #[.int .i64 k, .slice va lm vc] 74).box #[.int .i64 0, .slice none 0 0] 74)
  have HG := Lib.hid HS.out.end3
  simp only [show ∀ (W : World) o, (W.alloc o).heap.size = W.heap.size + 1 from fun W o => by simp] at HS
  obtain ⟨y0, y1, y2, y3⟩ := bx HS.out.s3.hd
  obtain ⟨z0, z1, z2, z3⟩ := bx HS.out.s2.hd
  clear hu hv hA hM hb hb' hal hml hR hf hkr hkn hpo hkv hpl
  go_enter Tryd.func54, Tryd.ntmps54
  go_wp2_with (
    go_at_call 165
    go_loud (with_reducible refine (H1.out _ HG.out).mono ?_)
    rintro e w2 ⟨rfl, g1⟩
    have HS2 := Lib.hid (HS.out.grown g1)
    obtain ⟨e0, e1, e2, e3⟩ := bx HS2.out.s3.hd
    obtain ⟨f0, f1, f2, f3⟩ := bx HS2.out.s2.hd
    clear g1)
  have HSE := Lib.hid HS2.out.emptyM
  generalize hg5 : w2.heap.size = g5 at *
  generalize w2.alloc (.cells #[] 24) = w5 at *
  have hgd : w5.grownBy w5.drew none := ⟨rfl, rfl, rfl, Nat.le_refl _, fun _ _ _ => rfl⟩
  have HSF := Lib.hid fun W (h : w5.grownBy W none) => HSE.out.grown h
  have HGW := Lib.hid (show w.grownBy w5.drew none from (HSF.out _ hgd).tl.tl.tl.tl.hd)
  have HGD := Lib.hid hgd
  have hlt5 : g5 < w5.drew.heap.size := ((HSF.out _ hgd).hd.lt (Or.inl rfl)).2
  obtain ⟨p0, p1, p2, p3⟩ := bx (HSF.out _ hgd).s4.hd
  obtain ⟨p4, p5, p6, p7⟩ := bx (HSF.out _ hgd).s3.hd
  clear hgd
  go_upto_region 4 with fail
  go_cut [27, 28, 29] from 18 to 29 (fun kk ll ii wx => ∃ (ka : Option Addr) (kc : Nat), kk = .slice ka K.length kc ∧ ll = .int .i64 K.length ∧ ii = .int .i64 0 ∧ Pre w5.drew.heap.size wx (.slice ka K.length kc) K ∧ w5.grownBy wx none)
  case first =>
    go_region_law (first
      | (try go_simp
         go_at_call 118
         go_loud (refine (H3.out _ HGW.out).mono ?_)
         rintro e w6 ⟨o, vs, rfl, ho, g2⟩
         obtain ⟨oa, oc, hoe, _, _⟩ := own_form ho
         subst hoe
         rw [HAL.out] at ho ⊢
         have HO := Lib.hid ho
         have HG2 := Lib.hid g2
         obtain ⟨q0, q1, q2, q3⟩ := bx (HSF.out _ (HGD.out.trans g2)).s4.hd
         obtain ⟨q4, q5, q6, q7⟩ := bx (HSF.out _ (HGD.out.trans g2)).s3.hd
         clear ho g2)
      | (go_loud (refine step_app_rows rfl _ _ rfl rfl rfl (HO.out.mixed (w0 := w5.drew)) (HV.out _ HGW.out) (Nat.le_refl _) HG2.out.size HG2.out (by rw [HAL.out]; omega) (by rw [HML.out]; omega) ?_)
         intro a3 c3 us3 w7 hmx hbz g3
         have HMX := Lib.hid (hmx.read g3)
         rw [HAL.out, HML.out] at HMX ⊢
         have HG3 := Lib.hid (HGW.out.trans g3)
         have HGE := Lib.hid (HGD.out.trans g3)
         have hsz7 := g3.size
         obtain ⟨r0, r1, r2, r3⟩ := bx (HSF.out _ (HGD.out.trans g3)).s4.hd
         obtain ⟨r4, r5, r6, r7⟩ := bx (HSF.out _ (HGD.out.trans g3)).s3.hd
         clear hmx hbz g3)
      | (try go_simp
         go_at_call 127
         go_loud (with_reducible refine (H4.out _ _ HMX.out).mono ?_)
         rintro e w8 ⟨ka, kc, rfl, hp, g4⟩
         have HS8 := Lib.hid (HSF.out _ (HGE.out.trans g4))
         have HP := Lib.hid hp
         have HGK := Lib.hid (HGE.out.trans g4)
         obtain ⟨t0, t1, t2, t3⟩ := bx (HSF.out _ (HGE.out.trans g4)).s4.hd
         obtain ⟨t4, t5, t6, t7⟩ := bx (HSF.out _ (HGE.out.trans g4)).s3.hd
         clear hp g4))
    all_goals
      go_wp2_with fail
      go_meet
      exact ⟨ka, kc, rfl, rfl, rfl, HP.out.base hsz7, HGK.out⟩
  case rest =>
    obtain ⟨ka, kc, rfl, rfl, rfl, hpre, hgk⟩ := hcut
    have HP := Lib.hid hpre
    have HS8 := Lib.hid (HSF.out _ hgk)
    have hg8 : w.grownBy wc none := (HSF.out _ hgk).tl.tl.tl.tl.hd
    have HG8 := Lib.hid hg8
    have HST := Lib.hid (HSF.out _ hgk).freshM
    have hlt8 : g5 < w5.drew.heap.size := hlt5
    clear hpre hgk hg8
    generalize hKl : K.length = lk at *
    have HKL := Lib.hid hKl
    clear hKl
    go_wp2_with fail
    go_loopw [8, 29] (fun out i wr => ∃ (t : Nat) (vs : List Value), t ≤ lk ∧ i = .int .i64 t ∧ Sep wr [OM out vs (PR.take t), KeepX wc g5]) (fun _ i _ => lk - (intOf i).toNat)
    case atStart => exact ⟨0, [], by omega, rfl, HST.out⟩
    case round =>
      obtain ⟨t, vs, htk, rfl, hs⟩ := hrel
      have HSX := Lib.hid hs
      have hg := hs.s2.hd
      have HBF := Lib.hid fun W (h : wc.grownBy W (some g5)) => HS8.out.pastM h
      have hb0 := HBF.out _ hg
      obtain ⟨c0, c1, c2, c3⟩ := bx hb0.s3.hd
      have hgw : w.grownBy wr none := hb0.tl.tl.tl.hd
      clear hs hb0
      by_cases hlt : t < lk
      · obtain ⟨kb, kcap, kml, r, rcp, he, hcell, hrow, hcp, hr0, hblk⟩ := HP.out.rowX hg hlt8 (show t < K.length by rw [HKL.out]; exact hlt)
        cases he
        have hrl := HKR.out t hlt
        have hkk : t < K.length := by rw [HKL.out]; exact hlt
        have HSN := Lib.hid (take_snocM (f := fun x => combTo q (x.take la) A k la) hkk)
        have hrv : IntsV wr (.slice r la rcp) ((K.getD t []).take la) := by
          have h1 := hrow.only (Only.of_some hg) fun k hk hk' => by
            have := hblk k hk
            omega
          rw [hrl] at h1
          exact h1.take (by rw [hrl]; omega) rcp
        rw [hrl] at hcell hcp
        have HC := Lib.hid (HCB.out _ _ wr.drew (hgw.trans ⟨rfl, rfl, rfl, Nat.le_refl _, fun _ _ _ => rfl⟩) (hrv.carry (w' := wr.drew) ⟨rfl, rfl, rfl, Nat.le_refl _, fun _ _ _ => rfl⟩) (HKV.out t hlt))
        have HPL := Lib.hid (show (PR.take t).length = t by rw [List.length_take, HPR.out, List.length_map, HKL.out]; omega)
        have hcp2 : ((la : Nat) : Int) ≤ ((rcp : Nat) : Int) := by omega
        have hcp3 : la ≤ rcp := by omega
        have hcp4 : (0 : Int) ≤ ((la : Nat) : Int) := by omega
        have hgd : wr.grownBy wr.drew none := ⟨rfl, rfl, rfl, Nat.le_refl _, fun _ _ _ => rfl⟩
        have HSD := Lib.hid (HSX.out.grown hgd)
        have hbd := HBF.out _ (some_none hg hgd)
        obtain ⟨d0, d1, d2, d3⟩ := bx hbd.s3.hd
        have HGX := Lib.hid (some_none hg hgd)
        clear hrow hblk hrl hrv hgw hg hgd hbd hkk
        obtain ⟨oa0, oc0, hoe, _, _⟩ := own_form HSD.out.hd
        subst hoe
        have hsd := HSD.out
        rw [HPL.out] at hsd ⊢
        have HSD := Lib.hid hsd
        clear hsd
        go_wp2_with fail
        go_region_law (first
          | (try go_simp
             go_at_call 170
             go_loud (refine (HC.out).mono ?_)
             rintro e w9 ⟨o, rfl, ho, g2⟩
             obtain ⟨oa2, oc2, hoe2⟩ := own_shape ho
             subst hoe2
             have HS9 := Lib.hid (HSD.out.newI g2 ho)
             have hb9 := HBF.out _ (some_none HGX.out g2)
             obtain ⟨q0, q1, q2, q3⟩ := bx hb9.s3.hd
             have z0 := fun o => cell_alloc q0 o
             have z1 := fun o => cell_alloc q1 o
             clear ho g2 hb9)
          | (go_loud (refine step_app_rowS rfl _ _ rfl rfl rfl HS9.out (by rw [HPL.out]; omega) ?_)
             intro g3 c3 w10 h10
             rw [HPL.out] at h10 ⊢
             have HS10 := Lib.hid h10
             have hb10 := HBF.out _ h10.s2.hd
             obtain ⟨r0, r1, r2, r3⟩ := bx hb10.s3.hd
             clear h10 hb10))
        all_goals
          go_wp2_with fail
          go_roundw
          case rel => exact ⟨t + 1, _, by omega, by go_num, by rw [show PR.take (t + 1) = PR.take t ++ [combTo q ((K.getD t []).take la) A k la] from by rw [HPR.out]; exact HSN.out]; exact HS10.out⟩
          case measure => simp [intOf]; omega
      · have hrd : MatV wr u8 PR := by
          have := HSX.out.hd.read
          rwa [List.take_of_length_le (by rw [HPR.out, List.length_map, HKL.out]; omega)] at this
        obtain ⟨xa, xc, rfl⟩ := hrd.shape
        have HRD := Lib.hid hrd
        have HBX := Lib.hid (HBF.out _ hg)
        clear hrd hg
        generalize PR.length = pl at *
        go_wp2_with (
          go_at_call 166
          go_loud (with_reducible refine (H5.out _ _ HRD.out).mono ?_)
          rintro e w9 ⟨o4, rfl, hp, g9⟩
          obtain ⟨ra, rc, rfl⟩ := hp.shape
          have HX9 := Lib.hid (HBX.out.grown g9)
          have hsz := lt_of_blk HBX.out.hd
          have HPP := Lib.hid hp
          obtain ⟨t0, t1, t2, t3⟩ := bx HX9.out.hd
          clear hp g9)
        have HD4 := Lib.hid ((HX9.out.setB 0 (.int .i64 k)).setB 1 (.slice ra PL.length rc))
        have HMM := Lib.hid ((HPP.out.only (one_set (w := w9) (w.heap.size + 1 + 1) (.int .i64 k) (.slice ra PL.length rc)) (fun k' hk' => by have : k' = w.heap.size + 1 + 1 := hk'; omega)).read)
        have HE := Lib.hid (show w.grownBy _ none from HD4.out.tl.tl.tl.hd)
        generalize PL.length = rl at *
        refine bodyPost_ret_by (v := .tuple #[.agg #[.int .i64 k, .slice ra rl rc], .bool true]) ?_ rfl ⟨_, rfl, HMM.out, HE.out⟩
        simp [results, go_sem, *]
end Go.Proofs.YtpeaeminjbjlnaaDoor

/-
  Images of valid spaces. Conditions: the space and the matrix are valid and fit.
-/
namespace Go.Proofs.YtpeaeminjbjlnaaDoor
open Go.RowKit
set_option linter.unusedVariables false

set_option maxRecDepth 100000 in
set_option maxHeartbeats 2000000 in
theorem imageOf_yes (q : Nat) [NeZero q] (k m : Nat) (u v : Value) (A M : List (List Int)) (w : World) (ht : Tab w) (hu : MatV w u A) (hv : MatV w v M) (hb1 : spaceB q k A = true) (hb2 : matB q m M = true) (hmk : M.length = k) :
    Calls Tryd.prog 60 #[.int .i64 q, mxV k u, mxV m v] w fun e w' => ∃ o, e = .returned (.tuple #[mxV m o, .bool true]) ∧ MatV w' o (imageL q m A M) ∧ w.grownBy w' none := by
  have hA0 := spaceB_nat hb1
  obtain ⟨q', iq, k', e1, e2, hf, hq, hk, hla, hR, hA⟩ := hA0
  obtain rfl : q = q' := by omega
  obtain rfl : k = k' := by omega
  obtain ⟨_, _, m', e3, hm, hml, hM⟩ := matB_parts hb2
  obtain rfl : m = m' := by omega
  have H1 := fun W (hg : w.grownBy W none) => isSpace_any q k u A W (ht.grown hg) (hu.carry hg) (by omega) (fun row hr => by rw [(hA row hr).1]; omega)
  have H2 := fun W (hg : w.grownBy W none) => isMatrix_any q m v M W (ht.grown hg) (hv.carry hg) (by omega) (fun row hr => by rw [(hM row hr).1]; omega)
  rw [hb1] at H1
  rw [hb2] at H2
  have H1 := Lib.hid H1; have H2 := Lib.hid H2
  have H3 := Lib.hid fun W (hg : w.grownBy W none) => times_any q k m u v A M W (lt_p hf) (by omega) (hu.carry hg) (hv.carry hg) (by rw [hmk]; exact hA) hM (by omega) (by omega) (by omega)
  have hto := timesL_ok (X := A) (lt_p hf) hM
  have H4 := Lib.hid fun W o (h : MatV W o (timesL q A M m)) => span_any q m o (timesL q A M m) W hf (by omega) h hto (by rw [timesL_len]; omega) (by omega)
  obtain ⟨ua, uc, rfl⟩ := hu.shape
  obtain ⟨va, vc, rfl⟩ := hv.shape
  unfold mxV at *
  rw [show reducedL q m (timesL q A M m) = imageL q m A M from rfl] at H4
  generalize imageL q m A M = PL at *
  generalize timesL q A M m = T at *
  rw [hmk] at *
  generalize hal : A.length = la at *
  have HS := Lib.hid ((((Sep.start w).box #[.int .i64 k, .slice ua la uc] 74).box #[.int .i64 m, .slice va k vc] 39).box #[.int .i64 0, .slice none 0 0] 74)
  have HG := Lib.hid (show w.grownBy _ none from HS.out.tl.tl.tl.hd)
  simp only [show ∀ (W : World) o, (W.alloc o).heap.size = W.heap.size + 1 from fun W o => by simp] at HS
  obtain ⟨y0, y1, y2, y3⟩ := bx HS.out.s3.hd
  obtain ⟨z0, z1, z2, z3⟩ := bx HS.out.s2.hd
  clear hu hv hA hM hb1 hb2 hal hR hf hto e1 e2 e3
  go_enter Tryd.func60, Tryd.ntmps60
  go_wp2_with (first
    | (go_at_call 171
       go_loud (with_reducible refine (H1.out _ HG.out).mono ?_)
       rintro e w1 ⟨rfl, g1⟩
       have HS1 := Lib.hid (HS.out.grown g1)
       have HG1 := Lib.hid (HG.out.trans g1)
       obtain ⟨a0, a1, a2, a3⟩ := bx HS1.out.s3.hd
       obtain ⟨b0, b1, b2, b3⟩ := bx HS1.out.s2.hd
       clear g1)
    | (go_at_call 117
       go_loud (with_reducible refine (H2.out _ HG1.out).mono ?_)
       rintro e w2 ⟨rfl, g2⟩
       have HS2 := Lib.hid (HS1.out.grown g2)
       obtain ⟨e0, e1, e2, e3⟩ := bx HS2.out.s3.hd
       obtain ⟨f0, f1, f2, f3⟩ := bx HS2.out.s2.hd
       clear g2))
  have hgd : w2.grownBy w2.drew none := ⟨rfl, rfl, rfl, Nat.le_refl _, fun _ _ _ => rfl⟩
  have HD := Lib.hid (HS2.out.grown hgd)
  have HGW := Lib.hid (show w.grownBy w2.drew none from HD.out.tl.tl.tl.hd)
  clear hgd
  have XF := Lib.hid fun W c6 (h : Sep W [BxA (w.heap.size + 1 + 1) c6 74, BxA (w.heap.size + 1) #[.int .i64 m, .slice va k vc] 39, BxA w.heap.size #[.int .i64 k, .slice ua la uc] 74, KeepA w]) =>
    And.intro (bx h.s3.hd).1 (And.intro (bx h.s3.hd).2.1 (And.intro (bx h.s2.hd).1 (bx h.s2.hd).2.1))
  have X0 := Lib.hid (XF.out _ _ HD.out)
  have hfd : ∀ (x y : Value) (W : World), (Instr.field 39 (.agg #[x, y]) 1).run Tryd.prog W = .ok y W := fun _ _ _ => by kernel_rfl
  go_wp2_with fail
  go_region_held3 (fun w' => w'.cell? ⟨w.heap.size, 0, none⟩ = some (.int .i64 k) ∧ w'.cell? ⟨w.heap.size, 1, none⟩ = some (.slice ua la uc) ∧ w'.cell? ⟨w.heap.size + 1, 0, none⟩ = some (.int .i64 m) ∧ w'.cell? ⟨w.heap.size + 1, 1, none⟩ = some (.slice va k vc))
    (first | with_reducible exact X0.out | with_reducible exact X2.out | with_reducible exact X3.out | with_reducible exact X4.out)
    (first
      | (go_at_call 123
         go_loud (with_reducible refine (H3.out _ HGW.out).mono ?_)
         rintro e w3 ⟨o, vs, rfl, ho, g3⟩
         have hor := ho.read
         obtain ⟨oa, oc, rfl⟩ := hor.shape
         generalize T.length = tl at *
         have HO := Lib.hid hor
         have HD2 := Lib.hid (HD.out.grown g3)
         have X2 := Lib.hid (XF.out _ _ HD2.out)
         clear ho g3 hor)
      | (go_at_call 166
         go_loud (with_reducible refine (H4.out _ _ HO.out).mono ?_)
         rintro e w4 ⟨o4, rfl, hp, g4⟩
         obtain ⟨ra, rc, rfl⟩ := hp.shape
         have HP := Lib.hid hp
         have hsz := lt_of_blk HD2.out.hd
         have HD3 := Lib.hid (HD2.out.grown g4)
         have X3 := Lib.hid (XF.out _ _ HD3.out)
         obtain ⟨t0, t1, t2, t3⟩ := bx HD3.out.hd
         have HD4 := Lib.hid ((HD3.out.setB 0 (.int .i64 m)).setB 1 (.slice ra PL.length rc))
         have X4 := Lib.hid (XF.out _ _ HD4.out)
         clear hp g4))
  have HM := Lib.hid ((HP.out.only (one_set (w := w4) (w.heap.size + 1 + 1) (.int .i64 m) (.slice ra PL.length rc)) (fun k' hk' => by have : k' = w.heap.size + 1 + 1 := hk'; omega)).read)
  obtain ⟨u0, u1, u2, u3⟩ := bx HD4.out.hd
  have HE := Lib.hid (show w.grownBy _ none from HD4.out.tl.tl.tl.hd)
  generalize PL.length = rl at *
  generalize (w4.setCell ⟨w.heap.size + 1 + 1, 0, none⟩ (.int .i64 m)).setCell ⟨w.heap.size + 1 + 1, 1, none⟩ (.slice ra rl rc) = w5 at *
  go_wp2
  refine bodyPost_ret_by (v := .tuple #[.agg #[.int .i64 m, .slice ra rl rc], .bool true]) ?_ rfl ⟨_, rfl, HM.out, HE.out⟩
  simp [results, go_sem, *]
end Go.Proofs.YtpeaeminjbjlnaaDoor

/-
  Drawn spaces. Conditions: small sizes.
-/
namespace Go.Proofs.YtpeaeminjbjlnaaDoor
open Go.RowKit
set_option linter.unusedVariables false

theorem elok_rows {p : Int} {n : Nat} {L : List (List Int)} (hp : 2 ≤ p) (h : ∀ row ∈ L, row.length = n ∧ ElOk p row) : RowsOk p n L := fun row hr => ⟨(h row hr).1, fun z hz => by have := (h row hr).2 z hz; omega⟩
theorem Sep.upM {w w' : World} {l : List Asrt} {v : Value} {vs : List Value} {L : List (List Int)} (h : Sep w (OM v vs L :: l)) {v' : Value} {vs' : List Value} {L' : List (List Int)} (hg : w.grownBy w' none) (ho : OwnM w.heap.size w' v' vs' L') : Sep w' (OM v' vs' L' :: l) := (h.tl).newM hg ho

set_option maxRecDepth 100000 in
theorem space_any {N : Nat} (p sz : Nat) [NeZero p] (b : Nat) (n : Int) (w : World) (hf : fldN p = true) (hp2 : p ≤ 1000) (hc : Bd.Cur N w b n) (hsz : sz ≤ 100) (hn : n + 10000000 ≤ 1000000000000) :
    Calls Tryd.prog 273 #[.pointer (some ⟨b, 0, none⟩), .int .i64 p, .int .i64 sz] w fun e w' => ∃ o, e = .returned (mxV sz o) ∧ ∃ vs L, OwnM w.heap.size w' o vs L ∧ L.length ≤ sz ∧ (∀ row ∈ L, row.length = sz) ∧ Bd.Cur N w' b (n + 10000000) ∧ w.grownBy w' (some b) := by
  have hp1 := lt_p hf
  have HS0 := Lib.hid (Sep.startX hc)
  have HS := Lib.hid ((Sep.startX hc).box #[.int .i64 0, .slice none 0 0] 74)
  have hbw := hc.lt
  unfold mxV
  clear hc
  go_enter Tryd.func273, Tryd.ntmps273
  go_wp2_with (first
    | (go_at_call 202
       refine (rows_any p sz (1 + sz) b _ _ HS.out.s2.hd (by omega) (by omega) (by omega) (by omega)).mono ?_
       rintro e w1 ⟨ro, rfl, vs, L, ho, hl, hok, c1, g1⟩
       have HS1 := Lib.hid (HS.out.s2.drawM c1 g1 ho)
       have HOK := Lib.hid (elok_rows (show (2 : Int) ≤ p by omega) hok)
       have HL := Lib.hid hl
       clear ho hl hok c1 g1)
    | (go_at_call 168
       go_loud (refine (spReduce_own p sz _ _ _ hf hp2 HS1.out.hd.read HOK.out (Nat.le_trans HL.out (by omega)) (by omega)).mono ?_)
       rintro e w2 ⟨ra, rc, rfl, ⟨vs2, ho2⟩, hg2⟩
       have hred := reducedL_red hf HOK.out
       have HLE := Lib.hid hred.len_le
       have HRO := Lib.hid hred.1
       have HS2 := Lib.hid (HS1.out.upM hg2 ho2)
       generalize reducedL p sz L = red at *
       obtain ⟨c0, c1, f0, f1⟩ := bx HS2.out.s3.hd
       clear hred hg2 ho2))
  refine bodyPost_ret_by (v := .agg #[.int .i64 sz, .slice ra red.length rc]) ?_ rfl ?_
  · simp [results, go_sem, *]
  · have h := ((HS2.out.s3.setB 0 (.int .i64 sz)).setB 1 (.slice ra red.length rc)).tl
    exact ⟨_, rfl, vs2, red, h.matX, HLE.out, fun row hr => (HRO.out row hr).1, h.s2.hd, h.s3.hd⟩

end Go.Proofs.YtpeaeminjbjlnaaDoor

/-
  Drawn spaces, seldom bent. Conditions: small sizes.
-/
namespace Go.Proofs.YtpeaeminjbjlnaaDoor
open Go.RowKit
set_option linter.unusedVariables false

/-- a drawn space, whatever was bent in it -/
def DSpace (N b : Nat) (n : Int) (w : World) (sz : Int) (e : Ending) (w' : World) : Prop :=
  ∃ (c : Int) (o : Value) (vs : List Value) (L : List (List Int)), e = .returned (mxV c o) ∧ 0 ≤ c ∧ c ≤ sz + 1 ∧ OwnM w.heap.size w' o vs L ∧ L.length ≤ 1000 ∧ (∀ row ∈ L, row.length ≤ 1000) ∧ Bd.Cur N w' b n ∧ w.grownBy w' (some b)
theorem fin_space {N b s r : Nat} {n m sz c : Int} {w W : World} {o : Value} {vs : List Value} {L : List (List Int)} {cs cs2 : Array Value} {t : TypeId} (h : Sep W [OM o vs L, CA N b m, BxA s cs2 t, BxA r cs t, KeepX w b]) (hm : m ≤ n) (h0 : 0 ≤ c) (h1 : c ≤ sz + 1) (hl : L.length ≤ 1000) (hll : ∀ row ∈ L, row.length ≤ 1000) (x y : Value) :
    DSpace N b n w sz (.returned (mxV c o)) ((W.setCell ⟨r, 0, none⟩ x).setCell ⟨r, 1, none⟩ y) := by
  have h2 := ((h.s4.setB 0 x).setB 1 y).tl.under (fun t => t.drop2) (by simp +contextual)
  exact ⟨c, o, vs, L, rfl, h0, h1, h2.matX, hl, hll, h2.s2.hd.mono hm, h2.s3.hd⟩
theorem fin_spaceD {N b s r : Nat} {n m sz c : Int} {w W : World} {o : Value} {vs : List Value} {L : List (List Int)} {cs cs2 : Array Value} {t : TypeId} (h : Sep W [OM o vs L, CA N b m, BxA s cs2 t, BxA r cs t, KeepX w b]) (hm : m ≤ n) (h0 : 0 ≤ c) (h1 : c ≤ sz + 1) (hl : L.length ≤ 1000) (hll : ∀ row ∈ L, row.length ≤ 1000) (x y : Value) :
    DSpace N b n w sz (.returned (mxV c o)) ((W.setCell ⟨r, 0, none⟩ x).setCell ⟨r, 1, none⟩ y).drew := by
  have h2 := ((h.s4.setB 0 x).setB 1 y).tl.under (fun t => t.drop2) (by simp +contextual)
  have h2 := h2.dr
  exact ⟨c, o, vs, L, rfl, h0, h1, h2.matX, hl, hll, h2.s2.hd.mono hm, h2.s3.hd⟩
/-- the rows' places -/
theorem row_names {B g m c cn : Nat} {w : World} {vs : List Value} {L : List (List Int)} (h : OwnM B w (.slice (some ⟨g, 0, none⟩) m c) vs L) (hr : ∀ row ∈ L, row.length = cn) (hc : 0 < cn) :
    ∃ G C : Nat → Nat, ∀ i, i < L.length → vs.getD i nilS = .slice (some ⟨G i, 0, none⟩) cn (C i) := by
  have key : ∀ i, ∃ gc : Nat × Nat, i < L.length → vs.getD i nilS = .slice (some ⟨gc.1, 0, none⟩) cn gc.2 := by
    intro i
    by_cases hi : i < L.length
    · have hl := hr _ (getD_mem hi)
      obtain ⟨gi, ci, he, _⟩ := (h.row i).parts (by intro h0; rw [h0] at hl; simp at hl; omega)
      rw [hl] at he
      exact ⟨(gi, ci), fun _ => he⟩
    · exact ⟨(0, 0), fun h => absurd h hi⟩
  obtain ⟨F, hF⟩ := Classical.axiomOfChoice key
  exact ⟨fun i => (F i).1, fun i => (F i).2, hF⟩
theorem heads {W : World} {g l oc sz : Nat} {vs : List Value} {L : List (List Int)} {rest : List Asrt} {G C : Nat → Nat} (h : Sep W (OM (.slice (some ⟨g, 0, none⟩) l oc) vs L :: rest)) (hl : L.length = l)
    (hGC : ∀ i, i < l → vs.getD i nilS = .slice (some ⟨G i, 0, none⟩) sz (C i)) : ∀ i, i < l → W.cell? ⟨g, i, none⟩ = some (.slice (some ⟨G i, 0, none⟩) sz (C i)) := fun i hi => by
  rw [h.hd.cell hl.symm (by omega), hGC i hi]
theorem bend_elem {W : World} {g l oc sz : Nat} {vs : List Value} {L : List (List Int)} {rest : List Asrt} {G C : Nat → Nat} (h : Sep W (OM (.slice (some ⟨g, 0, none⟩) l oc) vs L :: rest)) (hl : L.length = l)
    (hGC : ∀ i, i < l → vs.getD i nilS = .slice (some ⟨G i, 0, none⟩) sz (C i)) (hr : ∀ row ∈ L, row.length = sz) {k j : Nat} (hk : k < l) (hj : j < sz) :
    ∃ old, W.cell? ⟨G k, j, none⟩ = some (.int .i64 old) ∧ W.frozen? ⟨G k, j, none⟩ = false ∧ ∀ x, Sep (W.setCell ⟨G k, j, none⟩ (.int .i64 x)) (OM (.slice (some ⟨g, 0, none⟩) l oc) vs (L.set k ((L.getD k []).set j x)) :: rest) := by
  have hlr := hr _ (getD_mem (show k < L.length by omega))
  obtain ⟨gi, ci, _, f1, f2, f3, f4⟩ := h.setM hl.symm (show k < L.length by omega) (show j < (L.getD k []).length by omega)
  rw [heads h hl hGC k hk] at f1
  simp only [Option.some.injEq, Value.slice.injEq, Addr.mk.injEq, and_true] at f1
  obtain ⟨rfl, _, _⟩ := f1
  exact ⟨_, f2, f3, f4⟩
theorem bend_len {L : List (List Int)} {k : Nat} {row : List Int} {B : Nat} (h : ∀ r ∈ L, r.length ≤ B) (hr : row.length ≤ B) : ∀ r ∈ L.set k row, r.length ≤ B := by
  intro r hr'
  rcases List.mem_or_eq_of_mem_set hr' with h1 | h1
  · exact h r h1
  · rw [h1]; exact hr
/-- what the assignments that exchange two rows read and leave, with the rows' lengths -/
theorem Sep.swapN {w : World} {l : List Asrt} {g n cap c : Nat} {vs : List Value} {L : List (List Int)} (h : Sep w (OM (.slice (some ⟨g, 0, none⟩) n cap) vs L :: l)) (hn : n = L.length) (hr' : ∀ row ∈ L, row.length = c) {r j : Nat} (hr : r < L.length) (hj : j < L.length) :
    ∃ ar cr aj cj, w.cell? ⟨g, r, none⟩ = some (.slice ar c cr) ∧ w.cell? ⟨g, j, none⟩ = some (.slice aj c cj) ∧ w.frozen? ⟨g, r, none⟩ = false ∧ w.frozen? ⟨g, j, none⟩ = false ∧
      ∃ vs', Sep ((w.setCell ⟨g, r, none⟩ (.slice aj c cj)).setCell ⟨g, j, none⟩ (.slice ar c cr)) (OM (.slice (some ⟨g, 0, none⟩) n cap) vs' (swapL L r j) :: l) := by
  obtain ⟨h1, h2, h3, h4, h5⟩ := h.swapM hn hr hj
  obtain ⟨ar, cr, er⟩ := own_shape (h.hd.row r)
  obtain ⟨aj, cj, ej⟩ := own_shape (h.hd.row j)
  rw [hr' _ (getD_mem hr)] at er
  rw [hr' _ (getD_mem hj)] at ej
  rw [er] at h1 h5
  rw [ej] at h2 h5
  exact ⟨ar, cr, aj, cj, h1, h2, h3, h4, h5⟩
theorem swapL_all {L : List (List Int)} {r j B : Nat} (h : ∀ row ∈ L, row.length ≤ B) (hr : r < L.length) (hj : j < L.length) : ∀ row ∈ swapL L r j, row.length ≤ B := by
  unfold swapL
  exact bend_len (bend_len h (h _ (getD_mem hj))) (h _ (getD_mem hr))
set_option maxRecDepth 100000 in
set_option maxHeartbeats 2000000 in
theorem anySpace_any {N : Nat} (p : Int) (sz : Nat) (b : Nat) (n : Int) (w : World) (hp : -1000 ≤ p) (hp2 : p ≤ 1000) (hc : Bd.Cur N w b n) (hsz : sz ≤ 24) (hn : n + 20000000 ≤ 1000000000000) :
    Calls Tryd.prog 164 #[.pointer (some ⟨b, 0, none⟩), .int .i64 p, .int .i64 sz] w (DSpace N b (n + 20000000) w sz) := by
  have HS := Lib.hid ((Sep.startX hc).box #[.int .i64 0, .slice none 0 0] 74)
  have HG := Lib.hid fun w' => fdGood_any p w' hp hp2
  have hs0 : (w.alloc (.cells #[.int .i64 0, .slice none 0 0] 74)).heap.size = w.heap.size + 1 := by simp
  clear hc
  cases h1 : fldB p
  · rw [h1] at HG
    clear h1
    go_enter Tryd.func164, Tryd.ntmps164
    go_wp2_with (go_at_call 206; with_reducible refine (HG.out _).mono ?_; rintro e w' ⟨rfl, rfl⟩)
    refine bodyPost_ret_by (v := .agg #[.int .i64 0, .slice none 0 0]) ?_ rfl ?_
    · simp [results, go_sem, *]
    · have h := HS.out.tl.nilM
      exact ⟨0, nilS, [], [], rfl, by omega, by omega, h.matX, by simp, fun r hr => by simp at hr, h.s2.hd.mono (by omega), h.s3.hd⟩
  · obtain ⟨b1, b2⟩ := fldB_bd h1
    obtain ⟨q, rfl⟩ := Int.eq_ofNat_of_zero_le (show 0 ≤ p by omega)
    haveI : NeZero q := ⟨by omega⟩
    rw [h1] at HG
    rw [fldB_nat] at h1
    have HF := Lib.hid h1
    clear h1
    go_enter Tryd.func164, Tryd.ntmps164
    go_wp2_with (first
      | (go_at_call 206; with_reducible refine (HG.out _).mono ?_; rintro e w' ⟨rfl, rfl⟩)
      | (go_at_call 273
         refine (space_any q sz b _ _ HF.out (by omega) HS.out.s2.hd (by omega) (by omega)).mono ?_
         rintro e w1 ⟨o, rfl, vs, L, ho, hl, hll, c1, g1⟩
         obtain ⟨oa, oc, hoe, _, _⟩ := own_form ho
         subst hoe
         have HS1 := Lib.hid (HS.out.s2.drawM c1 g1 ho)
         have HL := Lib.hid hl; have HLL := Lib.hid hll
         unfold mxV
         clear ho hl hll c1 g1))
    have HS2 := Lib.hid (HS1.out.box #[.int .i64 sz, .slice oa L.length oc] 74)
    have hml : L.length ≤ 1000 := Nat.le_trans HL.out (by omega)
    generalize hlen : L.length = l at *
    have HLEN := Lib.hid hlen
    clear hlen
    have hrs : w.heap.size ≠ w1.heap.size := fun e => (HS2.out.s4.apt.symm).1 _ rfl e.symm
    generalize w.heap.size = r at *
    generalize w1.heap.size = s at *
    have hsr : s ≠ r := fun e => hrs e.symm
    refine (Bd.pick_any 20 b _ _ HS2.out.s3.hd (by omega) (by omega)).mono ?_
    rintro e w3 ⟨x, rfl, ⟨x0, x1⟩, c3, g3⟩
    have HS3 := Lib.hid (HS2.out.s3.draw c3 g3).s3
    clear c3 g3
    have hrow : ∀ row ∈ L, row.length ≤ 1000 := fun row hr => by have := HLL.out row hr; omega
    have HROW := Lib.hid hrow
    clear hrow
    obtain ⟨d0, d1, e0, e1⟩ := bx HS3.out.s3.hd
    obtain ⟨d2, d3, e2, e3⟩ := bx HS3.out.s4.hd
    by_cases h0 : x = 0
    · subst h0
      have HS4 := Lib.hid ((HS3.out.s3.setB 0 (.int .i64 (sz + 1))).s2.under Sep.s2 (by simp +contextual))
      go_wp2
      refine bodyPost_ret_by (v := .agg #[.int .i64 (sz + 1), .slice oa l oc]) ?_ rfl ?_
      · simp [results, go_sem, *]
      · exact fin_space HS4.out (by omega) (by omega) (by omega) (by rw [HLEN.out]; exact hml) HROW.out _ _
    · by_cases h1 : x = 1
      · subst h1
        by_cases hl0 : l = 0
        · subst hl0
          go_wp2
          refine bodyPost_ret_by (v := .agg #[.int .i64 sz, .slice oa 0 oc]) ?_ rfl ?_
          · simp [results, go_sem, *]
          · exact fin_space HS3.out (by omega) (by omega) (by omega) (by rw [HLEN.out]; exact hml) HROW.out _ _
        · have hl1 : (0 : Int) < (l : Int) := by omega
          by_cases hz0 : sz = 0
          · subst hz0
            go_wp2
            refine bodyPost_ret_by (v := .agg #[.int .i64 0, .slice oa l oc]) ?_ rfl ?_
            · simp [results, go_sem, *]
            · exact fin_space HS3.out (by omega) (by omega) (by omega) (by rw [HLEN.out]; exact hml) HROW.out _ _
          · have hz1 : (0 : Int) < (sz : Int) := by omega
            obtain ⟨g, gc, hge, _, _, _⟩ := HS3.out.hd.head (by intro h; have := HLEN.out; rw [h] at this; simp at this; omega)
            rw [HLEN.out] at hge
            cases hge
            obtain ⟨G, C, hGC⟩ := row_names HS3.out.hd HLL.out (by omega)
            rw [HLEN.out] at hGC
            have HGC := Lib.hid hGC
            clear hGC
            have HSS := Lib.hid fun W m (L' : List (List Int)) (hl' : L'.length = l) (h : Sep W [OM (.slice (some ⟨g, 0, none⟩) l oc) vs L', CA N b m, BxA s #[.int .i64 sz, .slice (some ⟨g, 0, none⟩) l oc] 74, BxA r #[.int .i64 0, .slice none 0 0] 74, KeepX w b]) => And.intro (bx h.s3.hd).2.1 (heads h hl' HGC.out)
            have X0 := Lib.hid (HSS.out _ _ _ HLEN.out HS3.out.dr)
            have HC3 := Lib.hid (show Bd.Cur N w3.drew b _ from HS3.out.dr.s2.hd)
            go_wp2_with fail
            go_region_held3 (fun w' => w'.cell? ⟨s, 1, none⟩ = some (.slice (some ⟨g, 0, none⟩) l oc) ∧ ∀ i, i < l → w'.cell? ⟨g, i, none⟩ = some (.slice (some ⟨G i, 0, none⟩) sz (C i)))
              (first | with_reducible exact X0.out | with_reducible exact X5.out | with_reducible exact X6.out | with_reducible exact X7.out | with_reducible exact X8.out)
              (first
                | (go_at_call 131
                   first
                     | (with_reducible refine (Bd.pick_any l b _ _ HC3.out (by omega) (by omega)).mono ?_
                        rintro e w5 ⟨k, rfl, ⟨hk0, hk1⟩, c5, g5⟩
                        obtain ⟨k, rfl⟩ := Int.eq_ofNat_of_zero_le hk0
                        have hkl : k < l := by omega
                        have hki : (k : Int) < (l : Int) := by omega
                        have HS5 := Lib.hid (HS3.out.dr.s2.draw c5 g5).s2
                        have X5 := Lib.hid (HSS.out _ _ _ HLEN.out HS5.out)
                        have HC5 := Lib.hid c5
                        clear c5 g5 hk1)
                     | (with_reducible refine (Bd.pick_any sz b _ _ HC5.out (by omega) (by omega)).mono ?_
                        rintro e w6 ⟨j, rfl, ⟨hj0, hj1⟩, c6, g6⟩
                        obtain ⟨j, rfl⟩ := Int.eq_ofNat_of_zero_le hj0
                        have hjl : j < sz := by omega
                        have hji : (j : Int) < (sz : Int) := by omega
                        have HS6 := Lib.hid (HS5.out.s2.draw c6 g6).s2
                        have X6 := Lib.hid (HSS.out _ _ _ HLEN.out HS6.out)
                        have HC6 := Lib.hid c6
                        clear c6 g6 hj1))
                | (go_at_call 203
                   with_reducible refine (Bd.anyElem_any q b _ _ HC6.out (by omega) (by omega) (by omega)).mono ?_
                   rintro e w7 ⟨z, rfl, hz, c7, g7⟩
                   have HS7 := Lib.hid (HS6.out.s2.draw c7 g7).s2
                   have X7 := Lib.hid (HSS.out _ _ _ HLEN.out HS7.out)
                   obtain ⟨old, t1, t2, t3⟩ := bend_elem HS7.out HLEN.out HGC.out HLL.out hkl hjl
                   have HS8 := Lib.hid (t3 z)
                   have X8 := Lib.hid (HSS.out _ _ _ (by rw [List.length_set]; exact HLEN.out) HS8.out)
                   clear c7 g7 hz t3))
            have HLR := Lib.hid (show ∀ row ∈ L.set k ((L.getD k []).set j z), row.length ≤ 1000 from bend_len HROW.out (by rw [List.length_set]; exact HROW.out _ (getD_mem (by rw [HLEN.out]; exact hkl))))
            obtain ⟨d0, d1, e0, e1⟩ := bx HS8.out.s3.hd
            obtain ⟨d2, d3, e2, e3⟩ := bx HS8.out.s4.hd
            generalize w7.setCell ⟨G k, j, none⟩ (.int .i64 z) = w8 at *
            clear t1 t2
            go_wp2
            refine bodyPost_ret_by (v := .agg #[.int .i64 sz, .slice (some ⟨g, 0, none⟩) l oc]) ?_ rfl ?_
            · simp [results, go_sem, *]
            · exact fin_space HS8.out (by omega) (by omega) (by omega) (by rw [List.length_set, HLEN.out]; exact hml) HLR.out _ _
      · by_cases h2 : x = 2
        · subst h2
          have hmk := make_row sz (by omega)
          have HZ := Lib.hid (HS3.out.newI (grownBy_alloc w3 _ none) (row_made sz (by omega) w3 (Nat.le_refl _))).dr
          have z1 := fun o => cell_alloc (w := w3) d1 o
          have z2 := fun o o' => cell_alloc (w := w3.alloc o) (z1 o) o'
          have HSZ := Lib.hid (show ((w3.alloc (.cells (zeroCells sz) 3)).drew).heap.size = w3.heap.size + 1 by show (w3.alloc _).heap.size = _; simp)
          go_wp2_with fail
          go_region_law
            (first
              | (go_loud (refine step_app_rowS (w := (w3.alloc (.cells (zeroCells sz) 3)).drew) rfl _ _ rfl rfl (by rw [HSZ.out]; rfl) HZ.out (by rw [HLEN.out]; omega) ?_)
                 intro g6 vc6 w6 hs6
                 rw [HLEN.out] at hs6 ⊢
                 obtain ⟨k0, k1, k2, k3⟩ := bx hs6.s3.hd
                 obtain ⟨k4, k5, k6, k7⟩ := bx hs6.s4.hd
                 have HS6 := Lib.hid ((hs6.s3.setB 1 (.slice (some ⟨g6, 0, none⟩) (l + 1) vc6)).s2.under Sep.s2 (by simp +contextual))
                 clear hs6))
          all_goals
            go_wp2
            refine bodyPost_ret_by (v := .agg #[.int .i64 sz, .slice (some ⟨g6, 0, none⟩) (l + 1) vc6]) ?_ rfl ?_
            · simp [results, go_sem, *]
            · exact fin_space HS6.out (by omega) (by omega) (by omega) (by have := HL.out; rw [List.length_append, HLEN.out]; simp; omega) (fun row hr => by
                rcases List.mem_append.1 hr with h1 | h1
                · exact HROW.out row h1
                · rw [List.mem_singleton] at h1; rw [h1, List.length_replicate]; omega) _ _
        · by_cases h3 : x = 3
          · subst h3
            by_cases hl1 : 1 < (l : Int)
            · obtain ⟨m, rfl⟩ : ∃ m, l = m + 1 := ⟨l - 1, by omega⟩
              obtain ⟨g, gc, hge, _, _, _⟩ := HS3.out.hd.head (by intro h; have := HLEN.out; rw [h] at this; simp at this)
              rw [HLEN.out] at hge
              cases hge
              obtain ⟨ar, cr, aj, cj, t1, t2, t3, t4, vs', t5⟩ := HS3.out.swapN HLEN.out.symm HLL.out (r := 0) (j := m) (by rw [HLEN.out]; omega) (by rw [HLEN.out]; omega)
              have HS8 := Lib.hid t5
              have HLR := Lib.hid (swapL_all (r := 0) (j := m) HROW.out (by rw [HLEN.out]; omega) (by rw [HLEN.out]; omega))
              have hm0 : m ≠ 0 := by omega
              have hm1 : 0 ≠ m := fun e => hm0 e.symm
              have hgs : g ≠ s := fun e => (HS3.out.drop2).apt.1 g (Or.inl rfl) e
              have hgr : g ≠ r := fun e => (HS3.out.drop2.drop2).apt.1 g (Or.inl rfl) e
              have hsg : s ≠ g := fun e => hgs e.symm
              have hrg : r ≠ g := fun e => hgr e.symm
              clear t5
              go_wp2_with fail
              go_region
              go_wp2
              refine bodyPost_ret_by (v := .agg #[.int .i64 sz, .slice (some ⟨g, 0, none⟩) (m + 1) oc]) ?_ rfl ?_
              · simp [results, go_sem, *]
              · exact fin_spaceD HS8.out (by omega) (by omega) (by omega) (by rw [swapL_len, HLEN.out]; exact hml) HLR.out _ _
            · go_wp2
              refine bodyPost_ret_by (v := .agg #[.int .i64 sz, .slice oa l oc]) ?_ rfl ?_
              · simp [results, go_sem, *]
              · exact fin_space HS3.out (by omega) (by omega) (by omega) (by rw [HLEN.out]; exact hml) HROW.out _ _
          · have hx0 : (x == 0) = false := by rw [beq_eq_false_iff_ne]; exact h0
            have hx1 : (x == 1) = false := by rw [beq_eq_false_iff_ne]; exact h1
            have hx2 : (x == 2) = false := by rw [beq_eq_false_iff_ne]; exact h2
            have hx3 : (x == 3) = false := by rw [beq_eq_false_iff_ne]; exact h3
            clear h0 h1 h2 h3 x1
            go_wp2
            refine bodyPost_ret_by (v := .agg #[.int .i64 sz, .slice oa l oc]) ?_ rfl ?_
            · simp [results, go_sem, *]
            · exact fin_space HS3.out (by omega) (by omega) (by omega) (by rw [HLEN.out]; exact hml) HROW.out _ _
end Go.Proofs.YtpeaeminjbjlnaaDoor

/-
  Sums of spaces in the reference. Conditions: small sizes.
-/
namespace Go.Proofs.YtpeaeminjbjlnaaDoor
open Go.RowKit
set_option linter.unusedVariables false

set_option maxRecDepth 100000 in
set_option maxHeartbeats 1000000 in
theorem sSumOf_yes (p n m : Int) (u v : Value) (A M : List (List Int)) (w : World) (hu : MatV w u A) (hv : MatV w v M) (hp0 : -1000 ≤ p) (hp1 : p ≤ 1000) (hb : twoB p n A m M = true) :
    Calls Tryd.prog 52 #[.int .i64 p, mxV n u, mxV m v] w fun e w' => ∃ o, e = .returned (.tuple #[mxV n o, .bool true]) ∧ MatV w' o (sumL p n.toNat A M) ∧ w.grownBy w' none := by
  have hb' := hb
  obtain ⟨q, iq, k, rfl, rfl, rfl, hf, hq, hk, hla, hlm, _, _, hA, hM⟩ := twoB_nat hb'
  rw [Int.toNat_natCast]
  have H1 := fun W (hg : w.grownBy W none) => spTwo_any q k k u v A M W (hu.carry hg) (hv.carry hg) (by omega) (fun row hr => by rw [(hA row hr).1]; omega) (by omega) (fun row hr => by rw [(hM row hr).1]; omega) hp0 hp1
  rw [hb] at H1
  have H1 := Lib.hid H1
  have H2 := Lib.hid fun W (hg : w.grownBy W none) => spJoin_any u v A M W (hu.carry hg) (hv.carry hg) (by omega) (by omega)
  have H3 := Lib.hid fun W o (h : MatV W o (A ++ M)) => spReduce_any q k o (A ++ M) W hf (by omega) h (app_ok hA hM) (by rw [List.length_append]; omega) (by omega)
  obtain ⟨ua, uc, rfl⟩ := hu.shape
  obtain ⟨va, vc, rfl⟩ := hv.shape
  unfold mxV at *
  generalize hal : A.length = la at *
  generalize hml : M.length = lm at *
  have HAL := Lib.hid hal; have HML := Lib.hid hml
  have HS := Lib.hid ((((Sep.start w).box #[.int .i64 k, .slice ua la uc] 74).box #[.int .i64 k, .slice va lm vc] 74).box #[.int .i64 0, .slice none 0 0] 74)
  have HG := Lib.hid HS.out.end3
  simp only [show ∀ (W : World) o, (W.alloc o).heap.size = W.heap.size + 1 from fun W o => by simp] at HS
  obtain ⟨y0, y1, y2, y3⟩ := bx HS.out.s3.hd
  obtain ⟨z0, z1, z2, z3⟩ := bx HS.out.s2.hd
  clear hu hv hA hM hb hb' hal hml
  go_enter Tryd.func52, Tryd.ntmps52
  go_wp2_with (
    go_at_call 167
    go_loud (with_reducible refine (H1.out _ HG.out).mono ?_)
    rintro e w1 ⟨rfl, g1⟩
    have HS1 := Lib.hid (HS.out.grown g1)
    clear g1)
  have hgd : w1.grownBy w1.drew none := ⟨rfl, rfl, rfl, Nat.le_refl _, fun _ _ _ => rfl⟩
  have HGW := Lib.hid (HS1.out.end3.trans hgd)
  have HD := Lib.hid (HS1.out.grown hgd)
  clear hgd
  have XF := Lib.hid fun W c6 (h : Sep W [BxA (w.heap.size + 1 + 1) c6 74, BxA (w.heap.size + 1) #[.int .i64 k, .slice va lm vc] 74, BxA w.heap.size #[.int .i64 k, .slice ua la uc] 74, KeepA w]) =>
    And.intro (bx h.s3.hd).1 (And.intro (bx h.s3.hd).2.1 (bx h.s2.hd).2.1)
  have X0 := Lib.hid (XF.out _ _ HD.out)
  go_wp2_with fail
  go_region_held3 (fun w' => w'.cell? ⟨w.heap.size, 0, none⟩ = some (.int .i64 k) ∧ w'.cell? ⟨w.heap.size, 1, none⟩ = some (.slice ua la uc) ∧ w'.cell? ⟨w.heap.size + 1, 1, none⟩ = some (.slice va lm vc))
    (first | with_reducible exact X0.out | with_reducible exact X2.out | with_reducible exact X3.out | with_reducible exact X4.out)
    (first
      | (go_at_call 169
         go_loud (with_reducible refine (H2.out _ HGW.out).mono ?_)
         rintro e w2 ⟨o, rfl, ho, g2⟩
         obtain ⟨oa, oc, rfl⟩ := ho.shape
         generalize (A ++ M).length = laj at *
         have HO := Lib.hid ho
         have HD2 := Lib.hid (HD.out.grown g2)
         have X2 := Lib.hid (XF.out _ _ HD2.out)
         clear ho g2)
      | (go_at_call 168
         go_loud (with_reducible refine (H3.out _ _ HO.out).mono ?_)
         rintro e w3 ⟨ra, rc, rfl, hp, g3⟩
         have HP := Lib.hid hp
         have hsz := lt_of_blk HD2.out.hd
         have HD3 := Lib.hid (HD2.out.grown g3)
         have X3 := Lib.hid (XF.out _ _ HD3.out)
         obtain ⟨t0, t1, t2, t3⟩ := bx HD3.out.hd
         have HD4 := Lib.hid ((HD3.out.setB 0 (.int .i64 k)).setB 1 (.slice ra (reducedL q k (A ++ M)).length rc))
         have X4 := Lib.hid (XF.out _ _ HD4.out)
         clear hp g3))
  have HM := Lib.hid ((HP.out.only (one_set (w := w3) (w.heap.size + 1 + 1) (.int .i64 k) (.slice ra (reducedL q k (A ++ M)).length rc)) (fun k' hk' => by have : k' = w.heap.size + 1 + 1 := hk'; omega)).read)
  obtain ⟨u0, u1, u2, u3⟩ := bx HD4.out.hd
  have HE := Lib.hid HD4.out.end3
  generalize (reducedL q k (A ++ M)).length = rl at *
  generalize (w3.setCell ⟨w.heap.size + 1 + 1, 0, none⟩ (.int .i64 k)).setCell ⟨w.heap.size + 1 + 1, 1, none⟩ (.slice ra rl rc) = w4 at *
  go_wp2
  refine bodyPost_ret_by (v := .tuple #[.agg #[.int .i64 k, .slice ra rl rc], .bool true]) ?_ rfl ⟨_, rfl, HM.out, HE.out⟩
  simp [results, go_sem, *]
end Go.Proofs.YtpeaeminjbjlnaaDoor

/-
  Orthogonal spaces of valid spaces. Conditions: the space is valid.
-/
namespace Go.Proofs.YtpeaeminjbjlnaaDoor
open Go.RowKit
set_option linter.unusedVariables false

set_option maxRecDepth 100000 in
set_option maxHeartbeats 1000000 in
theorem orthogonalOf_yes (p n : Int) (u : Value) (A : List (List Int)) (w : World) (ht : Tab w) (hu : MatV w u A) (hb : spaceB p n A = true) :
    Calls Tryd.prog 55 #[.int .i64 p, mxV n u] w fun e w' => ∃ o, e = .returned (.tuple #[mxV n o, .bool true]) ∧ MatV w' o (orthL p A n.toNat) ∧ w.grownBy w' none := by
  have hb' := hb
  obtain ⟨q, iq, k, rfl, rfl, hf, hq, hk, hla, _, hA⟩ := spaceB_nat hb'
  rw [Int.toNat_natCast]
  have H1 := fun W (hg : w.grownBy W none) => isSpace_any q k u A W (ht.grown hg) (hu.carry hg) (by omega) (fun row hr => by rw [(hA row hr).1]; omega)
  rw [hb] at H1
  have H1 := Lib.hid H1
  have H2 := Lib.hid fun W (hg : w.grownBy W none) => orthogonal_any q u A k W hf (by omega) (hu.carry hg) hA (by omega) (by omega)
  obtain ⟨ua, uc, rfl⟩ := hu.shape
  unfold mxV at *
  generalize A.length = la at *
  have HS := Lib.hid (((Sep.start w).box #[.int .i64 k, .slice ua la uc] 74).box #[.int .i64 0, .slice none 0 0] 74)
  have HG := Lib.hid (show w.grownBy _ none from HS.out.tl.tl.hd)
  simp only [show ∀ (W : World) o, (W.alloc o).heap.size = W.heap.size + 1 from fun W o => by simp] at HS
  obtain ⟨y0, y1, y2, y3⟩ := bx HS.out.s2.hd
  clear hu hA hb hb'
  go_enter Tryd.func55, Tryd.ntmps55
  go_wp2_with (
    go_at_call 171
    go_loud (with_reducible refine (H1.out _ HG.out).mono ?_)
    rintro e w1 ⟨rfl, g1⟩
    have HS1 := Lib.hid (HS.out.grown g1)
    clear g1)
  have hgd : w1.grownBy w1.drew none := ⟨rfl, rfl, rfl, Nat.le_refl _, fun _ _ _ => rfl⟩
  have HD := Lib.hid (HS1.out.grown hgd)
  have HGW := Lib.hid (show w.grownBy w1.drew none from HD.out.tl.tl.hd)
  clear hgd
  have XF := Lib.hid fun W c6 (h : Sep W [BxA (w.heap.size + 1) c6 74, BxA w.heap.size #[.int .i64 k, .slice ua la uc] 74, KeepA w]) =>
    And.intro (bx h.s2.hd).1 (bx h.s2.hd).2.1
  have X0 := Lib.hid (XF.out _ _ HD.out)
  go_wp2_with fail
  go_region_held3 (fun w' => w'.cell? ⟨w.heap.size, 0, none⟩ = some (.int .i64 k) ∧ w'.cell? ⟨w.heap.size, 1, none⟩ = some (.slice ua la uc))
    (first | with_reducible exact X0.out | with_reducible exact X3.out | with_reducible exact X4.out)
    (first
      | (go_at_call 172
         go_loud (with_reducible refine (H2.out _ HGW.out).mono ?_)
         rintro e w3 ⟨ra, rc, rfl, hp, g3⟩
         have HP := Lib.hid hp
         have hsz := lt_of_blk HD.out.hd
         have HD3 := Lib.hid (HD.out.grown g3)
         have X3 := Lib.hid (XF.out _ _ HD3.out)
         obtain ⟨t0, t1, t2, t3⟩ := bx HD3.out.hd
         have HD4 := Lib.hid ((HD3.out.setB 0 (.int .i64 k)).setB 1 (.slice ra (orthL q A k).length rc))
         have X4 := Lib.hid (XF.out _ _ HD4.out)
         clear hp g3))
  have HM := Lib.hid ((HP.out.only (one_set (w := w3) (w.heap.size + 1) (.int .i64 k) (.slice ra (orthL q A k).length rc)) (fun k' hk' => by have : k' = w.heap.size + 1 := hk'; omega)).read)
  obtain ⟨u0, u1, u2, u3⟩ := bx HD4.out.hd
  have HE := Lib.hid (show w.grownBy _ none from HD4.out.tl.tl.hd)
  generalize (orthL q A k).length = rl at *
  generalize (w3.setCell ⟨w.heap.size + 1, 0, none⟩ (.int .i64 k)).setCell ⟨w.heap.size + 1, 1, none⟩ (.slice ra rl rc) = w4 at *
  go_wp2
  refine bodyPost_ret_by (v := .tuple #[.agg #[.int .i64 k, .slice ra rl rc], .bool true]) ?_ rfl ⟨_, rfl, HM.out, HE.out⟩
  simp [results, go_sem, *]
end Go.Proofs.YtpeaeminjbjlnaaDoor

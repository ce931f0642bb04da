/-
  Compositions of relations that fit: the walk. Conditions: the relations are valid.
-/
import Derived.Test.YtpeaeminjbjlnaaDoorMl03
namespace Go.Proofs.YtpeaeminjbjlnaaDoor
open Go.RowKit
set_option linter.unusedVariables false

theorem Sep.rowS {w : World} {l : List Asrt} {v : Value} {us : List Value} {L : List (List Int)} (h : Sep w (SH v us L :: l)) {i : Nat} (hi : i < L.length) :
    ∃ (g cap ml : Nat) (r : Option Addr) (c : Nat), v = .slice (some ⟨g, 0, none⟩) ml cap ∧ w.cell? ⟨g, i, none⟩ = some (.slice r (L.getD i []).length c) ∧ us.getD i nilS = .slice r (L.getD i []).length c ∧ IntsV w (.slice r (L.getD i []).length c) (L.getD i []) := by
  obtain ⟨hlen, hown, hrow, hno⟩ := h.hd
  rcases hown.2 with ⟨rfl, h0⟩ | ⟨g, cap, cur, rfl, _⟩
  · omega
  · have hc := World.ownsRow.cellAt hown i (by omega)
    have hr := hrow i hi
    obtain ⟨r, c, he, _⟩ := id hr
    have h2 : us[i]? = some (us.getD i nilS) := by rw [List.getD_eq_getElem?_getD, List.getElem?_eq_getElem (by omega)]; rfl
    have h3 := hc
    rw [h2, he] at h3
    rw [he] at hr
    exact ⟨g, cap, _, r, c, rfl, h3, he, hr⟩
theorem pair_mat {w : World} {x z : Value} {a b : List Int} (hx : IntsV w x a) (hz : IntsV w z b) : MatV (w.alloc (.cells #[x, z] 24)) (.slice (some ⟨w.heap.size, 0, none⟩) 2 2) [a, b] := by
  have hg := grownBy_alloc w (.cells #[x, z] 24) none
  have hb := bx (alloc_heap_new w (.cells #[x, z] 24))
  refine ⟨_, 2, rfl, fun _ => ⟨⟨w.heap.size, 0, none⟩, rfl, rfl, by simp, fun i hi => ?_⟩⟩
  match i, hi with
  | 0, hi => exact ⟨x, hb.1, hx.carry hg⟩
  | 1, hi => exact ⟨z, hb.2.1, hz.carry hg⟩
theorem oi_apart {w : World} {l : List Asrt} {v o : Value} {us : List Value} {zs : List Int} {R : List (List Int)} (h : Sep w (OI v zs :: SH o us R :: l)) : ∀ k, Value.blk' v = some k → ¬ Hits o k ∧ ∀ D ∈ l, ¬ D.foot k := by
  intro k hk
  have h0 : OwnInts 0 w v zs := h.hd
  have hk2 : Hits v k := by
    show v.ownBlock = some k
    rw [← h0.blk]; exact hk
  exact ⟨fun h1 => h.apt.1 k hk2 (Or.inl h1), fun D hD hk3 => (h.2.1 D (List.mem_cons_of_mem _ hD)).1 k hk2 (D.sub k hk3)⟩
theorem six_of {w : World} {b c : Nat} {x y z x' y' z' : Value} (h : (w.cell? ⟨b, 0, none⟩ = some x ∧ w.cell? ⟨b, 1, none⟩ = some y ∧ w.cell? ⟨b, 2, none⟩ = some z ∧ w.frozen? ⟨b, 0, none⟩ = false ∧ w.frozen? ⟨b, 1, none⟩ = false ∧ w.frozen? ⟨b, 2, none⟩ = false) ∧ (w.cell? ⟨c, 0, none⟩ = some x' ∧ w.cell? ⟨c, 1, none⟩ = some y' ∧ w.cell? ⟨c, 2, none⟩ = some z' ∧ w.frozen? ⟨c, 0, none⟩ = false ∧ w.frozen? ⟨c, 1, none⟩ = false ∧ w.frozen? ⟨c, 2, none⟩ = false)) :
    w.cell? ⟨b, 0, none⟩ = some x ∧ w.cell? ⟨b, 1, none⟩ = some y ∧ w.cell? ⟨b, 2, none⟩ = some z ∧ w.cell? ⟨c, 0, none⟩ = some x' ∧ w.cell? ⟨c, 1, none⟩ = some y' ∧ w.cell? ⟨c, 2, none⟩ = some z' := ⟨h.1.1, h.1.2.1, h.1.2.2.1, h.2.1, h.2.2.1, h.2.2.2.1⟩
/-- what the loop over the kernel needs of the callee's row -/
theorem comp_parts {q l m r : Nat} {A C : List (List Int)} {K : List (List Int)} {t : Nat} (h : t < K.length) : (K.map (compRow q l m r A C)).take (t + 1) = (K.map (compRow q l m r A C)).take t ++ [compRow q l m r A C (K.getD t [])] := take_snocF h

set_option maxRecDepth 100000 in
set_option maxHeartbeats 4000000 in
theorem composed_any (q : Nat) [NeZero q] (l m r : Nat) (u v : Value) (A C : List (List Int)) (w : World) (hf : fldN q = true) (hq : q ≤ 97) (hu : MatC w u A) (hv : MatC w v C) (hA : RowsOk q (l + m) A) (hC : RowsOk q (m + r) C) (ha : A.length ≤ 24) (hc : C.length ≤ 24) (hlm : l + m ≤ 24) (hmr : m + r ≤ 24) (hlr : l + r ≤ 24) :
    Calls Tryd.prog 158 #[.int .i64 q, rlV l m u, rlV m r v] w fun e w' => ∃ o, e = .returned (rlV l r o) ∧ Pre w.heap.size w' o (compL q l m r A C) ∧ w.grownBy w' none := by
  have hp := lt_p hf
  have A1 := fun W (hg : w.grownBy W none) => eachSecond_any (rlV l m u) l m u A (fun x => x.drop l) W w hu hg (by omega) (fn_second w.heap.size l m u W A fun row hr => (hA row hr).1)
  have B1 := fun W (hg : w.grownBy W none) => eachFirst_any (rlV m r v) m r v C (fun x => x.take m) W w hv hg (by omega) (fn_first w.heap.size m r v W C fun row hr => (hC row hr).1)
  have A2 := fun W (hg : w.grownBy W none) => eachFirst_any (rlV l m u) l m u A (fun x => x.take l) W w hu hg (by omega) (fn_first w.heap.size l m u W A fun row hr => (hA row hr).1)
  have B2 := fun W (hg : w.grownBy W none) => eachSecond_any (rlV m r v) m r v C (fun x => x.drop m) W w hv hg (by omega) (fn_second w.heap.size m r v W C fun row hr => (hC row hr).1)
  have hmo := midRows_ok (r := r) hA hC
  have H4 := Lib.hid fun W o (h : MatV W o (midRows q l m A C)) => kernel_own q o (midRows q l m A C) m W hf (by omega) h hmo (by rw [midRows_len]; omega) (by omega)
  have hkr := (kernelL_red hf hmo).1
  have hkn := (kernelL_red hf hmo).len_le
  rw [midRows_len] at hkr hkn
  have hto := map_ok (f := fun a => a.take l) hA fun x hx => take_vok hx (by omega)
  have htd := map_ok (f := fun c => c.drop m) hC fun x hx => drop_vok hx
  have HC1 := Lib.hid fun (x : List Int) (xv fv : Value) (W : World) (hx : IntsV W xv x) (hfv : MatV W fv (A.map fun a => a.take l)) (hok : VecOk q A.length x) => (show Calls Tryd.prog 170 #[.int .i64 q, xv, fv, .int .i64 l] W fun e w' => ∃ o, e = .returned o ∧ OwnInts W.heap.size w' o (combTo q x (A.map fun a => a.take l) l A.length) ∧ W.grownBy w' none by
    have h := combine_any q xv fv x (A.map fun a => a.take l) l W hp (by omega) hx hfv (by rw [List.length_map]; exact hok.1) hok.2 hto (by simp; omega) (by omega)
    rw [List.length_map] at h
    exact h)
  have HC2 := Lib.hid fun (x : List Int) (xv fv : Value) (W : World) (hx : IntsV W xv x) (hfv : MatV W fv (C.map fun c => c.drop m)) (hok : VecOk q C.length x) => (show Calls Tryd.prog 170 #[.int .i64 q, xv, fv, .int .i64 r] W fun e w' => ∃ o, e = .returned o ∧ OwnInts W.heap.size w' o (combTo q x (C.map fun c => c.drop m) r C.length) ∧ W.grownBy w' none by
    have h := combine_any q xv fv x (C.map fun c => c.drop m) r W hp (by omega) hx hfv (by rw [List.length_map]; exact hok.1) hok.2 htd (by simp; omega) (by omega)
    rw [List.length_map] at h
    exact h)
  have HXL := Lib.hid (show ∀ x, (combTo q x (A.map fun a => a.take l) l A.length).length = l from fun x => by have := (combTo_ok (x := x) hp hto A.length (by simp)).1; exact this)
  have HZL := Lib.hid (show ∀ x, (combTo q x (C.map fun c => c.drop m) r C.length).length = r from fun x => by have := (combTo_ok (x := x) hp htd C.length (by simp)).1; exact this)
  have hpo := comp_rows_ok hp hA hC (kernelL q m (midRows q l m A C))
  have H5 := Lib.hid fun W o (h : MatV W o ((kernelL q m (midRows q l m A C)).map (compRow q l m r A C))) => relation_any q l r o _ W hf (by omega) h hpo (by rw [List.length_map]; omega) (by omega)
  have HKV := Lib.hid (show ∀ i, i < (kernelL q m (midRows q l m A C)).length → VecOk q (A.length + C.length) ((kernelL q m (midRows q l m A C)).getD i []) from fun i hi => hkr _ (getD_mem hi))
  have hyo := map_ok (f := fun c => c.take m) hC fun x hx => take_vok hx (by omega)
  have HYO := Lib.hid hyo
  rw [show reducedL q (l + r) ((kernelL q m (midRows q l m A C)).map (compRow q l m r A C)) = compL q l m r A C from rfl] at H5
  have HMR := Lib.hid (show midRows q l m A C = (A.map fun a => a.drop l) ++ (C.map fun c => c.take m).map (negV q) from rfl)
  have HCR := Lib.hid (show ∀ x, compRow q l m r A C x = combTo q (x.take A.length) (A.map fun a => a.take l) l A.length ++ combTo q (x.drop A.length) (C.map fun c => c.drop m) r C.length from fun x => rfl)
  have HYL := Lib.hid (show (C.map fun c => c.take m).length = C.length by simp)
  obtain ⟨ua, uc, rfl⟩ := hu.shape
  obtain ⟨va, vc, rfl⟩ := hv.shape
  have hkn2 : (kernelL q m (midRows q l m A C)).length ≤ 100 := by omega
  unfold rlV at *
  have A1 := Lib.hid A1; have B1 := Lib.hid B1; have A2 := Lib.hid A2; have B2 := Lib.hid B2
  generalize compL q l m r A C = PL at *
  generalize kernelL q m (midRows q l m A C) = K at *
  generalize hMid : midRows q l m A C = R at *
  generalize hAD : (A.map fun a => a.drop l) = AD at *
  generalize hCT : (C.map fun c => c.take m) = CT at *
  generalize hAT : (A.map fun a => a.take l) = AT at *
  generalize hCD : (C.map fun c => c.drop m) = CD at *
  generalize hal : A.length = la at *
  generalize hcl : C.length = lc at *
  generalize hCR : compRow q l m r A C = CR at *
  have HADL := Lib.hid (show AD.length = la by rw [← hAD, List.length_map, hal])
  have HATL := Lib.hid (show AT.length = la by rw [← hAT, List.length_map, hal])
  have HCDL := Lib.hid (show CD.length = lc by rw [← hCD, List.length_map, hcl])
  have HS := Lib.hid ((((Sep.start w).box #[.int .i64 l, .int .i64 m, .slice ua la uc] 65).box #[.int .i64 m, .int .i64 r, .slice va lc vc] 65).box #[.int .i64 0, .int .i64 0, .slice none 0 0] 65)
  have HG := Lib.hid (show w.grownBy _ none from HS.out.tl.tl.tl.hd)
  simp only [show ∀ (W : World) o, (W.alloc o).heap.size = W.heap.size + 1 from fun W o => by simp] at HS
  clear hu hv hA hC hf hmo hkr hkn hto htd hpo hyo hMid hAD hCT hAT hCD hal hcl hCR
  go_enter Tryd.func158, Tryd.ntmps158
  obtain ⟨y0, y1, y2, _, _, _⟩ := bx3 HS.out.s3.hd
  have hw0 : w.heap.size ≤ (((w.alloc (.cells #[.int .i64 l, .int .i64 m, .slice ua la uc] 65)).alloc (.cells #[.int .i64 m, .int .i64 r, .slice va lc vc] 65)).alloc (.cells #[.int .i64 0, .int .i64 0, .slice none 0 0] 65)).heap.size := HG.out.size
  have hbz : w.heap.size + 1 + 1 < (((w.alloc (.cells #[.int .i64 l, .int .i64 m, .slice ua la uc] 65)).alloc (.cells #[.int .i64 m, .int .i64 r, .slice va lc vc] 65)).alloc (.cells #[.int .i64 0, .int .i64 0, .slice none 0 0] 65)).heap.size := by simp
  go_wp2_with fail
  have hmf : ∀ (fn : Fn) (first cap : Array Value) (W : World), (Instr.makeFunc fn first cap).run Tryd.prog W = .ok (.func fn first cap) W := fun _ _ _ _ => rfl
  generalize (((w.alloc (.cells #[.int .i64 l, .int .i64 m, .slice ua la uc] 65)).alloc (.cells #[.int .i64 m, .int .i64 r, .slice va lc vc] 65)).alloc (.cells #[.int .i64 0, .int .i64 0, .slice none 0 0] 65)) = w0 at *
  have HBX := Lib.hid fun W (h : w0.grownBy W none) => And.intro (bx3 (HS.out.grown h).s3.hd) (bx3 (HS.out.grown h).s2.hd)
  go_wp2_with (first
    | (go_at_call 234
       go_loud (with_reducible refine (A1.out _ HG.out).mono ?_)
       rintro e w1 ⟨o1, us1, rfl, hs1, hr1⟩
       have HS1 := Lib.hid hs1
       have G01 := Lib.hid (show w0.grownBy w1 none from hs1.s2.hd)
       obtain ⟨_, p0, p1, p2, _, _, _⟩ := HBX.out _ (show w0.grownBy w1 none from hs1.s2.hd)
       clear hs1 hr1)
    | (go_at_call 234
       go_loud (with_reducible refine (B1.out _ (HG.out.trans G01.out)).mono ?_)
       rintro e w2 ⟨o2, us2, rfl, hs2, hr2⟩
       obtain ⟨ya, yc, hye, _, _⟩ := hs2.formS
       subst hye
       have HS2 := Lib.hid (HS1.out.addS (fun D hD k hk => by
         rcases List.mem_cons.1 hD with rfl | hD
         · exact Nat.le_trans hw0 (Nat.le_of_not_lt (HS1.out.apt.1 k hk))
         · rw [List.mem_singleton] at hD; subst hD; exact hk.elim) hs2 hr2)
       clear hs2 hr2))
  rw [HYL.out] at HS2 ⊢
  clear p0 p1 p2 y0 y1 y2
  go_loopw [7, 27] (fun out i wr => ∃ (t : Nat) (us : List Value), t ≤ lc ∧ i = .int .i64 t ∧ Sep wr [SH out us (AD ++ (CT.map (negV q)).take t), SH (.slice ya lc yc) us2 CT, KeepA w0]) (fun _ i _ => lc - (intOf i).toNat)
  case atStart => exact ⟨0, us1, by omega, rfl, by
    rw [List.take_zero, List.append_nil]
    exact HS2.out.s2⟩
  case round =>
    obtain ⟨t, us, htl, rfl, hs⟩ := hrel
    have HSX := Lib.hid hs
    clear hs
    by_cases hlt : t < lc
    · have htc : t < CT.length := by rw [HYL.out]; exact hlt
      obtain ⟨kb, kcap, kml, rr, rrc, he, hcell, hus, hrow⟩ := HSX.out.s2.rowS htc
      cases he
      have hyo := HYO.out _ (getD_mem htc)
      have HSN := Lib.hid (take_snocF (f := negV q) htc)
      have HPL := Lib.hid (show (AD ++ (CT.map (negV q)).take t).length = la + t by rw [List.length_append, HADL.out, List.length_take, List.length_map, HYL.out]; omega)
      have HRA := Lib.hid (show CT.getD t [] ≠ [] → ∀ k, Value.blk' (.slice rr (CT.getD t []).length rrc) = some k → RowsAt us2 CT k from fun hne k hk => ⟨t, htc, hne, by rw [hus]; exact hk⟩)
      have HNV := Lib.hid (show negV q (CT.getD t []) = addT q (List.replicate (CT.getD t []).length 0) (-1) (CT.getD t []) from rfl)
      have HNL := Lib.hid (show (negV q (CT.getD t [])).length = m from (negV_ok hyo).1)
      have HROW := Lib.hid hrow; have HYK := Lib.hid hyo
      rw [hyo.1] at hcell HROW HRA HNV
      clear hus hrow hyo
      generalize CT.getD t [] = y at *
      have HZ := Lib.hid (zeros_any m wr (by omega))
      go_wp2_with (first
        | (go_at_call 243
           go_loud (with_reducible refine HZ.out.mono ?_)
           rintro e w3 ⟨ne, rfl, hn, g3⟩
           obtain ⟨na, nc, rfl⟩ := own_shape hn
           simp only [List.length_replicate] at hn ⊢
           have HS3 := Lib.hid (HSX.out.newI g3 hn)
           have HG3 := Lib.hid g3
           clear hn g3)
        | (go_at_call 244
           go_loud (refine (addTimes_any q (-1) _ _ (List.replicate m 0) y 0 w3 HS3.out.hd (HROW.out.carry HG3.out) (fun hne k hk hk' => ?_) (by rw [List.length_replicate, HYK.out.1]) (by simp; omega) (by omega) (by omega) (by omega) (by omega) (fun z hz => by rw [List.eq_of_mem_replicate hz]; omega) (fun z hz => by have := HYK.out.2 z hz; omega)).mono ?_)
           · have hm0 : y ≠ [] := fun h => hne (by have := HYK.out.1; rw [h] at this; simp at this; rw [← this]; rfl)
             have h1 := HRA.out hm0 k hk'
             have h2 := HS3.out.s3
             exact (h2.apt.symm).1 k hk (Or.inr h1)
           rintro e w4 ⟨rfl, hn4, ho4⟩
           have hs4 := HS3.out.updI ho4 hn4
           have HAP := Lib.hid (oi_apart hs4)
           have HRN := Lib.hid (OwnInts.read (show OwnInts 0 w4 _ _ from hs4.hd))
           have HS4 := Lib.hid hs4
           clear hn4 ho4 hs4)
        | (at_builtin
           go_loud (refine app_sh rfl _ _ rfl rfl rfl (HS4.out.s2.drop2) HRN.out (fun hne k hk => HAP.out k hk) (by rw [HPL.out]; omega) ?_)
           intro g5 c5 w5 h5
           rw [HPL.out] at h5 ⊢
           have HS5 := Lib.hid h5
           clear h5))
      go_roundw
      case rel => exact ⟨t + 1, _, by omega, by go_num, by rw [HSN.out, HNV.out, ← List.append_assoc]; exact HS5.out⟩
      case measure => simp [intOf]; omega
    · have hall : (CT.map (negV q)).take t = CT.map (negV q) := List.take_of_length_le (by rw [List.length_map, HYL.out]; omega)
      have hrd := HSX.out.readS
      rw [hall, ← HMR.out] at hrd
      have hg03 : w0.grownBy wr none := HSX.out.s3.hd
      have HRD := Lib.hid hrd
      have G03 := Lib.hid hg03
      clear hall hrd hg03 HSX
      go_upto_region 9 with fail
      go_cut [11, 12] from 43 to 50 (fun fv sv wx => ∃ (fa sa : Option Addr) (fc sc : Nat), fv = .slice fa la fc ∧ sv = .slice sa lc sc ∧ MatV wx (.slice fa la fc) AT ∧ MatV wx (.slice sa lc sc) CD ∧ wr.grownBy wx none)
      case first =>
        have hgd : wr.grownBy wr.drew none := ⟨rfl, rfl, rfl, Nat.le_refl _, fun _ _ _ => rfl⟩
        have GD := Lib.hid hgd
        have G3 := Lib.hid (G03.out.trans hgd)
        clear hgd
        have X3 := Lib.hid (six_of (HBX.out _ G3.out))
        go_region_held3 (fun w' => w'.cell? ⟨w.heap.size, 0, none⟩ = some (.int .i64 l) ∧ w'.cell? ⟨w.heap.size, 1, none⟩ = some (.int .i64 m) ∧ w'.cell? ⟨w.heap.size, 2, none⟩ = some (.slice ua la uc) ∧ w'.cell? ⟨w.heap.size + 1, 0, none⟩ = some (.int .i64 m) ∧ w'.cell? ⟨w.heap.size + 1, 1, none⟩ = some (.int .i64 r) ∧ w'.cell? ⟨w.heap.size + 1, 2, none⟩ = some (.slice va lc vc))
          (first | with_reducible exact X3.out | with_reducible exact X4.out | with_reducible exact X5.out | with_reducible exact X6.out | with_reducible exact X7.out)
          (first
          | (go_at_call 234
             go_loud (with_reducible refine (A2.out wr.drew (HG.out.trans G3.out)).mono ?_)
             rintro e w4 ⟨o4, us4, rfl, hs4, _⟩
             obtain ⟨a4, c4, hoe, _, _⟩ := hs4.formS
             subst hoe
             rw [HATL.out] at hs4 ⊢
             have M4 := Lib.hid hs4.readS
             have E4 := Lib.hid (show World.grownBy wr.drew w4 none from hs4.s2.hd)
             have G4 := Lib.hid (G3.out.trans (show World.grownBy wr.drew w4 none from hs4.s2.hd))
             have X4 := Lib.hid (six_of (HBX.out _ (G3.out.trans (show World.grownBy wr.drew w4 none from hs4.s2.hd))))
             clear hs4)
          | (go_at_call 234
             go_loud (with_reducible refine (B2.out wr.drew (HG.out.trans G3.out)).mono ?_)
             rintro e w5 ⟨o5, us5, rfl, hs5, _⟩
             obtain ⟨a5, c5, hoe, _, _⟩ := hs5.formS
             subst hoe
             rw [HCDL.out] at hs5 ⊢
             have M5 := Lib.hid hs5.readS
             have E5 := Lib.hid (show World.grownBy wr.drew w5 none from hs5.s2.hd)
             have G5 := Lib.hid (G3.out.trans (show World.grownBy wr.drew w5 none from hs5.s2.hd))
             have X5 := Lib.hid (six_of (HBX.out _ (G3.out.trans (show World.grownBy wr.drew w5 none from hs5.s2.hd))))
             clear hs5)
          | (go_at_call 234
             go_loud (with_reducible refine (A2.out w5 (HG.out.trans G5.out)).mono ?_)
             rintro e w6 ⟨o6, us6, rfl, hs6, _⟩
             obtain ⟨a6, c6, hoe, _, _⟩ := hs6.formS
             subst hoe
             rw [HATL.out] at hs6 ⊢
             have M6 := Lib.hid hs6.readS
             have E6 := Lib.hid (show World.grownBy w5 w6 none from hs6.s2.hd)
             have G6 := Lib.hid (G5.out.trans (show World.grownBy w5 w6 none from hs6.s2.hd))
             have X6 := Lib.hid (six_of (HBX.out _ (G5.out.trans (show World.grownBy w5 w6 none from hs6.s2.hd))))
             clear hs6)
          | (go_at_call 234
             go_loud (with_reducible refine (B2.out w4 (HG.out.trans G4.out)).mono ?_)
             rintro e w7 ⟨o7, us7, rfl, hs7, _⟩
             obtain ⟨a7, c7, hoe, _, _⟩ := hs7.formS
             subst hoe
             rw [HCDL.out] at hs7 ⊢
             have M7 := Lib.hid hs7.readS
             have E7 := Lib.hid (show World.grownBy w4 w7 none from hs7.s2.hd)
             have G7 := Lib.hid (G4.out.trans (show World.grownBy w4 w7 none from hs7.s2.hd))
             have X7 := Lib.hid (six_of (HBX.out _ (G4.out.trans (show World.grownBy w4 w7 none from hs7.s2.hd))))
             clear hs7))
        all_goals
          go_wp2_with fail
          go_meet
          first
            | exact ⟨a4, a7, c4, c7, rfl, rfl, M4.out.carry E7.out, M7.out, GD.out.trans (E4.out.trans E7.out)⟩
            | exact ⟨a6, a5, c6, c5, rfl, rfl, M6.out, M5.out.carry E6.out, GD.out.trans (E5.out.trans E6.out)⟩
      case rest =>
        obtain ⟨fa, sa, fc, sc, rfl, rfl, hfv, hsv, hgc⟩ := hcut
        have HFV := Lib.hid hfv; have HSV := Lib.hid hsv
        have HRD2 := Lib.hid (HRD.out.carry hgc)
        have G04 := Lib.hid (G03.out.trans hgc)
        clear hfv hsv hgc HRD
        have HSE := Lib.hid (Sep.start wc).emptyM
        obtain ⟨⟨p0, p1, p2, _⟩, q0, q1, q2, _⟩ := HBX.out _ (G04.out.trans (grownBy_alloc wc (.cells #[] 24) none))
        have HRD3 := Lib.hid (HRD2.out.carry (grownBy_alloc wc (.cells #[] 24) none))
        go_wp2_with fail
        generalize hg6 : wc.heap.size = g6 at *
        generalize hw6 : wc.alloc (.cells #[] 24) = w6 at *
        have G06 := Lib.hid (show w0.grownBy w6 none by rw [← hw6]; exact G04.out.trans (grownBy_alloc wc (.cells #[] 24) none))
        have hc6 : wc.grownBy w6 none := by rw [← hw6]; exact grownBy_alloc wc (.cells #[] 24) none
        have hlt6 : g6 < w6.heap.size := by rw [← hw6, ← hg6]; simp
        clear hg6 hw6 hc6
        go_wp2_with (
          go_at_call 127
          go_loud (refine (H4.out _ _ HRD3.out).mono ?_)
          rintro e w7 ⟨ka, kc, rfl, hp7, g7⟩
          have HP := Lib.hid hp7
          have HS7 := Lib.hid (HSE.out.grown g7)
          have G07 := Lib.hid (G06.out.trans g7)
          clear hp7 g7)
        clear p0 p1 p2 q0 q1 q2
        generalize hKl : K.length = lk at *
        have HKL := Lib.hid hKl
        clear hKl
        have HST := Lib.hid HS7.out.freshM
        go_loopw [13, 58] (fun out i wr => ∃ (t : Nat) (vs : List Value), t ≤ lk ∧ i = .int .i64 t ∧ Sep wr [OM out vs ((K.map CR).take t), KeepX w7 g6]) (fun _ i _ => lk - (intOf i).toNat)
        case atStart => exact ⟨0, [], by omega, rfl, HST.out⟩
        case round =>
          obtain ⟨t, vs, htk, rfl, hs⟩ := hrel
          have HSX := Lib.hid hs
          have hg := hs.s2.hd
          have HBF := Lib.hid fun W (h : w7.grownBy W (some g6)) => (show wc.grownBy W none from (HS7.out.pastM h).hd)
          clear hs
          by_cases hlt : t < lk
          · obtain ⟨kb, kcap, kml, rr, rcp, he, hcell, hrow, hcp, hr0, hblk⟩ := HP.out.rowX hg hlt6 (show t < K.length by rw [HKL.out]; exact hlt)
            cases he
            have hkv := HKV.out t hlt
            have hkk : t < K.length := by rw [HKL.out]; exact hlt
            have HSN := Lib.hid (take_snocF (f := CR) hkk)
            have HPL := Lib.hid (show ((K.map CR).take t).length = t by rw [List.length_take, List.length_map, HKL.out]; omega)
            have hgd : wr.grownBy wr.drew none := ⟨rfl, rfl, rfl, Nat.le_refl _, fun _ _ _ => rfl⟩
            have hrv : IntsV wr.drew (.slice rr (la + lc) rcp) (K.getD t []) := by
              have h1 := (hrow.only (Only.of_some hg) fun k hk hk' => by
                have := hblk k hk
                omega).carry hgd
              rwa [hkv.1] at h1
            rw [hkv.1] at hcell hcp
            have hx0 := HBF.out _ (some_none hg hgd)
            have HC := Lib.hid (HC1.out ((K.getD t []).take la) (.slice rr la rcp) _ wr.drew (hrv.take (by rw [hkv.1]; omega) rcp) (HFV.out.carry hx0) (take_vok hkv (by omega)))
            have htl : ∀ W, wr.drew.grownBy W none → ∀ (a' : Option Addr) (c' : Nat), (la < rcp → a' = rr.map fun x => x.add la) → IntsV W (.slice a' lc c') ((K.getD t []).drop la) := fun W h a' c' ha' => by
              have h1 := (hrv.carry h).tail (by omega) hcp ha' c'
              rwa [show la + lc - la = lc by omega] at h1
            have HZ2 := Lib.hid fun W (h : wr.drew.grownBy W none) (a' : Option Addr) (c' : Nat) (ha' : la < rcp → a' = rr.map fun x => x.add la) => HC2.out ((K.getD t []).drop la) (.slice a' lc c') _ W (htl W h a' c' ha') (HSV.out.carry (hx0.trans h)) (drop_vok hkv)
            clear htl
            have HCRE := Lib.hid (HCR.out (K.getD t []))
            have HSD := Lib.hid (HSX.out.grown hgd)
            have hl1 : ((la : Nat) : Int) ≤ ((rcp : Nat) : Int) := by omega
            have hl2 : la ≤ rcp := by omega
            have hl3 : (0 : Int) ≤ ((la : Nat) : Int) := by omega
            have hl5 : ((la : Nat) : Int) ≤ ((la : Nat) : Int) + ((lc : Nat) : Int) := by omega
            have HXF := Lib.hid fun W (h : w7.grownBy W (some g6)) => HBX.out W (G04.out.trans (HBF.out W h))
            obtain ⟨⟨d0, d1, d2, _⟩, e0, e1, e2, _⟩ := HXF.out _ (some_none hg hgd)
            have HGX := Lib.hid (some_none hg hgd)
            obtain ⟨oa0, oc0, hoe, _, _⟩ := own_form HSD.out.hd
            subst hoe
            have hsd := HSD.out
            rw [HPL.out] at hsd ⊢
            have HSD := Lib.hid hsd
            clear hsd hrow hblk hrv hkk hx0 hg
            generalize K.getD t [] = ck at *
            have HXR := Lib.hid (HXL.out (ck.take la)); have HZR := Lib.hid (HZL.out (ck.drop la))
            generalize combTo q (ck.take la) AT l la = xr at *
            generalize combTo q (ck.drop la) CD r lc = zr at *
            rcases Nat.eq_or_lt_of_le hl2 with hcase | hcase
            all_goals
              first
                | (subst hcase
                   have h0 : lc = 0 := by omega
                   subst h0)
                | (have hne : ¬ rcp = la := by omega)
              go_wp2_with fail
              go_region_law (first
                  | (try go_simp
                     go_at_call 170
                     go_loud (with_reducible refine HC.out.mono ?_)
                     rintro e w9 ⟨xo, rfl, ho, g9⟩
                     obtain ⟨xa, xc, rfl⟩ := own_shape ho
                     rw [HXR.out] at ho ⊢
                     have HS9 := Lib.hid (HSD.out.newI g9 ho)
                     have HX9 := Lib.hid (some_none HGX.out g9)
                     have HD9 := Lib.hid g9
                     obtain ⟨⟨f0, f1, f2, _⟩, i0, i1, i2, _⟩ := HXF.out _ (some_none HGX.out g9)
                     clear ho g9))
              all_goals
                have hgd9 : w9.grownBy w9.drew none := ⟨rfl, rfl, rfl, Nat.le_refl _, fun _ _ _ => rfl⟩
                obtain ⟨⟨j0, j1, j2, _⟩, j3, j4, j5, _⟩ := HXF.out _ (some_none HX9.out hgd9)
                have HZ3 := Lib.hid (HZ2.out w9.drew (HD9.out.trans hgd9))
                have HS9 := Lib.hid (HS9.out.grown hgd9)
                clear hgd9
                go_wp2_with fail
                go_region_law (first
                  | (try go_simp
                     go_at_call 170
                     go_loud (refine (HZ3.out _ _ ?_).mono ?_)
                     · first | exact fun _ => rfl | exact fun h => absurd h (by omega)
                     rintro e w10 ⟨zo, rfl, ho, g10⟩
                     obtain ⟨za, zc, rfl⟩ := own_shape ho
                     rw [HZR.out] at ho ⊢
                     have HS10 := Lib.hid (HS9.out.newI g10 ho)
                     clear ho g10))
                all_goals
                  go_wp2_with (first
                    | (go_at_call 208
                       go_loud (refine (joined_any _ [xr, zr] _ (pair_mat (OwnInts.read (show OwnInts 0 w10 _ _ from HS10.out.s2.hd)) (OwnInts.read (show OwnInts 0 w10 _ _ from HS10.out.hd))) (by simp) (by have h1 := HXR.out; have h2 := HZR.out; simp; omega)).mono ?_)
                       rintro e w11 ⟨jo, rfl, hj, g11⟩
                       obtain ⟨ja, jc, rfl⟩ := own_shape hj
                       have HS11 := Lib.hid (((HS10.out.al _).newI g11 hj).drop2.drop2)
                       generalize [xr, zr].flatten.length = jl at *
                       clear hj g11)
                    | (at_builtin
                       go_loud (refine app_rowS rfl _ _ rfl rfl rfl HS11.out (by rw [HPL.out]; omega) ?_)
                       intro g12 c12 w12 h12
                       rw [HPL.out] at h12 ⊢
                       have HS12 := Lib.hid h12
                       clear h12))
                  go_roundw
                  case rel =>
                    first
                      | exact ⟨t + 1, _, by omega, by go_num, by rw [HSN.out, HCRE.out]; have h := HS12.out; simpa using h⟩
                      | ((repeat apply Exists.intro); exact ⟨⟨t + 1, _, by omega, by go_num, by rw [HSN.out, HCRE.out]; have h := HS12.out; simpa using h⟩, rfl⟩)
                  case measure => simp [intOf]; omega
          · have hall : (K.map CR).take t = K.map CR := List.take_of_length_le (by rw [List.length_map, HKL.out]; omega)
            have hrd : MatV wr u13 (K.map CR) := by
              have := HSX.out.hd.read
              rwa [hall] at this
            obtain ⟨xa, xc, rfl⟩ := hrd.shape
            have HRD5 := Lib.hid hrd
            have hgr := G04.out.trans (HBF.out _ hg)
            have HGR := Lib.hid hgr
            obtain ⟨⟨j0, j1, j2, _⟩, j3, j4, j5, _⟩ := HBX.out _ hgr
            clear hall hrd hgr hg
            generalize (K.map CR).length = pl at *
            go_wp2_with (
              go_at_call 270
              go_loud (refine (H5.out _ _ HRD5.out).mono ?_)
              rintro e w9 ⟨o4, rfl, hp9, g9⟩
              obtain ⟨ra, rc, rfl⟩ := hp9.shape
              obtain ⟨t0, t1, t2, t3, t4, t5⟩ := bx3 (HS.out.grown (HGR.out.trans g9)).hd
              have HPP := Lib.hid hp9
              have G9 := Lib.hid (HG.out.trans (HGR.out.trans g9))
              have hszr := Nat.lt_of_lt_of_le hbz HGR.out.size
              clear hp9 g9)
            have HMM := Lib.hid (HPP.out.only (three_set (w := w9) (w.heap.size + 1 + 1) (.int .i64 l) (.int .i64 r) (.slice ra PL.length rc)) (fun k' hk' => by have : k' = w.heap.size + 1 + 1 := hk'; omega))
            have HE := Lib.hid (box3_end G9.out (show w.heap.size ≤ w.heap.size + 1 + 1 by omega) (.int .i64 l) (.int .i64 r) (.slice ra PL.length rc))
            generalize PL.length = rl at *
            refine bodyPost_ret_by (v := .agg #[.int .i64 l, .int .i64 r, .slice ra rl rc]) ?_ rfl ⟨_, rfl, HMM.out.base (by omega), HE.out⟩
            simp [results, go_sem, *]
end Go.Proofs.YtpeaeminjbjlnaaDoor

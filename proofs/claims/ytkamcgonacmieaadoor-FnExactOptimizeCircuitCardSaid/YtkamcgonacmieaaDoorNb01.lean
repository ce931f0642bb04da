/-
  The classes of gates, in the program. Conditions: between 1 and 1000 gates, operands are gates.
-/
import Derived.Test.YtkamcgonacmieaaDoorNb00
import Derived.Test.YtkamcgonacmieaaDoorNa05
import Derived.Test.YtkamcgonacmieaaDoorNa04
namespace Go.Proofs.YtkamcgonacmieaaDoor
open Go.RowKit Go.Maps
set_option linter.unusedVariables false
set_option maxRecDepth 100000

theorem getD_rng {cl : List Int} {m : Nat} (h : ∀ x ∈ cl, 0 ≤ x ∧ x < 1000) (i : Nat) : 0 ≤ cl.getD i 0 ∧ cl.getD i 0 < 1000 := by
  rcases Nat.lt_or_ge i cl.length with h' | h'
  · exact h _ (getD_mem' h')
  · rw [List.getD_eq_getElem?_getD, List.getElem?_eq_none h']
    simp
theorem sg_ok {gs : List Gt} {cl : List Int} (hok : ∀ g ∈ gs, (Lit.int .i64 g.k).wf = true ∧ (Lit.int .i64 g.v).wf = true) (hcl : ∀ x ∈ cl, 0 ≤ x ∧ x < 1000) (k : Nat) : SgOk (sgL gs cl k) := by
  obtain ⟨h1, h2⟩ : (Lit.int .i64 (gs.getD k g0).k).wf = true ∧ (Lit.int .i64 (gs.getD k g0).v).wf = true := by
    rcases Nat.lt_or_ge k gs.length with h | h
    · exact hok _ (getD_mem3 g0 h)
    · rw [List.getD_eq_getElem?_getD, List.getElem?_eq_none h]
      exact ⟨WalkArith.wf_i64 (by simp [g0]), WalkArith.wf_i64 (by simp [g0])⟩
  refine ⟨rfl, ?_⟩
  intro x hx
  unfold sgL at hx
  simp only [List.mem_cons, List.not_mem_nil, or_false] at hx
  have r1 := getD_rng (m := 0) hcl k
  have r2 := getD_rng (m := 0) hcl (gs.getD k g0).a.toNat
  have r3 := getD_rng (m := 0) hcl (gs.getD k g0).b.toNat
  unfold atL at hx
  rcases hx with rfl | rfl | rfl | rfl | rfl
  · exact WalkArith.wf_i64 (by omega)
  · exact h1
  · exact h2
  · refine WalkArith.wf_i64 ?_
    split
    · omega
    · split <;> omega
  · refine WalkArith.wf_i64 ?_
    split <;> omega
theorem Sep.sgSame {w : World} {b i : Nat} {f : Nat → List Int} {l : List Asrt} (h : Sep w (SgA b f i :: l)) (hf : loN f i < i) : Sep w (SgA b f (i + 1) :: l) := h.sgUpd (h.hd.same hf) (grownBy_refl _ _)
theorem num_take {gs : List Gt} {cl : List Int} {m k : Nat} (hm : gs.length = m) (hk : k < m) : ((numC gs cl).take k ++ List.replicate (m - k) (0 : Int)).set k ((numN (sgL gs cl) k : Nat) : Int) = (numC gs cl).take (k + 1) ++ List.replicate (m - (k + 1)) 0 := by
  have hl : (numC gs cl).length = m := by rw [num_len, hm]
  have h1 : ((numC gs cl).take k).length = k := by rw [List.length_take]; omega
  have h2 : m - k = (m - (k + 1)) + 1 := by omega
  have h3 := num_at gs cl (i := k) (by omega)
  rw [List.getD_eq_getElem?_getD, List.getElem?_eq_getElem (by omega)] at h3
  simp only [Option.getD_some] at h3
  rw [List.take_succ_eq_append_getElem (by omega), h3, h2, List.replicate_succ, List.set_append_right _ _ (by omega), h1, Nat.sub_self, List.set_cons_zero]
  simp
theorem num_rng (gs : List Gt) (cl : List Int) (hl : gs.length ≤ 1000) : ∀ x ∈ numC gs cl, 0 ≤ x ∧ x < 1000 := by
  intro x hx
  unfold numC at hx
  obtain ⟨i, hi, rfl⟩ := List.mem_map.1 hx
  rw [List.mem_range] at hi
  have h1 := num_lt (f := sgL gs cl) hi
  have h2 := cnt_le (sgL gs cl) gs.length
  omega

set_option maxHeartbeats 8000000 in
theorem alike_any (n : Int) (gv ov : Value) (gs : List Gt) (m2 : Nat) (w : World) (hg : RdR gateE w gv gs) (hoS : ∃ a c, ov = .slice a m2 c) (hgs : Gates gs) (h1 : 1 ≤ gs.length) (hl : gs.length ≤ 1000) (hok : ∀ g ∈ gs, (Lit.int .i64 g.k).wf = true ∧ (Lit.int .i64 g.v).wf = true) :
    Calls Tryd.prog 136 #[cirV n gv ov] w fun e w' => ∃ a c cl s, e = .returned (.slice a gs.length c) ∧ cl.length = gs.length ∧ KerEq gs.length cl (clsN gs s) ∧ clsN gs (s + 1) = clsN gs s ∧ Sep w' [OI (.slice a gs.length c) cl, KeepA w] := by
  have hmm := @run_makeMap Tryd.prog
  obtain ⟨oa, oc, rfl⟩ := hoS
  obtain ⟨ga, gc, rfl⟩ := hg.shape
  have HOK := Lib.hid hok
  have HGS := Lib.hid hgs
  have HSG := Lib.hid fun W (h : w.grownBy W none) cv cl k (hc : IntsV W cv cl) (hk : k < gs.length) (hcl : cl.length = gs.length) => signatureOf_any n (.slice ga gs.length gc) (.slice oa m2 oc) cv gs m2 cl k W (hg.carry h) ⟨oa, oc, rfl⟩ hc hk hcl hl hgs.ops
  unfold cirV at *
  have HZC := Lib.hid (cntC_zero h1)
  have HZR := Lib.hid (show clsN gs 0 = List.replicate gs.length 0 from rfl)
  have HNX := Lib.hid fun cl s (h : KerEq gs.length cl (clsN gs s)) => num_next hgs h
  have HNL := Lib.hid fun cl => num_len gs cl
  have HCL := Lib.hid fun cl => cntC_le gs cl
  have HSO := Lib.hid fun cl (hcl : ∀ x ∈ cl, 0 ≤ x ∧ x < 1000) k => sg_ok hok hcl k
  have HCN := Lib.hid fun (f : Nat → List Int) => cnt_le f gs.length
  have HFX := Lib.hid fun s => @cls_fix gs s
  have HCS := Lib.hid fun s => @cnt_up_step gs s
  have HCST := Lib.hid fun s => (show cntC gs (clsN gs (s + 1)) = cntN (sgL gs (clsN gs s)) gs.length from cnt_step gs (clsN gs s))
  have HNR := Lib.hid fun cl => num_rng gs cl hl
  have HNS := Lib.hid fun cl k (hk : k < gs.length) => @num_take gs cl gs.length k rfl hk
  clear hg hgs hok h1
  generalize gs.length = m at *
  have hs0 := (Sep.start w).box #[.int .i64 n, .slice ga m gc, .slice oa m2 oc] 29
  have HS0 := Lib.hid hs0
  obtain ⟨x0, x1, x2, -⟩ := bx3 hs0.hd
  clear hs0
  go_enter Tryd.func136, Tryd.ntmps136
  go_wp2_with (
    go_at_call 200
    refine (zeros_full m _ (by omega)).mono ?_
    rintro e w2 ⟨g, c, rfl, hz⟩
    have HS1 := Lib.hid (HS0.out.graft1 hz OI_own)
    clear hz)
  go_loopw [3, 4] (fun cv ct wr => ∃ (s : Nat) (cl : List Int) (a : Option Addr) (c : Nat), cv = .slice a m c ∧ ct = .int .i64 (cntC gs (clsN gs s)) ∧ cl.length = m ∧ KerEq m cl (clsN gs s) ∧ (∀ x ∈ cl, 0 ≤ x ∧ x < 1000) ∧ Sep wr [OI (.slice a m c) cl, BxA w.heap.size #[.int .i64 n, .slice ga m gc, .slice oa m2 oc] 29, KeepA w]) (fun _ ct _ => m - (intOf ct).toNat)
  case atStart => exact ⟨0, List.replicate m 0, _, _, rfl, by rw [HZC.out]; rfl, List.length_replicate, by rw [HZR.out]; exact fun i j _ _ => Iff.rfl, fun x hx => by rw [List.eq_of_mem_replicate hx]; simp, HS1.out⟩
  case round =>
    obtain ⟨s, cl, a, c, rfl, rfl, hcl, hke, hcr, hs⟩ := hrel
    have HS := Lib.hid hs; have HKE := Lib.hid hke; have HCR := Lib.hid hcr; have HLC := Lib.hid hcl
    have hs2 := hs.sgNew (sgL gs cl)
    have HS2 := Lib.hid hs2
    clear hs hke hcr hcl hs2
    generalize hct : cntC gs (clsN gs s) = ct at *
    have HCT := Lib.hid hct
    clear hct
    go_wp2_with (
      go_at_call 200
      refine (zeros_full m _ (by omega)).mono ?_
      rintro e w3 ⟨g, c3, rfl, hz⟩
      have HS3 := Lib.hid (HS2.out.graft1 hz OI_own)
      clear hz)
    generalize wr.heap.size = mb at *
    go_loopw [21] (fun i wq => ∃ k : Nat, k ≤ m ∧ i = .int .i64 k ∧ Sep wq [OI (.slice (some ⟨g, 0, none⟩) m c3) ((numC gs cl).take k ++ List.replicate (m - k) 0), SgA mb (sgL gs cl) k, OI (.slice a m c) cl, BxA w.heap.size #[.int .i64 n, .slice ga m gc, .slice oa m2 oc] 29, KeepA w]) (fun i _ => m - (intOf i).toNat)
    case atStart => exact ⟨0, by omega, rfl, by simpa using HS3.out⟩
    case round =>
      obtain ⟨k, hk, rfl, hs⟩ := hrel
      have HSX := Lib.hid hs
      obtain ⟨z0, z1, z2, -⟩ := bx3 hs.tl.tl.tl.hd
      by_cases hlt : k < m
      · have hci : IntsV wr (.slice a m c) cl := (hs.tl.tl.hd).read
        have hkp : w.grownBy wr none := hs.tl.tl.tl.tl.hd
        have HCALL := Lib.hid (HSG.out wr hkp (.slice a m c) cl k hci hlt HLC.out)
        have HOKA := Lib.hid (HSO.out cl HCR.out)
        have HSET := Lib.hid (HNS.out cl k hlt)
        have HLL := Lib.hid (show m = ((numC gs cl).take k ++ List.replicate (m - k) (0 : Int)).length by rw [List.length_append, List.length_take, List.length_replicate, HNL.out cl]; omega)
        obtain ⟨f, hf⟩ : ∃ f, f = sgL gs cl := ⟨_, rfl⟩
        rw [← hf] at HSX HOKA HSET HCALL hs
        have HOKS := Lib.hid (HOKA.out k)
        have HF := Lib.hid hf
        obtain ⟨q0, q1, q2, q3, q4, hq⟩ : ∃ q0 q1 q2 q3 q4, f k = [q0, q1, q2, q3, q4] := by rw [hf]; exact ⟨_, _, _, _, _, rfl⟩
        have HQ := Lib.hid (show (Value.agg #[.int .i64 q0, .int .i64 q1, .int .i64 q2, .int .i64 q3, .int .i64 q4] : Value) = sgV (f k) by rw [hq]; rfl)
        have hcl1 := cnt_le f k
        have hcalln := HCALL.out
        rw [← HQ.out] at hcalln
        have HC2 := Lib.hid hcalln
        clear hcalln hs hq hci hkp hf
        by_cases hlo : loN f k < k
        · have HDT := Lib.hid (show decide (loN f k < k) = true from decide_eq_true hlo)
          have HLO := Lib.hid hlo
          clear hlo
          go_wp2_with (first
            | (go_at_call 205
               refine HC2.out.mono ?_
               rintro e w4 ⟨rfl, hg4⟩
               have HS4 := Lib.hid ((HSX.out.grown hg4).al (.cells #[.int .i64 q0, .int .i64 q1, .int .i64 q2, .int .i64 q3, .int .i64 q4] 204))
               clear hg4)
            | (at_lookup
               refine wpList_sgLook (f := f) (i := k) rfl _ _ rfl rfl HQ.out HOKS.out HS4.out.tl.hd 0 true HDT.out ?_
               intro cc hcc
               have hce := hcc rfl
               subst hce
               have hlk := HS4.out.hd.cell HLL.out (j := k) (by rw [← HLL.out]; exact hlt)
               have hlf := HS4.out.hd.free HLL.out k
               have h1 := HS4.out.setI HLL.out k (numN f k)
               rw [HSET.out] at h1
               have HS5 := Lib.hid (h1.s2.sgSame HLO.out).s2
               generalize ((numC gs cl).take k ++ List.replicate (m - k) (0 : Int))[k]'(by rw [← HLL.out]; exact hlt) = old at hlk
               clear h1 hcc))
          go_roundw
          case rel => exact ⟨k + 1, by omega, by go_num, by
            rw [← HF.out]
            exact HS5.out⟩
          case measure => simp [intOf]; omega
        · have hlk' : loN f k = k := by have := (lo_spec f k).1; omega
          have hnum : numN f k = cntN f k := by unfold numN; rw [hlk']
          have HDT := Lib.hid (show decide (loN f k < k) = false from decide_eq_false hlo)
          have HLO := Lib.hid hlo
          rw [hnum] at HSET
          have hcn := Lib.hid hcl1
          clear hlo hlk' hnum hcl1
          obtain ⟨cn, hcnn⟩ : ∃ cn, cn = cntN f k := ⟨_, rfl⟩
          have HCN2 := Lib.hid hcnn
          clear hcnn
          go_wp2_with (first
            | (go_at_call 205
               refine HC2.out.mono ?_
               rintro e w4 ⟨rfl, hg4⟩
               have HS4 := Lib.hid ((HSX.out.grown hg4).al (.cells #[.int .i64 q0, .int .i64 q1, .int .i64 q2, .int .i64 q3, .int .i64 q4] 204))
               clear hg4)
            | (at_lookup
               refine wpList_sgLook (f := f) (i := k) rfl _ _ rfl rfl HQ.out HOKS.out HS4.out.tl.hd 0 false HDT.out ?_
               intro cc hcc
               clear hcc)
            | (at_len
               refine wpList_sgLen rfl _ rfl rfl HS4.out.tl.hd ?_
               rw [← HCN2.out])
            | (at_mapUpdate
               refine wpList_sgPut rfl _ _ _ rfl rfl HQ.out (by rw [← HCN2.out]; rfl) HOKS.out HOKA.out HS4.out.tl.hd (by omega) HLO.out ?_
               intro w5 hm5 hg5
               have hs5 := (HS4.out.s2.sgUpd hm5 hg5).s2
               have hlk := hs5.hd.cell HLL.out (j := k) (by rw [← HLL.out]; exact hlt)
               have hlf := hs5.hd.free HLL.out k
               have h1 := hs5.setI HLL.out k (cntN f k)
               rw [HSET.out, ← HCN2.out] at h1
               have HS5 := Lib.hid h1
               generalize ((numC gs cl).take k ++ List.replicate (m - k) (0 : Int))[k]'(by rw [← HLL.out]; exact hlt) = old at hlk
               clear h1 hs5 hm5 hg5))
          go_roundw
          case rel => exact ⟨k + 1, by omega, by go_num, by
            rw [← HF.out]
            exact HS5.out⟩
          case measure => simp [intOf]; omega
      · have hkm : k = m := by omega
        subst hkm
        obtain ⟨hk1, hc1⟩ := HNX.out cl s HKE.out
        have hs1 := HSX.out
        rw [Nat.sub_self, List.replicate_zero, List.append_nil, List.take_of_length_le (by rw [HNL.out cl]; exact Nat.le_refl _)] at hs1
        have HS1 := Lib.hid hs1
        have HNK := Lib.hid hk1
        obtain ⟨c2, hc2⟩ : ∃ c2, c2 = cntC gs (clsN gs (s + 1)) := ⟨_, rfl⟩
        rw [← hc2] at hc1
        have HC1 := Lib.hid hc1; have HC2 := Lib.hid hc2
        clear hs1 hc1 hc2 hk1 HSX hs
        by_cases hcc : c2 = ct
        · have hfx : clsN gs (s + 1) = clsN gs s := HFX.out s (by
            have h := HC2.out
            rw [hcc, ← HCT.out] at h
            rw [h]
            exact (HCST.out s).symm)
          have HFXX := Lib.hid hfx
          have hbq : ((c2 : Int) == (ct : Int)) = true := by rw [beq_iff_eq]; omega
          clear hcc hfx
          go_wp2_with (at_len; refine wpList_sgLen rfl _ rfl rfl HS1.out.tl.hd ?_; rw [HC1.out])
          go_ret
          exact ⟨_, _, numC gs cl, s, rfl, HNL.out cl, by rw [← HFXX.out]; exact HNK.out, HFXX.out, HS1.out.under (fun h => h.tl.tl.tl) (by simp +contextual)⟩
        · have hne : clsN gs (s + 1) ≠ clsN gs s := fun h => hcc (by rw [HC2.out, h, HCT.out])
          have HUP := Lib.hid (HCS.out s hne)
          have hbq : ((c2 : Int) == (ct : Int)) = false := by rw [beq_eq_false_iff_ne]; omega
          clear hcc hne
          go_wp2_with (at_len; refine wpList_sgLen rfl _ rfl rfl HS1.out.tl.hd ?_; rw [HC1.out])
          go_roundw
          case rel => exact ⟨s + 1, numC gs cl, _, _, rfl, by rw [← HC2.out], HNL.out cl, HNK.out, HNR.out cl, HS1.out.under (fun h => h.tl.tl) (by simp +contextual)⟩
          case measure =>
            have h1 := HUP.out
            have h2 := HCL.out (clsN gs (s + 1))
            have h3 := HC2.out
            have h4 := HCT.out
            simp [intOf]
            omega
end Go.Proofs.YtkamcgonacmieaaDoor

/-
  slices.Index on integers, the first of a gate's class, sharing. Conditions: at most 1000 gates.
-/
namespace Go.Proofs.YtkamcgonacmieaaDoor
open Go.RowKit
set_option linter.unusedVariables false
set_option maxRecDepth 100000

theorem index_any (v : Value) (zs : List Int) (x : Int) (m : Nat) (w : World) (hv : IntsV w v zs) (hl : zs.length ≤ 1000000) (hm : m < zs.length) (he : zs.getD m 0 = x) (hn : ∀ j, j < m → zs.getD j 0 ≠ x) :
    Calls Tryd.prog 138 #[v, .int .i64 x] w fun e w' => e = .returned (.int .i64 m) ∧ w.grownBy w' none := by
  have HV := Lib.hid hv; have HN := Lib.hid hn; have HE := Lib.hid he
  obtain ⟨a, c, rfl⟩ := hv.shape
  generalize hl' : zs.length = l at *
  have HL := Lib.hid hl'
  clear hv hn he hl'
  go_enter Tryd.func138, Tryd.ntmps138
  go_wp2
  go_loopw [8] (fun i wr => ∃ k : Nat, k ≤ m ∧ i = .int .i64 k ∧ w.grownBy wr none) (fun i _ => l - (intOf i).toNat)
  case atStart => exact ⟨0, by omega, rfl, grownBy_refl _ _⟩
  case round =>
    obtain ⟨k, hk, rfl, hg⟩ := hrel
    have HG := Lib.hid hg
    clear hg
    have hlt : k < l := by omega
    obtain ⟨b1, o1, rfl, hb1, hc1⟩ := (HV.out.carry HG.out).atD (i := k) (by rw [HL.out]; exact hlt)
    clear hb1
    by_cases hkm : k = m
    · subst hkm
      rw [HE.out] at hc1
      go_wp2
      go_ret
      exact ⟨rfl, HG.out⟩
    · have hne := HN.out k (by omega)
      generalize zs.getD k 0 = y at *
      have hb : (x == y) = false := by rw [beq_eq_false_iff_ne]; exact fun h => hne h.symm
      go_wp2
      go_roundw
      case rel => exact ⟨k + 1, by omega, by go_num, HG.out⟩
      case measure => simp [intOf]; omega

set_option maxHeartbeats 1000000 in
theorem share1_any (b : Nat) (v : Value) (cl : List Int) (f : Int → Int) (x : Int) (w : World) (hb : w.cell? ⟨b, 0, none⟩ = some v) (hv : IntsV w v cl) (hl : cl.length ≤ 1000000) (h0 : 0 ≤ x) (h1 : x < cl.length)
    (m : Nat) (hm : m < cl.length) (he : cl.getD m 0 = cl.getD x.toNat 0) (hn : ∀ j, j < m → cl.getD j 0 ≠ cl.getD x.toNat 0) :
    Calls Tryd.prog 137 #[.int .i64 x, .pointer (some ⟨b, 0, none⟩)] w fun e w' => e = .returned (.int .i64 m) ∧ w.grownBy w' none := by
  obtain ⟨i, rfl⟩ := Int.eq_ofNat_of_zero_le h0
  simp only [Int.toNat_natCast] at he hn
  have hi : i < cl.length := by omega
  have HI := Lib.hid fun W (h : w.grownBy W none) => index_any v cl (cl.getD i 0) m W (hv.carry h) hl hm he hn
  obtain ⟨a, c, rfl⟩ := hv.shape
  obtain ⟨cb, co, rfl, hcb, hcc⟩ := hv.atD hi
  clear hv he hn
  generalize cl.getD i 0 = y at *
  generalize cl.length = l at *
  have hil : i < l := hi
  clear h0 h1
  have hb' : w.drew.cell? ⟨b, 0, none⟩ = some (.slice (some ⟨cb, co, none⟩) l c) := hb
  have hcc' : w.drew.cell? ⟨cb, co + i, none⟩ = some (.int .i64 y) := hcc
  have HKD := Lib.hid (show w.grownBy w.drew none from (Only.drew (fun _ => False) w).grown)
  go_enter Tryd.func137, Tryd.ntmps137
  go_upto_region 1 with fail
  go_region_law (
    try go_simp
    go_at_call 138
    go_loud (with_reducible refine (HI.out _ HKD.out).mono ?_)
    rintro e w2 ⟨rfl, hg⟩
    have HG := Lib.hid (grownBy_trans HKD.out hg)
    clear hg)
  all_goals
    go_wp2_with fail
    go_ret
    exact ⟨rfl, HG.out⟩
end Go.Proofs.YtkamcgonacmieaaDoor

/-
  Are two gates alike, in the reference. Conditions: operands are gates.
-/
namespace Go.Proofs.YtkamcgonacmieaaDoor
open Go.RowKit
set_option linter.unusedVariables false
set_option maxRecDepth 100000

theorem like_eq (gs : List Gt) (cl : List Int) (i j : Nat) : likeB gs cl i j = if cl.getD i 0 ≠ cl.getD j 0 ∨ (gs.getD i g0).k ≠ (gs.getD j g0).k ∨ (gs.getD i g0).v ≠ (gs.getD j g0).v then false
  else if (gs.getD i g0).k = 3 then
    decide (atL cl (gs.getD i g0).a = atL cl (gs.getD j g0).a ∧ atL cl (gs.getD i g0).b = atL cl (gs.getD j g0).b ∨ atL cl (gs.getD i g0).a = atL cl (gs.getD j g0).b ∧ atL cl (gs.getD i g0).b = atL cl (gs.getD j g0).a)
  else if (gs.getD i g0).k = 4 ∨ (gs.getD i g0).k = 5 then decide (atL cl (gs.getD i g0).a = atL cl (gs.getD j g0).a)
  else true := rfl
set_option maxHeartbeats 4000000 in
theorem opAlike_any (n : Int) (gv ov cv : Value) (gs : List Gt) (m2 : Nat) (cl : List Int) (i j : Nat) (w : World) (hg : RdR gateE w gv gs) (hoS : ∃ a c, ov = .slice a m2 c) (hc : IntsV w cv cl) (hi : i < gs.length) (hj : j < gs.length) (hcl : cl.length = gs.length) (hl : gs.length ≤ 1000) (hops : ∀ g ∈ gs, ∀ x ∈ opsL g, 0 ≤ x ∧ x < gs.length) :
    Calls Tryd.prog 120 #[cirV n gv ov, cv, .int .i64 i, .int .i64 j] w fun e w' => e = .returned (.bool (likeB gs cl i j)) ∧ w.grownBy w' none := by
  unfold cirV
  have HOI := Lib.hid (hops _ (getD_mem3 g0 hi)); have HOJ := Lib.hid (hops _ (getD_mem3 g0 hj))
  obtain ⟨oa, oc, rfl⟩ := hoS
  obtain ⟨ga, gc, rfl⟩ := hg.shape
  obtain ⟨gb, go, rfl, -⟩ := gate_at rfl rfl hg hi
  have hgi := fun W (h : w.grownBy W none) => gate_in rfl rfl (hg.carry h) hi
  have hgj := fun W (h : w.grownBy W none) => gate_in rfl rfl (hg.carry h) hj
  have HLK := Lib.hid (like_eq gs cl i j)
  obtain ⟨ca, cc, rfl⟩ := hc.shape
  have hic : i < cl.length := by omega
  obtain ⟨cb, co, rfl, _, _⟩ := hc.atD hic
  have HCL := Lib.hid fun W (h : w.grownBy W none) (i : Nat) (hi : i < gs.length) => (hc.carry h).cellN (i := i) (by omega)
  clear hg hc hops hic
  generalize likeB gs cl i j = res at *
  generalize gs.getD i g0 = y at *
  generalize gs.getD j g0 = x at *
  rw [hcl]
  generalize gs.length = m at *
  obtain ⟨gk, a, b, v⟩ := y
  obtain ⟨gk', a', b', v'⟩ := x
  simp only at HOI HOJ HLK hgi hgj
  have hs0 := (Sep.start w).box #[.int .i64 n, .slice (some ⟨gb, go, none⟩) m gc, .slice oa m2 oc] 29
  have HS0 := Lib.hid hs0
  clear hs0
  go_enter Tryd.func120, Tryd.ntmps120
  go_upto_region 1 with fail
  go_cut [9, 10] from 11 to 20 (fun t9 t10 wx => ∃ p1 p2 : Nat, t9 = .pointer (some ⟨p1, 0, none⟩) ∧ t10 = .pointer (some ⟨p2, 0, none⟩) ∧ Sep wx [BxA p1 #[.int .i64 gk, .int .i64 a, .int .i64 b, .int .i64 v] 130, BxA p2 #[.int .i64 gk', .int .i64 a', .int .i64 b', .int .i64 v'] 130, KeepA w])
  case first =>
    have hs1 := HS0.out
    generalize w.alloc (.cells #[.int .i64 n, .slice (some ⟨gb, go, none⟩) m gc, .slice oa m2 oc] 29) = W at *
    have z0 := (bx3 hs1.dr.hd).2.1
    have z1 := fun ob => (bx3 (hs1.al ob).dr.hd).2.1
    have z2 := fun ob ob' => (bx3 ((hs1.al ob).al ob').dr.hd).2.1
    obtain ⟨i0, i1, i2, i3⟩ := hgi _ hs1.dr.tl.hd
    obtain ⟨j0, j1, j2, j3⟩ := hgj _ hs1.dr.tl.hd
    have ya := fun ob => hgi _ (hs1.al ob).dr.tl.hd
    have yb := fun ob => hgj _ (hs1.al ob).dr.tl.hd
    have ya0 := fun ob => (ya ob).1
    have ya1 := fun ob => (ya ob).2.1
    have ya2 := fun ob => (ya ob).2.2.1
    have ya3 := fun ob => (ya ob).2.2.2
    have yb0 := fun ob => (yb ob).1
    have yb1 := fun ob => (yb ob).2.1
    have yb2 := fun ob => (yb ob).2.2.1
    have yb3 := fun ob => (yb ob).2.2.2
    have xa := fun ob ob' => hgi _ ((hs1.al ob).al ob').dr.tl.hd
    have xb := fun ob ob' => hgj _ ((hs1.al ob).al ob').dr.tl.hd
    have xa0 := fun ob ob' => (xa ob ob').1
    have xa1 := fun ob ob' => (xa ob ob').2.1
    have xa2 := fun ob ob' => (xa ob ob').2.2.1
    have xa3 := fun ob ob' => (xa ob ob').2.2.2
    have xb0 := fun ob ob' => (xb ob ob').1
    have xb1 := fun ob ob' => (xb ob ob').2.1
    have xb2 := fun ob ob' => (xb ob ob').2.2.1
    have xb3 := fun ob ob' => (xb ob ob').2.2.2
    have HS1 := Lib.hid hs1
    clear ya yb xa xb hgi hgj HS0 hs1
    go_region
    all_goals
      go_wp2_with fail
      go_meet
    · have h := ((HS1.out.box #[.int .i64 gk, .int .i64 a, .int .i64 b, .int .i64 v] 130).box #[.int .i64 gk', .int .i64 a', .int .i64 b', .int .i64 v'] 130).dr
      rw [show (W.alloc (.cells #[.int .i64 gk, .int .i64 a, .int .i64 b, .int .i64 v] 130)).heap.size = W.heap.size + 1 by simp] at h
      exact ⟨_, _, rfl, rfl, h.s2.under (fun h => h.under (fun h => h.tl) (by simp +contextual)) (by simp +contextual)⟩
    · have h := ((HS1.out.box #[.int .i64 gk', .int .i64 a', .int .i64 b', .int .i64 v'] 130).box #[.int .i64 gk, .int .i64 a, .int .i64 b, .int .i64 v] 130).dr
      rw [show (W.alloc (.cells #[.int .i64 gk', .int .i64 a', .int .i64 b', .int .i64 v'] 130)).heap.size = W.heap.size + 1 by simp] at h
      exact ⟨_, _, rfl, rfl, h.under (fun h => h.under (fun h => h.tl) (by simp +contextual)) (by simp +contextual)⟩
  case rest =>
    obtain ⟨p1, p2, rfl, rfl, hs⟩ := hcut
    obtain ⟨x0, x1, x2, x3, -⟩ := bx4 hs.hd
    obtain ⟨y0, y1, y2, y3, -⟩ := bx4 hs.tl.hd
    have hkeep : w.grownBy wc none := hs.tl.tl.hd
    have HK := Lib.hid hkeep
    have ci := HCL.out _ hkeep i hi
    have cj := HCL.out _ hkeep j hj
    clear hs HS0 hgi hgj hkeep
    generalize cl.getD i 0 = zi at *
    generalize cl.getD j 0 = zj at *
    by_cases hz : zi = zj
    · subst hz
      by_cases hk : gk = gk'
      · subst hk
        by_cases hv : v = v'
        · subst hv
          rw [if_neg (by simp)] at HLK
          by_cases h3 : gk = 3
          · subst h3
            rw [if_pos rfl] at HLK
            have HL2 := Lib.hid (show res = true ↔ _ from by rw [HLK.out, decide_eq_true_iff]); clear HLK; have HLK := HL2; clear HL2
            obtain ⟨ria0, ria1⟩ := HOI.out a (by simp [opsL])
            obtain ⟨ia, rfl⟩ := Int.eq_ofNat_of_zero_le ria0
            have lia : ia < m := by omega
            have cia := HCL.out _ HK.out ia lia
            obtain ⟨rib0, rib1⟩ := HOI.out b (by simp [opsL])
            obtain ⟨ib, rfl⟩ := Int.eq_ofNat_of_zero_le rib0
            have lib : ib < m := by omega
            have cib := HCL.out _ HK.out ib lib
            obtain ⟨rja0, rja1⟩ := HOJ.out a' (by simp [opsL])
            obtain ⟨ja, rfl⟩ := Int.eq_ofNat_of_zero_le rja0
            have lja : ja < m := by omega
            have cja := HCL.out _ HK.out ja lja
            obtain ⟨rjb0, rjb1⟩ := HOJ.out b' (by simp [opsL])
            obtain ⟨jb, rfl⟩ := Int.eq_ofNat_of_zero_le rjb0
            have ljb : jb < m := by omega
            have cjb := HCL.out _ HK.out jb ljb
            simp only [atL, Int.toNat_natCast] at HLK
            clear ria0 ria1 rib0 rib1 rja0 rja1 rjb0 rjb1 HOI HOJ HCL
            generalize cl.getD ia 0 = zia at *
            generalize cl.getD ib 0 = zib at *
            generalize cl.getD ja 0 = zja at *
            generalize cl.getD jb 0 = zjb at *
            by_cases haa : zia = zja
            · by_cases hbb : zib = zjb
              · have HF := Lib.hid (HLK.out.2 (Or.inl ⟨haa, hbb⟩))
                subst haa; subst hbb
                clear HLK
                go_wp2_with fail
                go_quiet (fail)
                go_wp2_with fail
                go_quiet (fail)
                go_wp2_with fail
                go_ret
                exact ⟨by rw [HF.out]; rfl, ⟨HK.out.os, HK.out.tape, HK.out.output, HK.out.size, HK.out.block⟩⟩
              · by_cases hab : zia = zjb
                · by_cases hba : zib = zja
                  · have HF := Lib.hid (HLK.out.2 (Or.inr ⟨hab, hba⟩))
                    have taa : (zia == zja) = true := by simpa using haa
                    have tbb : (zib == zjb) = false := by simpa using hbb
                    have tab : (zia == zjb) = true := by simpa using hab
                    have tba : (zib == zja) = true := by simpa using hba
                    clear hab hba haa hbb
                    clear HLK
                    go_wp2_with fail
                    go_quiet (fail)
                    go_wp2_with fail
                    go_quiet (fail)
                    go_wp2_with fail
                    go_ret
                    exact ⟨by rw [HF.out]; rfl, ⟨HK.out.os, HK.out.tape, HK.out.output, HK.out.size, HK.out.block⟩⟩
                  · have HF := Lib.hid (show res = false by rw [← Bool.not_eq_true, HLK.out]; rintro (⟨h1, h2⟩ | ⟨h1, h2⟩); (exact hbb h2); exact hba h2)
                    have taa : (zia == zja) = true := by simpa using haa
                    have tbb : (zib == zjb) = false := by simpa using hbb
                    have tab : (zia == zjb) = true := by simpa using hab
                    have tba : (zib == zja) = false := by simpa using hba
                    clear hab hba haa hbb
                    clear HLK
                    go_wp2_with fail
                    go_quiet (fail)
                    go_wp2_with fail
                    go_quiet (fail)
                    go_wp2_with fail
                    go_ret
                    exact ⟨by rw [HF.out]; rfl, ⟨HK.out.os, HK.out.tape, HK.out.output, HK.out.size, HK.out.block⟩⟩
                · have HF := Lib.hid (show res = false by rw [← Bool.not_eq_true, HLK.out]; rintro (⟨h1, h2⟩ | ⟨h1, h2⟩); (exact hbb h2); exact hab h1)
                  have taa : (zia == zja) = true := by simpa using haa
                  have tbb : (zib == zjb) = false := by simpa using hbb
                  have tab : (zia == zjb) = false := by simpa using hab
                  clear hab haa hbb
                  clear HLK
                  go_wp2_with fail
                  go_quiet (fail)
                  go_wp2_with fail
                  go_quiet (fail)
                  go_wp2_with fail
                  go_ret
                  exact ⟨by rw [HF.out]; rfl, ⟨HK.out.os, HK.out.tape, HK.out.output, HK.out.size, HK.out.block⟩⟩
            · by_cases hab : zia = zjb
              · by_cases hba : zib = zja
                · have HF := Lib.hid (HLK.out.2 (Or.inr ⟨hab, hba⟩))
                  have taa : (zia == zja) = false := by simpa using haa
                  have tab : (zia == zjb) = true := by simpa using hab
                  have tba : (zib == zja) = true := by simpa using hba
                  clear hab hba haa
                  clear HLK
                  go_wp2_with fail
                  go_quiet (fail)
                  go_wp2_with fail
                  go_quiet (fail)
                  go_wp2_with fail
                  go_ret
                  exact ⟨by rw [HF.out]; rfl, ⟨HK.out.os, HK.out.tape, HK.out.output, HK.out.size, HK.out.block⟩⟩
                · have HF := Lib.hid (show res = false by rw [← Bool.not_eq_true, HLK.out]; rintro (⟨h1, h2⟩ | ⟨h1, h2⟩); (exact haa h1); exact hba h2)
                  have taa : (zia == zja) = false := by simpa using haa
                  have tab : (zia == zjb) = true := by simpa using hab
                  have tba : (zib == zja) = false := by simpa using hba
                  clear hab hba haa
                  clear HLK
                  go_wp2_with fail
                  go_quiet (fail)
                  go_wp2_with fail
                  go_quiet (fail)
                  go_wp2_with fail
                  go_ret
                  exact ⟨by rw [HF.out]; rfl, ⟨HK.out.os, HK.out.tape, HK.out.output, HK.out.size, HK.out.block⟩⟩
              · have HF := Lib.hid (show res = false by rw [← Bool.not_eq_true, HLK.out]; rintro (⟨h1, h2⟩ | ⟨h1, h2⟩); (exact haa h1); exact hab h1)
                have taa : (zia == zja) = false := by simpa using haa
                have tab : (zia == zjb) = false := by simpa using hab
                clear hab haa
                clear HLK
                go_wp2_with fail
                go_quiet (fail)
                go_wp2_with fail
                go_quiet (fail)
                go_wp2_with fail
                go_ret
                exact ⟨by rw [HF.out]; rfl, ⟨HK.out.os, HK.out.tape, HK.out.output, HK.out.size, HK.out.block⟩⟩
          · rw [if_neg h3] at HLK
            have e3 : (gk == 3) = false := by simpa using h3
            by_cases h45 : gk = 4 ∨ gk = 5
            · rw [if_pos h45] at HLK
              have HL2 := Lib.hid (show res = true ↔ _ from by rw [HLK.out, decide_eq_true_iff]); clear HLK; have HLK := HL2; clear HL2
              obtain ⟨ria0, ria1⟩ := HOI.out a (by simp [opsL, h3, h45])
              obtain ⟨ia, rfl⟩ := Int.eq_ofNat_of_zero_le ria0
              have lia : ia < m := by omega
              have cia := HCL.out _ HK.out ia lia
              obtain ⟨rja0, rja1⟩ := HOJ.out a' (by simp [opsL, h3, h45])
              obtain ⟨ja, rfl⟩ := Int.eq_ofNat_of_zero_le rja0
              have lja : ja < m := by omega
              have cja := HCL.out _ HK.out ja lja
              simp only [atL, Int.toNat_natCast] at HLK
              clear ria0 ria1 rja0 rja1 HOI HOJ HCL h3
              generalize cl.getD ia 0 = zia at *
              generalize cl.getD ja 0 = zja at *
              by_cases h4 : gk = 4
              · subst h4
                clear e3 h45
                by_cases haa : zia = zja
                · have HF := Lib.hid (HLK.out.2 haa)
                  subst haa
                  clear HLK
                  go_wp2_with fail
                  go_quiet (fail)
                  go_wp2_with fail
                  go_quiet (fail)
                  go_wp2_with fail
                  go_ret
                  exact ⟨by rw [HF.out]; rfl, ⟨HK.out.os, HK.out.tape, HK.out.output, HK.out.size, HK.out.block⟩⟩
                · have HF := Lib.hid (show res = false by rw [← Bool.not_eq_true, HLK.out]; exact haa)
                  have taa : (zia == zja) = false := by simpa using haa
                  clear haa
                  clear HLK
                  go_wp2_with fail
                  go_quiet (fail)
                  go_wp2_with fail
                  go_quiet (fail)
                  go_wp2_with fail
                  go_ret
                  exact ⟨by rw [HF.out]; rfl, ⟨HK.out.os, HK.out.tape, HK.out.output, HK.out.size, HK.out.block⟩⟩
              · obtain rfl : gk = 5 := by omega
                clear e3 h45 h4
                by_cases haa : zia = zja
                · have HF := Lib.hid (HLK.out.2 haa)
                  subst haa
                  clear HLK
                  go_wp2_with fail
                  go_quiet (fail)
                  go_wp2_with fail
                  go_quiet (fail)
                  go_wp2_with fail
                  go_ret
                  exact ⟨by rw [HF.out]; rfl, ⟨HK.out.os, HK.out.tape, HK.out.output, HK.out.size, HK.out.block⟩⟩
                · have HF := Lib.hid (show res = false by rw [← Bool.not_eq_true, HLK.out]; exact haa)
                  have taa : (zia == zja) = false := by simpa using haa
                  clear haa
                  clear HLK
                  go_wp2_with fail
                  go_quiet (fail)
                  go_wp2_with fail
                  go_quiet (fail)
                  go_wp2_with fail
                  go_ret
                  exact ⟨by rw [HF.out]; rfl, ⟨HK.out.os, HK.out.tape, HK.out.output, HK.out.size, HK.out.block⟩⟩
            · rw [if_neg h45] at HLK
              have HF := Lib.hid HLK.out
              simp only [not_or] at h45
              have e4 : (gk == 4) = false := by simpa using h45.1
              have e5 : (gk == 5) = false := by simpa using h45.2
              clear h3 h45
              clear HLK
              go_wp2_with fail
              go_quiet (fail)
              go_wp2_with fail
              go_ret
              exact ⟨by rw [HF.out]; rfl, ⟨HK.out.os, HK.out.tape, HK.out.output, HK.out.size, HK.out.block⟩⟩
        · have hv2 : (v != v') = true := by simpa using hv
          have HF := Lib.hid (show res = false by rw [HLK.out, if_pos (Or.inr (Or.inr hv))])
          clear hv
          clear HLK
          go_wp2_with fail
          go_quiet (fail)
          go_wp2_with fail
          go_ret
          exact ⟨by rw [HF.out]; rfl, ⟨HK.out.os, HK.out.tape, HK.out.output, HK.out.size, HK.out.block⟩⟩
      · have hk2 : (gk != gk') = true := by simpa using hk
        have HF := Lib.hid (show res = false by rw [HLK.out, if_pos (Or.inr (Or.inl hk))])
        clear hk
        clear HLK
        go_wp2_with fail
        go_quiet (fail)
        go_wp2_with fail
        go_ret
        exact ⟨by rw [HF.out]; rfl, ⟨HK.out.os, HK.out.tape, HK.out.output, HK.out.size, HK.out.block⟩⟩
    · have hz2 : (zi != zj) = true := by simpa using hz
      have HF := Lib.hid (show res = false by rw [HLK.out, if_pos (Or.inl hz)])
      clear hz
      clear HLK
      go_wp2_with fail
      go_quiet (fail)
      go_wp2_with fail
      go_ret
      exact ⟨by rw [HF.out]; rfl, ⟨HK.out.os, HK.out.tape, HK.out.output, HK.out.size, HK.out.block⟩⟩
end Go.Proofs.YtkamcgonacmieaaDoor

/-
  The classes of gates, in the reference. Conditions: between 1 and 1000 gates, operands are gates.
-/
namespace Go.Proofs.YtkamcgonacmieaaDoor
open Go.RowKit
set_option linter.unusedVariables false
set_option maxRecDepth 100000

theorem l1Same_any (v1 v2 : Value) (x y : List Int) (w : World) (h1 : IntsV w v1 x) (h2 : IntsV w v2 y) (l1 : x.length ≤ 1000000000) (l2 : y.length ≤ 1000000000) :
    Calls Tryd.prog 121 #[v1, v2] w fun e w' => e = .returned (.bool (decide (x = y))) ∧ w.grownBy w' none := by
  have H1 := Lib.hid h1; have H2 := Lib.hid h2
  obtain ⟨a1, c1, rfl⟩ := h1.shape
  obtain ⟨a2, c2, rfl⟩ := h2.shape
  clear h1 h2
  by_cases hl : x.length = y.length
  · generalize hlx : x.length = l at *
    have HLX := Lib.hid hlx; have HLY := Lib.hid hl
    rw [← HLY.out]
    clear hlx hl
    go_enter Tryd.func121, Tryd.ntmps121
    go_wp2
    go_loopw [13] (fun i wr => ∃ k : Nat, k ≤ l ∧ i = .int .i64 k ∧ (∀ j, j < k → x.getD j 0 = y.getD j 0) ∧ w.grownBy wr none) (fun i _ => l - (intOf i).toNat)
    case atStart => exact ⟨0, by omega, rfl, fun _ h => absurd h (by omega), grownBy_refl _ _⟩
    case round =>
      obtain ⟨k, hk, rfl, ho, hg⟩ := hrel
      have HO := Lib.hid ho; have HG := Lib.hid hg
      clear ho hg
      by_cases hlt : k < l
      · obtain ⟨b1, o1, rfl, hb1, hc1⟩ := (H1.out.carry HG.out).atD (i := k) (by rw [HLX.out]; exact hlt)
        obtain ⟨b2, o2, rfl, hb2, hc2⟩ := (H2.out.carry HG.out).atD (i := k) (by rw [← HLY.out]; exact hlt)
        generalize hzx : x.getD k 0 = zx at hc1
        generalize hzy : y.getD k 0 = zy at hc2
        have HZX := Lib.hid hzx; have HZY := Lib.hid hzy
        clear hzx hzy hb1 hb2
        by_cases he : zx = zy
        · subst he
          go_wp2
          go_quiet (fail)
          go_wp2
          go_roundw
          case rel => exact ⟨k + 1, by omega, by go_num, fun j hj => by
            by_cases hjk : j = k
            · subst hjk; rw [HZX.out, HZY.out]
            · exact HO.out j (by omega), ⟨HG.out.os, HG.out.tape, HG.out.output, HG.out.size, HG.out.block⟩⟩
          case measure => simp [intOf]; omega
        · have hb : (zx != zy) = true := by rw [bne_iff_ne]; exact he
          have hfin : decide (x = y) = false := by
            rw [decide_eq_false_iff_not]
            intro h
            subst h
            exact he (HZX.out.symm.trans HZY.out)
          have HF := Lib.hid hfin
          clear hfin he
          go_wp2
          go_quiet (fail)
          go_wp2
          go_ret
          exact ⟨by rw [HF.out]; rfl, ⟨HG.out.os, HG.out.tape, HG.out.output, HG.out.size, HG.out.block⟩⟩
      · have hfin : decide (x = y) = true := by
          rw [decide_eq_true_iff]
          refine List.ext_getElem (by rw [HLX.out, HLY.out]) fun j h h' => ?_
          have := HO.out j (by have := HLX.out; omega)
          rwa [List.getD_eq_getElem?_getD, List.getElem?_eq_getElem h, List.getD_eq_getElem?_getD, List.getElem?_eq_getElem h'] at this
        have HF := Lib.hid hfin
        clear hfin
        go_wp2
        go_ret
        exact ⟨by rw [HF.out]; rfl, HG.out⟩
  · have hfin : decide (x = y) = false := by
      rw [decide_eq_false_iff_not]
      intro h
      exact hl (by rw [h])
    have hb : ((x.length : Int) != y.length) = true := by rw [bne_iff_ne]; omega
    have HF := Lib.hid hfin
    clear hfin hl
    go_enter Tryd.func121, Tryd.ntmps121
    go_wp2
    go_ret
    exact ⟨by rw [HF.out]; rfl, grownBy_refl _ _⟩

open Classical in
/-- The integers that a slice holds. -/
noncomputable def rdL (w : World) (v : Value) : List Int := if h : ∃ l, IntsV w v l then Classical.choose h else []
theorem ints_one {w : World} {v : Value} {x y : List Int} (h1 : IntsV w v x) (h2 : IntsV w v y) : x = y := by
  obtain ⟨a, c, e1⟩ := h1.shape
  obtain ⟨a', c', e2⟩ := h2.shape
  have hl : x.length = y.length := by
    rw [e1] at e2
    injection e2
  refine List.ext_getElem hl fun j h h' => ?_
  subst e1
  obtain ⟨b1, o1, rfl, _, q1⟩ := h1.atD h
  have q2 := h2.cellN h'
  rw [q1] at q2
  have q3 : x.getD j 0 = y.getD j 0 := by simpa using q2
  rwa [List.getD_eq_getElem?_getD, List.getElem?_eq_getElem h, List.getD_eq_getElem?_getD, List.getElem?_eq_getElem h'] at q3
theorem rdL_eq {w : World} {v : Value} {l : List Int} (h : IntsV w v l) : rdL w v = l := by
  have he : ∃ l, IntsV w v l := ⟨l, h⟩
  unfold rdL
  rw [dif_pos he]
  exact ints_one (Classical.choose_spec he) h
theorem lost_end {f : Nat → List Int} {i m : Nat} (h : (m ≠ i → f m = f i) ∧ (∀ j, j < i → loN f j = j → f j = f i → m ≤ j) ∧ m ≤ i ∧ (m ≠ i → loN f m = m)) : m = loN f i := by
  obtain ⟨h1, h2, h3, h4⟩ := h
  obtain ⟨a, b, c⟩ := lo_spec f i
  rcases Nat.lt_or_ge (loN f i) i with h | h
  · have := h2 _ h (lo_idem f i) b
    have h5 : m ≠ i := by omega
    have := c m (h1 h5)
    omega
  · by_cases h5 : m = i
    · omega
    · have := c m (h1 h5)
      omega
theorem step_take {gs : List Gt} {cl : List Int} {m k : Nat} (hm : gs.length = m) (hk : k < m) : ((stepC gs cl).take k ++ List.replicate (m - k) (0 : Int)).set k ((loN (sgL gs cl) k : Nat) : Int) = (stepC gs cl).take (k + 1) ++ List.replicate (m - (k + 1)) 0 := by
  have hl : (stepC gs cl).length = m := by rw [step_len, hm]
  have h1 : ((stepC gs cl).take k).length = k := by rw [List.length_take]; omega
  have h2 : m - k = (m - (k + 1)) + 1 := by omega
  have h3 := step_at gs cl (i := k) (by omega)
  rw [List.getD_eq_getElem?_getD, List.getElem?_eq_getElem (by omega)] at h3
  simp only [Option.getD_some] at h3
  rw [List.take_succ_eq_append_getElem (by omega), h3, h2, List.replicate_succ, List.set_append_right _ _ (by omega), h1, Nat.sub_self, List.set_cons_zero]
  simp
theorem step_below {gs : List Gt} {cl : List Int} {m k j : Nat} (hm : gs.length = m) (hk : k < m) (hj : j < k) (x : Int) : (((stepC gs cl).take k ++ List.replicate (m - k) (0 : Int)).set k x).getD j 0 = ((loN (sgL gs cl) j : Nat) : Int) := by
  have hl : (stepC gs cl).length = m := by rw [step_len, hm]
  rw [← step_at gs cl (i := j) (by omega), List.getD_eq_getElem?_getD, List.getElem?_set, if_neg (by omega), List.getElem?_append_left (by rw [List.length_take]; omega), List.getElem?_take, if_pos hj, List.getD_eq_getElem?_getD]

set_option maxHeartbeats 8000000 in
theorem opClasses_any (n : Int) (gv ov : Value) (gs : List Gt) (m2 : Nat) (w : World) (hg : RdR gateE w gv gs) (hoS : ∃ a c, ov = .slice a m2 c) (hgs : Gates gs) (h1 : 1 ≤ gs.length) (hl : gs.length ≤ 1000) :
    Calls Tryd.prog 53 #[cirV n gv ov] w fun e w' => ∃ a c s, e = .returned (.slice a gs.length c) ∧ clsN gs (s + 1) = clsN gs s ∧ Sep w' [OI (.slice a gs.length c) (clsN gs s), KeepA w] := by
  obtain ⟨oa, oc, rfl⟩ := hoS
  obtain ⟨ga, gc, rfl⟩ := hg.shape
  have HAK := Lib.hid fun W (h : w.grownBy W none) cv cl i j (hc : IntsV W cv cl) (hi : i < gs.length) (hj : j < gs.length) (hcl : cl.length = gs.length) => opAlike_any n (.slice ga gs.length gc) (.slice oa m2 oc) cv gs m2 cl i j W (hg.carry h) ⟨oa, oc, rfl⟩ hc hi hj hcl hl hgs.ops
  unfold cirV at *
  have HZR := Lib.hid (show clsN gs 0 = List.replicate gs.length 0 from rfl)
  have HNL := Lib.hid fun s => cls_len gs s
  have HSL := Lib.hid fun cl => step_len gs cl
  have HCL := Lib.hid fun cl => cntC_le gs cl
  have HCS := Lib.hid fun s => @cnt_up_step gs s
  have HST := Lib.hid fun cl k (hk : k < gs.length) => @step_take gs cl gs.length k rfl hk
  have HSB := Lib.hid fun cl k j (hk : k < gs.length) (hj : j < k) x => @step_below gs cl gs.length k j rfl hk hj x
  have HSS := Lib.hid fun s => show clsN gs (s + 1) = stepC gs (clsN gs s) from rfl
  clear hg hgs
  generalize gs.length = m at *
  have hs0 := (Sep.start w).box #[.int .i64 n, .slice ga m gc, .slice oa m2 oc] 29
  have HS0 := Lib.hid hs0
  obtain ⟨x0, x1, x2, -⟩ := bx3 hs0.hd
  clear hs0
  obtain ⟨i0, hi0, hz0, hz1, hz2⟩ := info_parts info_int
  go_enter Tryd.func53, Tryd.ntmps53
  have HI := Lib.hid hi0; have HZ0 := Lib.hid hz0; have HZ1 := Lib.hid hz1; have HZ2 := Lib.hid hz2
  clear hi0 hz0 hz1 hz2
  go_wp2_with (
    at_make
    refine wpList_make_full _ rfl _ _ 23 rfl _ 3 i0 (.int .i64 0) 1 Tryd.underlying23 HI.out HZ0.out HZ1.out _ _ _ _ m rfl rfl rfl rfl (by rw [HZ2.out]; omega) (by unfold maxLen; omega) (Nat.le_refl _) ?_
    intro w1 hown' hgr'
    have hs0 := HS0.out.newI hgr' (by
      rw [madeCells_int] at hown'
      unfold OwnInts
      rw [List.length_replicate]
      exact hown')
    have HS1 := Lib.hid hs0
    clear hs0 hown' hgr')
  go_loopw [3] (fun cv wr => ∃ (s : Nat) (a : Option Addr) (c : Nat), cv = .slice a m c ∧ Sep wr [OI (.slice a m c) (clsN gs s), BxA w.heap.size #[.int .i64 n, .slice ga m gc, .slice oa m2 oc] 29, KeepA w]) (fun cv wr => m - cntC gs (rdL wr cv))
  case atStart => exact ⟨0, _, _, rfl, by rw [HZR.out]; simpa using HS1.out⟩
  case round =>
    obtain ⟨s, a, c, rfl, hs⟩ := hrel
    have HS := Lib.hid hs
    have HME := Lib.hid (rdL_eq hs.hd.read)
    clear hs HS1 HS0
    go_wp2_with (
      at_make
      refine wpList_make_full _ rfl _ _ 23 rfl _ 3 i0 (.int .i64 0) 1 Tryd.underlying23 HI.out HZ0.out HZ1.out _ _ _ _ m rfl rfl rfl rfl (by rw [HZ2.out]; omega) (by unfold maxLen; omega) (Nat.le_refl _) ?_
      intro w1 hown' hgr'
      have hs0 := HS.out.newI hgr' (by
        rw [madeCells_int] at hown'
        unfold OwnInts
        rw [List.length_replicate]
        exact hown')
      have HS1 := Lib.hid hs0
      clear hs0 hown' hgr')
    generalize wr.heap.size = g at *
    obtain ⟨cl, hcl⟩ : ∃ cl, cl = clsN gs s := ⟨_, rfl⟩
    rw [← hcl] at HS1 HS HME
    have HE := Lib.hid hcl
    have HLC := Lib.hid (show cl.length = m by rw [hcl]; exact HNL.out s)
    clear hcl HS
    go_loopw [16] (fun i wq => ∃ k : Nat, k ≤ m ∧ i = .int .i64 k ∧ Sep wq [OI (.slice (some ⟨g, 0, none⟩) m m) ((stepC gs cl).take k ++ List.replicate (m - k) 0), OI (.slice a m c) cl, BxA w.heap.size #[.int .i64 n, .slice ga m gc, .slice oa m2 oc] 29, KeepA w]) (fun i _ => m - (intOf i).toNat)
    case atStart => exact ⟨0, by omega, rfl, by simpa using HS1.out⟩
    case round =>
      obtain ⟨k, hk, rfl, hs⟩ := hrel
      have HSX := Lib.hid hs
      clear hs HS1
      by_cases hlt : k < m
      · have HLL := Lib.hid (show m = ((stepC gs cl).take k ++ List.replicate (m - k) (0 : Int)).length by rw [List.length_append, List.length_take, List.length_replicate, HSL.out cl]; omega)
        have HSET := Lib.hid (HST.out cl k hlt)
        have HSBK := Lib.hid fun j (hj : j < k) x => HSB.out cl k j hlt hj x
        obtain ⟨L0, hL0⟩ : ∃ L0, L0 = (stepC gs cl).take k ++ List.replicate (m - k) (0 : Int) := ⟨_, rfl⟩
        rw [← hL0] at HSX HLL HSET HSBK
        have hL1 := HSX.out.hd.cell HLL.out (j := k) (by rw [← HLL.out]; exact hlt)
        have hL2 := HSX.out.hd.free HLL.out k
        have HSY := Lib.hid (HSX.out.setI HLL.out k k)
        clear hL0
        generalize L0[k] = old at hL1
        obtain ⟨f, hf⟩ : ∃ f, f = sgL gs cl := ⟨_, rfl⟩
        have HF := Lib.hid hf
        rw [← hf] at HSET HSBK
        clear hf HSX HST HSB
        go_wp2_with fail
        go_loopw [6] (fun jv wz => ∃ (t mm : Nat), t ≤ k ∧ jv = .int .i64 ((t : Int) - 1) ∧ ((mm ≠ k → f mm = f k) ∧ (∀ j, t ≤ j → j < k → loN f j = j → f j = f k → mm ≤ j) ∧ mm ≤ k ∧ (mm ≠ k → loN f mm = mm)) ∧ Sep wz [OI (.slice (some ⟨g, 0, none⟩) m m) (L0.set k mm), OI (.slice a m c) cl, BxA w.heap.size #[.int .i64 n, .slice ga m gc, .slice oa m2 oc] 29, KeepA w]) (fun jv _ => (intOf jv + 1).toNat)
        case atStart => exact ⟨k, k, Nat.le_refl _, rfl, ⟨fun h => absurd rfl h, fun j h h' => absurd h' (by omega), Nat.le_refl _, fun h => absurd rfl h⟩, HSY.out⟩
        case round =>
          obtain ⟨t, mm, ht, rfl, hinv, hs⟩ := hrel
          have HSZ := Lib.hid hs; have HIN := Lib.hid hinv
          have HMK := Lib.hid (show mm ≤ k from hinv.2.2.1)
          obtain ⟨z0, z1, z2, -⟩ := bx3 hs.tl.tl.hd
          clear hinv
          have HLZ := Lib.hid (show m = (L0.set k (mm : Int)).length by rw [List.length_set]; exact HLL.out)
          rcases Nat.eq_zero_or_pos t with h0 | h0
          · subst h0
            have hend := lost_end (f := f) (i := k) (m := mm) ⟨HIN.out.1, fun j h => HIN.out.2.1 j (Nat.zero_le _) h, HIN.out.2.2.1, HIN.out.2.2.2⟩
            have HSN := Lib.hid hs
            rw [hend, HSET.out] at HSN
            clear hs hend HSZ HIN HMK
            go_wp2_with fail
            go_roundw
            case rel => exact ⟨k + 1, by omega, by go_num, HSN.out⟩
            case measure => simp [intOf]; omega
          · obtain ⟨j, rfl⟩ : ∃ j, t = j + 1 := ⟨t - 1, by omega⟩
            rw [show (((j + 1 : Nat) : Int) - 1) = (j : Int) by omega]
            have hjm : j < m := by omega
            have hjc := hs.hd.cell HLZ.out (j := j) (by rw [← HLZ.out]; exact hjm)
            have hjv : (L0.set k (mm : Int))[j]'(by rw [← HLZ.out]; exact hjm) = ((loN f j : Nat) : Int) := by
              have h := HSBK.out j (by omega) mm
              rwa [List.getD_eq_getElem?_getD, List.getElem?_eq_getElem (by rw [← HLZ.out]; exact hjm)] at h
            rw [hjv] at hjc
            have hkc := hs.hd.cell HLZ.out (j := k) (by rw [← HLZ.out]; exact hlt)
            have hkf := hs.hd.free HLZ.out k
            generalize (L0.set k (mm : Int))[k]'(by rw [← HLZ.out]; exact hlt) = oldk at hkc
            have hci := OwnInts.read hs.tl.hd
            have hkp := Sep.kept hs.tl.tl.tl
            have HCALL := Lib.hid (HAK.out _ hkp (.slice a m c) cl k j hci hlt hjm HLC.out)
            clear hs hci hkp hjv
            by_cases hlo : loN f j = j
            · rw [hlo] at hjc
              cases hlk : likeB gs cl k j
              · rw [hlk] at HCALL
                have hne : ¬ f j = f k := fun h => by
                  have := (like_iff gs cl k j).2 (by rw [← HF.out]; exact h.symm)
                  rw [hlk] at this
                  cases this
                have HNE := Lib.hid hne
                have HLO := Lib.hid hlo
                clear hlk hne hlo
                go_wp2_with (
                  go_at_call 120
                  refine HCALL.out.mono ?_
                  rintro e w4 ⟨rfl, hg4⟩
                  have HS4 := Lib.hid (HSZ.out.grown hg4)
                  clear hg4)
                go_roundw
                case rel => exact ⟨j, mm, by omega, by go_num, ⟨HIN.out.1, fun i h1 h2 h3 h4 => by
                  by_cases e : i = j
                  · subst e; exact absurd h4 HNE.out
                  · exact HIN.out.2.1 i (by omega) h2 h3 h4, HIN.out.2.2.1, HIN.out.2.2.2⟩, HS4.out⟩
                case measure => simp [intOf]
              · rw [hlk] at HCALL
                have heq : f j = f k := by
                  have := (like_iff gs cl k j).1 hlk
                  rw [← HF.out] at this
                  exact this.symm
                have HEQ := Lib.hid heq
                have HLO := Lib.hid hlo
                clear hlk heq hlo
                go_wp2_with (
                  go_at_call 120
                  refine HCALL.out.mono ?_
                  rintro e w4 ⟨rfl, hg4⟩
                  have hs4 := HSZ.out.grown hg4
                  have hc4 := hs4.hd.cell HLZ.out (j := k) (by rw [← HLZ.out]; exact hlt)
                  have hf4 := hs4.hd.free HLZ.out k
                  generalize (L0.set k (mm : Int))[k]'(by rw [← HLZ.out]; exact hlt) = oldk4 at hc4
                  have HS4 := Lib.hid (hs4.setI HLZ.out k j)
                  clear hg4 hs4)
                go_roundw
                case rel => exact ⟨j, j, by omega, by go_num, ⟨fun _ => HEQ.out, fun i h1 h2 h3 h4 => h1, by omega, fun _ => HLO.out⟩, by
                  have h := HS4.out
                  rw [List.set_set] at h
                  exact h⟩
                case measure => simp [intOf]
            · have hb : ((loN f j : Int) == (j : Int)) = false := by rw [beq_eq_false_iff_ne]; omega
              have HLO := Lib.hid hlo
              clear hlo
              go_wp2_with fail
              go_roundw
              case rel => exact ⟨j, mm, by omega, by go_num, ⟨HIN.out.1, fun i h1 h2 h3 h4 => by
                by_cases e : i = j
                · subst e; exact absurd h3 HLO.out
                · exact HIN.out.2.1 i (by omega) h2 h3 h4, HIN.out.2.2.1, HIN.out.2.2.2⟩, HSZ.out⟩
              case measure => simp [intOf]
      · have hkm : k = m := by omega
        subst hkm
        have hs1 := HSX.out
        rw [Nat.sub_self, List.replicate_zero, List.append_nil, List.take_of_length_le (by rw [HSL.out cl]; exact Nat.le_refl _)] at hs1
        have HS1 := Lib.hid hs1
        have HSAME := Lib.hid (l1Same_any (.slice (some ⟨g, 0, none⟩) k k) (.slice a k c) (stepC gs cl) cl _ hs1.hd.read hs1.tl.hd.read (by rw [HSL.out cl]; omega) (by rw [HLC.out]; omega))
        clear hs1 HSX
        by_cases hfx : stepC gs cl = cl
        · rw [decide_eq_true hfx] at HSAME
          have HFX := Lib.hid (show clsN gs (s + 1) = clsN gs s by rw [HSS.out s, ← HE.out]; exact hfx)
          clear hfx
          go_wp2_with (
            go_at_call 121
            refine HSAME.out.mono ?_
            rintro e w4 ⟨rfl, hg4⟩
            have HS4 := Lib.hid (HS1.out.grown hg4)
            clear hg4)
          go_ret
          exact ⟨_, _, s, rfl, HFX.out, by rw [← HE.out]; exact HS4.out.tl.under (fun h => h.tl) (by simp +contextual)⟩
        · rw [decide_eq_false hfx] at HSAME
          have HUP := Lib.hid (HCS.out s (by rw [HSS.out s, ← HE.out]; exact hfx))
          clear hfx
          go_wp2_with (
            go_at_call 121
            refine HSAME.out.mono ?_
            rintro e w4 ⟨rfl, hg4⟩
            have hs4 := HS1.out.grown hg4
            have HME4 := Lib.hid (rdL_eq hs4.hd.read)
            have HS4 := Lib.hid (hs4.drop2)
            clear hg4 hs4)
          go_roundw
          case rel => exact ⟨s + 1, _, _, rfl, by rw [HSS.out s, ← HE.out]; exact HS4.out⟩
          case measure =>
            have h1 := HUP.out
            have h2 := HCL.out (clsN gs (s + 1))
            rw [HME4.out, HME.out]
            rw [HSS.out s, ← HE.out] at h1 h2
            omega
end Go.Proofs.YtkamcgonacmieaaDoor

/-
  ShareGates in the reference. Conditions: at most 2,000,000 gates and outputs.
-/
namespace Go.Proofs.YtkamcgonacmieaaDoor
open Go.RowKit
set_option linter.unusedVariables false
set_option maxRecDepth 100000

noncomputable def shareC (c : Circ) : Circ := redirL (ofL (finC c.gs)) c
noncomputable def shareRes (p : Int) (c : Circ) : Circ := if circE p c = true then shareC c else circ0

end Go.Proofs.YtkamcgonacmieaaDoor

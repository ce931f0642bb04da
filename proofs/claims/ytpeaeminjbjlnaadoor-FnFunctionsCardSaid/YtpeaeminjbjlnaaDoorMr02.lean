/-
  The relation of a matrix, in the reference. Conditions: small sizes.
-/
import Derived.Test.YtpeaeminjbjlnaaDoorMl06
import Derived.Test.YtpeaeminjbjlnaaDoorMl07
import Derived.Test.YtpeaeminjbjlnaaDoorMv08
import Derived.Test.YtpeaeminjbjlnaaDoorMl08
import Derived.Test.YtpeaeminjbjlnaaDoorMv13
import Derived.Test.YtpeaeminjbjlnaaDoorMv14
namespace Go.Proofs.YtpeaeminjbjlnaaDoor
open Go.RowKit
set_option linter.unusedVariables false

theorem matRel_snoc {M : List (List Int)} {k : Nat} (h : k < M.length) : (matRel M).take (k + 1) = (matRel M).take k ++ [matRow M.length M k] := by
  rw [← take_push (show k < (matRel M).length by rw [matRel_len]; exact h)]
  simp [matRel]
set_option maxRecDepth 100000 in
set_option maxHeartbeats 2000000 in
theorem rlMatrix_any (c : Nat) (u : Value) (M : List (List Int)) (w : World) (hu : MatV w u M) (hM : ∀ row ∈ M, row.length = c) (hm : M.length ≤ 24) (hc : c ≤ 24) :
    Calls Tryd.prog 210 #[mxV c u] w fun e w' => ∃ o vs, e = .returned (rlV M.length c o) ∧ OwnM w.heap.size w' o vs (matRel M) ∧ w.grownBy w' none := by
  obtain ⟨i0, hi, hz0, hz1, hz2⟩ := info_parts info_int
  have HI := Lib.hid hi; have HZ0 := Lib.hid hz0; have HZ1 := Lib.hid hz1; have HZ2 := Lib.hid hz2
  obtain ⟨ua, uc, rfl⟩ := hu.shape
  have HU := Lib.hid hu; have HMR := Lib.hid hM
  have hml' := matRel_len M
  unfold rlV mxV
  generalize hml : M.length = n at *
  have HN := Lib.hid hml
  have HML := Lib.hid hml'
  have HS0 := Lib.hid (((((Sep.start w).box #[.int .i64 c, .slice ua n uc] 39).box #[.int .i64 0, .int .i64 0, .slice none 0 0] 65).box #[.int .i64 n, .int .i64 c, .slice none 0 0] 65).nilM)
  simp only [show ∀ (W : World) o, (W.alloc o).heap.size = W.heap.size + 1 from fun W o => by simp] at HS0
  obtain ⟨q0, q1, _, _⟩ := bx HS0.out.s4.hd
  clear hu hM hml hi hz0 hz1 hz2 hml'
  go_enter Tryd.func210, Tryd.ntmps210
  go_wp2_with fail
  clear q0 q1
  go_loopw [16] (fun i wr => ∃ (k : Nat) (oa : Option Addr) (oc : Nat) (vs : List Value), k ≤ n ∧ i = .int .i64 k ∧ Sep wr [OM (.slice oa k oc) vs ((matRel M).take k), BxA (w.heap.size + 1 + 1) #[.int .i64 n, .int .i64 c, .slice oa k oc] 65, BxA (w.heap.size + 1) #[.int .i64 0, .int .i64 0, .slice none 0 0] 65, BxA w.heap.size #[.int .i64 c, .slice ua n uc] 39, KeepA w]) (fun i _ => n - (intOf i).toNat)
  case atStart => exact ⟨0, none, 0, [], by omega, rfl, HS0.out⟩
  case round =>
    obtain ⟨k, oa, oc, vs, hk, rfl, hs⟩ := hrel
    have HSX := Lib.hid hs
    have hg : w.grownBy wr none := hs.s5.hd
    clear hs
    by_cases hlt : k < n
    · have hkM : k < M.length := by rw [HN.out]; exact hlt
      obtain ⟨bb, bo, bcap, bml, br, brc, he, hcell, hrow⟩ := HU.out.rowK hg hkM
      cases he
      have hro := HMR.out _ (getD_mem hkM)
      rw [hro] at hcell hrow
      have hsn := matRel_snoc hkM
      rw [HN.out] at hsn
      have HSN := Lib.hid hsn
      have HPL := Lib.hid (show ((matRel M).take k).length = k by rw [List.length_take, HML.out]; omega)
      have HUL := Lib.hid (show (unitL n k).length = n by simp [unitL])
      have HRL := Lib.hid hro
      have HROW := Lib.hid hrow
      have HMX := Lib.hid (show unitL n k ++ M.getD k [] = matRow n M k from rfl)
      obtain ⟨b0, b1, _, _⟩ := bx HSX.out.s4.hd
      clear hrow hro hsn hg hkM
      generalize M.getD k [] = row at *
      go_wp2_with (
        at_make
        refine wpList_make_full _ rfl _ _ 24 rfl wr.heap.size 3 i0 (.int .i64 0) 1 Tryd.underlying24 HI.out HZ0.out HZ1.out _ _ _ _ n rfl rfl rfl rfl (by rw [HZ2.out]; omega) (by unfold maxLen; omega) (Nat.le_refl _) ?_
        intro w5 hown' hgr'
        rw [madeCells_int] at hown'
        have ho' : OwnInts wr.heap.size w5 (.slice (some ⟨wr.heap.size, 0, none⟩) n n) (List.replicate n 0) := by
          unfold OwnInts; rw [List.length_replicate]; exact hown'
        have hs5 := HSX.out.newI hgr' ho'
        have c5 := hs5.hd.cell (j := k) (by simp) (by simp; omega)
        have f5 := hs5.hd.free (by simp) k
        have h6 : Sep _ (OI _ (unitL n k) :: _) := (hs5.setI (by simp) k 1).dr
        have HS6 := Lib.hid h6
        have HR6 := Lib.hid (HROW.out.carry (show w.grownBy _ none from h6.tl.tl.tl.tl.tl.hd))
        obtain ⟨d0, d1, d2, d3, d4, d5⟩ := bx3 h6.s3.hd
        clear hown' hgr' ho' hs5 h6)
      go_region_law (first
        | (go_loud (refine step_app_intsS rfl (.tmp 30) (.tmp 31) rfl rfl rfl HS6.out HR6.out (by rw [HUL.out, HRL.out]; omega) ?_)
           intro a7 c7 w7 h7 _
           rw [HUL.out, HRL.out] at h7 ⊢
           have HS7 := Lib.hid h7
           obtain ⟨e0, e1, e2, e3, e4, e5⟩ := bx3 h7.s3.hd
           have z7 := fun o => cell_alloc e2 o
           clear h7)
        | (go_loud (refine step_app_rowS rfl (.tmp 29) (.tmp 33) rfl rfl rfl HS7.out (by rw [HPL.out]; omega) ?_)
           intro g8 c8 w8 h8
           rw [HPL.out] at h8 ⊢
           obtain ⟨x0, x1, x2, x3, x4, x5⟩ := bx3 h8.s2.hd
           have HS9 := Lib.hid ((h8.s2.setB3 (.slice (some ⟨g8, 0, none⟩) (k + 1) c8)).s2)
           clear h8))
      all_goals
        go_wp2
        go_roundw
        case rel => exact ⟨k + 1, _, _, _, by omega, by go_num, by rw [HSN.out, ← HMX.out]; exact HS9.out⟩
        case measure => simp [intOf]; omega
    · have hkn : k = n := by omega
      subst hkn
      have HALL := Lib.hid (show (matRel M).take k = matRel M from List.take_of_length_le (by rw [HML.out]; exact Nat.le_refl _))
      obtain ⟨a0, a1, a2, a3, a4, a5⟩ := bx3 HSX.out.s2.hd
      obtain ⟨b0, b1, b2, b3, b4, b5⟩ := bx3 HSX.out.s3.hd
      have HQ := Lib.hid (((HSX.out.s3.setB 0 (.int .i64 k)).setB 1 (.int .i64 c)).setB 2 (.slice oa k oc))
      clear hg
      go_wp2
      refine bodyPost_ret_by (v := .agg #[.int .i64 k, .int .i64 c, .slice oa k oc]) ?_ rfl ?_
      · simp [results, go_sem, *]
      · have h := HQ.out.s2.drop2.drop2.drop2
        rw [HALL.out] at h
        exact ⟨_, vs, rfl, h.mat, h.s2.hd⟩
end Go.Proofs.YtpeaeminjbjlnaaDoor

/-
  Drawn relations. Conditions: small sizes.
-/
namespace Go.Proofs.YtpeaeminjbjlnaaDoor
open Go.RowKit
set_option linter.unusedVariables false

theorem rlSide_any {N : Nat} (b : Nat) (n : Int) (w : World) (hc : Bd.Cur N w b n) (hn : n + 2 ≤ 1000000000000) :
    Calls Tryd.prog 152 #[.pointer (some ⟨b, 0, none⟩)] w (Bd.Drawn N (fun v => 0 ≤ v ∧ v ≤ 5) b (n + 2) w) := by
  have HC := Lib.hid hc
  clear hc
  go_enter Tryd.func152, Tryd.ntmps152
  go_wp2_with fail
  refine (Bd.among_new [(0 : Int), 1, 1, 2, 2, 2, 3, 3, 4, 5] _ _ _ _ HC.out (by decide) (by decide) hn).mono ?_
  rintro e w1 ⟨v, rfl, hv, c1, g1⟩
  have C1 := Lib.hid c1; have G1 := Lib.hid g1; have HV := Lib.hid hv; clear c1 g1 hv
  go_wp2
  go_ret
  exact ⟨_, rfl, by have h := HV.out; simp at h; omega, C1.out, G1.out⟩

/-- a drawn relation -/
def DRel (q N b : Nat) (n : Int) (w : World) (l r : Int) (e : Ending) (w' : World) : Prop :=
  ∃ o vs L, e = .returned (rlV l r o) ∧ OwnM w.heap.size w' o vs L ∧ L.length ≤ 24 ∧ RowsOk q (l + r).toNat L ∧ Bd.Cur N w' b n ∧ w.grownBy w' (some b)
theorem fin_rel {q N b s : Nat} {n m l r : Int} {w W : World} {o : Value} {vs : List Value} {L : List (List Int)} {cs : Array Value} {t : TypeId} (h : Sep W [OM o vs L, CA N b m, BxA s cs t, KeepX w b]) (hm : m ≤ n) (hl : L.length ≤ 24) (hll : RowsOk q (l + r).toNat L) (x y z : Value) :
    DRel q N b n w l r (.returned (rlV l r o)) (((W.setCell ⟨s, 0, none⟩ x).setCell ⟨s, 1, none⟩ y).setCell ⟨s, 2, none⟩ z) := by
  have h2 := (((h.s3.setB 0 x).setB 1 y).setB 2 z).tl
  exact ⟨o, vs, L, rfl, h2.matX, hl, hll, h2.s2.hd.mono hm, h2.s3.hd⟩

set_option maxRecDepth 100000 in
set_option maxHeartbeats 2000000 in
theorem drawnRel_any {N : Nat} (q : Nat) [NeZero q] (l r : Int) (b : Nat) (n : Int) (w : World) (hf : fldN q = true) (hq : q ≤ 1000) (hc : Bd.Cur N w b n) (hl0 : 0 ≤ l) (hr0 : 0 ≤ r) (hlr : l + r ≤ 24) (hn0 : 0 ≤ n) (hn : n + 20000 ≤ 1000000000000) :
    Calls Tryd.prog 154 #[.pointer (some ⟨b, 0, none⟩), .int .i64 q, .int .i64 l, .int .i64 r] w (DRel q N b (n + 20000) w l r) := by
  obtain ⟨a, rfl⟩ := Int.eq_ofNat_of_zero_le hl0
  obtain ⟨c, rfl⟩ := Int.eq_ofNat_of_zero_le hr0
  have hp1 := lt_p hf
  have HF := Lib.hid hf
  have HS := Lib.hid ((Sep.startX hc).box #[.int .i64 0, .int .i64 0, .slice none 0 0] 65)
  have hac : ((a + c : Nat) : Int) = (a : Int) + (c : Int) := by omega
  have hfd : ∀ (x y : Value) (W : World), (Instr.field 39 (.agg #[x, y]) 1).run Tryd.prog W = .ok y W := fun _ _ _ => rfl
  clear hc hf
  go_enter Tryd.func154, Tryd.ntmps154
  go_wp2_with fail
  refine (Bd.one_any 4 b _ _ HS.out.s2.hd (by omega) (by omega)).mono ?_
  rintro e w1 ⟨bv, rfl, c1, g1⟩
  have HS1 := Lib.hid (HS.out.s2.draw c1 g1)
  clear c1 g1
  cases bv
  · go_wp2_with (first
      | (go_at_call 131
         go_loud (refine (Bd.pick_any ((a : Int) + c + 1) b _ _ HS1.out.hd (by omega) (by omega)).mono ?_)
         rintro e w2 ⟨x, rfl, ⟨x0, x1⟩, c2, g2⟩
         obtain ⟨x, rfl⟩ := Int.eq_ofNat_of_zero_le x0
         have hxn : x ≤ a + c := by omega
         have HS2 := Lib.hid (HS1.out.draw c2 g2)
         clear c2 g2 x1)
      | (go_at_call 181
         have hmx := matrix_any q x (a + c) b _ w2 HS2.out.hd (by omega) (by omega) (by omega) (by omega) (by omega) (by omega)
         rw [hac] at hmx
         go_loud (refine hmx.mono ?_)
         rintro e w3 ⟨o, vs, L, rfl, ho, hl, hok, c3, g3⟩
         obtain ⟨oa, oc, hoe, _, _⟩ := own_form ho
         subst hoe
         have HS3 := Lib.hid (HS2.out.drawM c3 g3 ho)
         have HOK := Lib.hid hok; have HL := Lib.hid hl
         unfold mxV
         clear ho hl hok c3 g3 hmx)
      | (go_at_call 238
         go_loud (refine (rlOf_any q a c _ L _ HF.out hq HS3.out.hd.read HOK.out (by rw [HL.out]; omega) (by omega)).mono ?_)
         rintro e w4 ⟨o4, rfl, ⟨vs4, ho⟩, g4⟩
         have hred := reducedL_red HF.out HOK.out
         have HLE := Lib.hid hred.len_le
         have HRO := Lib.hid hred.1
         obtain ⟨oa4, oc4, hoe, _, _⟩ := own_form ho
         subst hoe
         have HS4 := Lib.hid (HS3.out.tl.newM g4 ho)
         obtain ⟨c0, c1, c2, f0, f1, f2⟩ := bx3 HS4.out.s3.hd
         unfold rlV
         generalize reducedL q (a + c) L = red at *
         clear hred ho g4))
    refine bodyPost_ret_by (v := .agg #[.int .i64 a, .int .i64 c, .slice oa4 red.length oc4]) ?_ rfl ?_
    · simp [results, go_sem, *]
    · exact fin_rel HS4.out (by omega) (Nat.le_trans HLE.out (by omega)) (by rw [show ((a : Int) + (c : Int)).toNat = a + c by omega]; exact HRO.out) _ _ _
  · go_wp2_with (first
      | (go_at_call 181
         go_loud (refine (matrix_any q a c b _ w1 HS1.out.hd (by omega) (by omega) (by omega) (by omega) (by omega) (by omega)).mono ?_)
         rintro e w3 ⟨o, vs, L, rfl, ho, hl, hok, c3, g3⟩
         obtain ⟨oa, oc, hoe, _, _⟩ := own_form ho
         subst hoe
         have HS3 := Lib.hid (HS1.out.drawM c3 g3 ho)
         have HOK := Lib.hid hok; have HL := Lib.hid hl
         unfold mxV
         clear ho hl hok c3 g3)
      | (go_at_call 210
         go_loud (refine (rlMatrix_any c _ L _ HS3.out.hd.read (fun row hr => (HOK.out row hr).1) (by rw [HL.out]; omega) (by omega)).mono ?_)
         rintro e w4 ⟨o4, vs4, rfl, ho, g4⟩
         have hmo := matRel_ok (p := q) hp1 HOK.out
         have hml := matRel_len L
         rw [HL.out] at hmo hml ⊢
         have HRO := Lib.hid hmo; have HML := Lib.hid hml
         obtain ⟨oa4, oc4, hoe, _, _⟩ := own_form ho
         subst hoe
         have HS4 := Lib.hid (HS3.out.tl.newM g4 ho)
         obtain ⟨c0, c1, c2, f0, f1, f2⟩ := bx3 HS4.out.s3.hd
         unfold rlV
         generalize matRel L = red at *
         clear ho g4 hmo hml))
    refine bodyPost_ret_by (v := .agg #[.int .i64 a, .int .i64 c, .slice oa4 red.length oc4]) ?_ rfl ?_
    · simp [results, go_sem, *]
    · exact fin_rel HS4.out (by omega) (by rw [HML.out]; omega) (by rw [show ((a : Int) + (c : Int)).toNat = a + c by omega]; exact HRO.out) _ _ _
end Go.Proofs.YtpeaeminjbjlnaaDoor

/-
  The specification's copies, zero and identity matrices. Conditions: lengths are small.
-/
import Derived.Test.YtpeaeminjbjlnaaDoorMv07
namespace Go.Proofs.YtpeaeminjbjlnaaDoor
open Go.RowKit
set_option linter.unusedVariables false

theorem l1Own_any (u : Value) (ys : List Int) (w : World) (hu : IntsV w u ys) (hl : ys.length ≤ 1000000) :
    Calls Tryd.prog 217 #[u] w fun e w' => ∃ v, e = .returned v ∧ OwnInts w.heap.size w' v ys ∧ w.grownBy w' none := by
  have HU := Lib.hid hu
  obtain ⟨ua, ucap, rfl, hx⟩ := hu
  clear hx
  go_enter Tryd.func217, Tryd.ntmps217
  go_wp2_with (at_builtin; go_loud (refine app_ints rfl _ _ rfl rfl rfl (HU.out.carry (grownBy_alloc _ _ _)) (OwnInts.empty (Nat.le_refl _) rfl) (by simp) (by simp; omega) ?_); intro v' w1 hown' hbel')
  have H1 := Lib.hid hown'; have H2 := Lib.hid hbel'
  clear hown' hbel'
  go_wp2
  go_ret
  exact ⟨v', rfl, by have := H1.out; simpa using this, grown_of_below (((Below.refl _ _).alloc (Nat.le_refl _) _).trans H2.out)⟩

theorem nils_own {B n : Nat} {w : World} {v : Value} (h : w.ownsRow B 24 1 v n (List.replicate n nilS)) : OwnM B w v (List.replicate n nilS) (List.replicate n []) := by
  have g1 : ∀ i, (List.replicate n nilS).getD i nilS = nilS := by
    intro i
    rw [List.getD_eq_getElem?_getD]
    rcases Nat.lt_or_ge i n with hi | hi
    · rw [List.getElem?_replicate, if_pos hi]; rfl
    · rw [List.getElem?_eq_none (by simpa using hi)]; rfl
  have g2 : ∀ i, (List.replicate n ([] : List Int)).getD i [] = [] := by
    intro i
    rw [List.getD_eq_getElem?_getD]
    rcases Nat.lt_or_ge i n with hi | hi
    · rw [List.getElem?_replicate, if_pos hi]; rfl
    · rw [List.getElem?_eq_none (by simpa using hi)]; rfl
  refine ⟨by simp, by rw [List.length_replicate]; exact h, fun i => ?_, fun i j _ k hk => ?_⟩
  · rw [g1, g2]; exact OwnInts.nil B w
  · rw [g1] at hk; exact absurd hk nil_hits

def zeroCells (n : Nat) : Array Value := madeCells (Value.int .i64 0).cells (n * 1)
theorem make_row (n : Nat) (hn : n ≤ 1000000) (w : World) : (Instr.makeSlice 24 (.int .i64 n) (.int .i64 n)).run Tryd.prog w = .ok (.slice (some ⟨w.heap.size, 0, none⟩) n n) (w.alloc (.cells (zeroCells n) 3)) := by
  obtain ⟨i0, hi, hz0, hz1, hz2⟩ := info_parts info_int
  have h := run_make (P := Tryd.prog) w 24 3 i0 (.int .i64 0) Tryd.underlying24 hi hz0 .i64 .i64 n n (by omega) (Int.le_refl _) (by rw [hz2]; omega) (by omega)
  rw [hz1] at h
  simp only [Int.toNat_natCast] at h
  exact h
theorem row_made {B : Nat} (n : Nat) (hn : n ≤ 1000000) (w : World) (hB : B ≤ w.heap.size) : OwnInts B (w.alloc (.cells (zeroCells n) 3)) (.slice (some ⟨w.heap.size, 0, none⟩) n n) (List.replicate n 0) := by
  have h := World.ownsRow_lit (e := 3) (base := B) (size := 1) w (zeroCells n) n hB (by unfold maxLen; omega) (size_madeCells _ _)
  unfold zeroCells at h
  rw [madeCells_int] at h
  unfold OwnInts zeroCells
  rw [List.length_replicate]
  exact h

theorem mxZero_any (m n : Nat) (w : World) (hm : m ≤ 1000) (hn : n ≤ 1000) :
    Calls Tryd.prog 277 #[.int .i64 m, .int .i64 n] w fun e w' => ∃ o vs, e = .returned (mxV n o) ∧ OwnM w.heap.size w' o vs (List.replicate m (List.replicate n 0)) ∧ w.grownBy w' none := by
  obtain ⟨i0, hi, hz0, hz1, hz2⟩ := info_parts info_ints
  have HI := Lib.hid hi; have HZ0 := Lib.hid hz0; have HZ1 := Lib.hid hz1; have HZ2 := Lib.hid hz2
  clear hi hz0 hz1 hz2
  unfold mxV
  go_enter Tryd.func277, Tryd.ntmps277
  go_wp2_with (
    at_make
    refine wpList_make_full _ rfl _ _ 37 rfl w.heap.size 24 i0 (.slice none 0 0) 1 Tryd.underlying37 HI.out HZ0.out HZ1.out _ _ _ _ m rfl rfl rfl rfl (by rw [HZ2.out]; omega) (by unfold maxLen; omega) (by simp) ?_
    intro w1 hown' hgr'
    have H1 := Lib.hid hown'; have H2 := Lib.hid hgr'
    clear hown' hgr')
  have hsz : (w.alloc (.cells #[.int .i64 0, .slice none 0 0] 39)).heap.size = w.heap.size + 1 := by simp
  rw [hsz] at H1
  have hb1 := H2.out.size
  have e0 := (H2.out.block w.heap.size (by simp) (by simp)).trans (alloc_heap_new w _)
  have hz : (madeCells (Value.slice none 0 0).cells (m * 1)).toList = List.replicate m nilS := by rw [Nat.mul_one]; exact toList_madeCells_one _ _
  have ho := H1.out
  rw [hz] at ho
  have ho1 := (nils_own ho).carry (grownBy_alloc w1 (.cells #[.int .i64 n, .slice (some ⟨w.heap.size + 1, 0, none⟩) m m] 39) none)
  have HO1 := Lib.hid ho1
  have hlt := (World.ownsRow.lt ho (w.heap.size + 1) rfl).2
  have e0x := (alloc_heap_old w1 (.cells #[.int .i64 n, .slice (some ⟨w.heap.size + 1, 0, none⟩) m m] 39) w.heap.size (by omega)).trans e0
  have ecx := alloc_heap_new w1 (.cells #[.int .i64 n, .slice (some ⟨w.heap.size + 1, 0, none⟩) m m] 39)
  have hsx : (w1.alloc (.cells #[.int .i64 n, .slice (some ⟨w.heap.size + 1, 0, none⟩) m m] 39)).heap.size = w1.heap.size + 1 := by simp
  have HGX := Lib.hid (((grownBy_alloc w (.cells #[.int .i64 0, .slice none 0 0] 39) none).trans H2.out).trans (grownBy_alloc w1 (.cells #[.int .i64 n, .slice (some ⟨w.heap.size + 1, 0, none⟩) m m] 39) none))
  have hmk := make_row n (by omega)
  have HE0 := Lib.hid e0x; have HEC := Lib.hid ecx
  clear ho1 ho hz H1 H2 e0 hb1 hsz e0x ecx HI HZ0 HZ1 HZ2
  generalize hwx : w1.alloc (.cells #[.int .i64 n, .slice (some ⟨w.heap.size + 1, 0, none⟩) m m] 39) = wx at *
  clear hwx
  generalize hbe : w.heap.size = b at *
  have HBE := Lib.hid hbe
  clear hbe
  generalize hce : w1.heap.size = c at *
  clear hce
  have hcb : c ≠ b + 1 := by omega
  go_loopw [14] (fun i wr => ∃ (k : Nat) (vs : List Value) (L : List (List Int)), k ≤ m ∧ i = .int .i64 k ∧ OwnM b wr (.slice (some ⟨b + 1, 0, none⟩) m m) vs L ∧ L.length = m ∧ (∀ j, j < k → L.getD j [] = List.replicate n 0) ∧ (∀ j, k ≤ j → L.getD j [] = []) ∧ Only (· = b + 1) wx wr) (fun i _ => m - (intOf i).toNat)
  case atStart => exact ⟨0, _, _, by omega, rfl, HO1.out, by simp, fun _ h => absurd h (by omega), fun j _ => by
    rw [List.getD_eq_getElem?_getD]
    rcases Nat.lt_or_ge j m with hi | hi
    · rw [List.getElem?_replicate, if_pos hi]; rfl
    · rw [List.getElem?_eq_none (by simpa using hi)]; rfl, Only.refl _ _⟩
  case round =>
    obtain ⟨k, vs, L, hk, rfl, ho, hl, h1, h2, hon⟩ := hrel
    have HO := Lib.hid ho; have HL := Lib.hid hl; have H1 := Lib.hid h1; have H2 := Lib.hid h2; have HON := Lib.hid hon
    have hszr := hon.size
    have ec := (hon.block c (by omega) hcb).trans HEC.out
    have c0 := cell_blk ec 0
    have c1 := cell_blk ec 1
    simp only [List.getElem?_toArray, List.getElem?_cons_zero, List.getElem?_cons_succ] at c0 c1
    by_cases hlt2 : k < m
    · have hkL : k < L.length := by rw [HL.out]; exact hlt2
      have hod := ho.carry (grownBy_alloc wr (.cells (zeroCells n) 3) none)
      have hcell := hod.cell hl.symm hkL
      have hfree := hod.free hl.symm k
      have z0 := fun o => cell_alloc (w := wr) c0 o
      have z1 := fun o => cell_alloc (w := wr) c1 o
      have hrow := row_made (B := wr.heap.size) n (by omega) wr (Nat.le_refl _)
      have HP := Lib.hid (hod.putNew hl.symm hkL (hrow.base (by omega)) (fun j => fresh_apart ho hrow j))
      have HOG := Lib.hid (Only.of_grown (S := (· = b + 1)) (grownBy_alloc wr (.cells (zeroCells n) 3) none) (by simp))
      generalize vs.getD k nilS = old at hcell
      clear ho hl h1 h2 hon ec hod hrow hkL
      generalize zeroCells n = Z at *
      go_wp2_with fail
      go_region
      go_wp2
      go_roundw
      case rel =>
        have hkL : k < L.length := by rw [HL.out]; exact hlt2
        refine ⟨k + 1, _, _, by omega, by go_num, HP.out.1.only (Only.drew (fun _ => False) _) (fun _ _ h => h), by rw [List.length_set]; exact HL.out, fun j hj => ?_, fun j hj => ?_, ((HON.out.trans HOG.out).trans HP.out.2).trans (Only.drew _ _)⟩
        · rw [getD_setL hkL]
          split
          · rfl
          · exact H1.out j (by omega)
        · rw [getD_setL hkL, if_neg (by omega)]
          exact H2.out j (by omega)
      case measure => simp [intOf]; omega
    · have hfin : L = List.replicate m (List.replicate n 0) := by
        refine List.ext_getElem (by rw [HL.out]; simp) fun j h1' h2' => ?_
        have := H1.out j (by have := HL.out; omega)
        rw [List.getD_eq_getElem?_getD, List.getElem?_eq_getElem h1', Option.getD_some] at this
        rw [this]; simp
      have HF := Lib.hid hfin
      have e0 := (hon.block b (by omega) (by omega)).trans HE0.out
      have r0 := cell_blk e0 0
      have r1 := cell_blk e0 1
      have f0 := free_blk e0 0
      have f1 := free_blk e0 1
      simp only [List.getElem?_toArray, List.getElem?_cons_zero, List.getElem?_cons_succ] at r0 r1
      have HFN := Lib.hid (foot_ne e0 ho)
      clear ho hl h1 h2 ec hfin e0
      go_wp2
      refine bodyPost_ret_by (v := .agg #[.int .i64 n, .slice (some ⟨b + 1, 0, none⟩) m m]) ?_ rfl ?_
      · simp [results, go_sem, *]
      · have o5 := one_set (w := wr) b (.int .i64 n) (.slice (some ⟨b + 1, 0, none⟩) m m)
        refine ⟨_, vs, rfl, ?_, ?_⟩
        · rw [← HF.out]
          exact (HO.out.only o5 fun q hq hq' => by have e : q = b := hq'; rw [e] at hq; exact HFN.out hq).base (by have := HBE.out; omega)
        · refine grown_of_below ((Below.grown (Below.refl _ w) HGX.out (Nat.le_refl _) (by simp)).trans ((hon.below (B := w.heap.size) HGX.out.size fun q hq => by rw [HBE.out]; omega).trans (o5.below (Nat.le_trans HGX.out.size hszr) fun q hq => by rw [HBE.out]; omega)))

theorem unit_step {n k : Nat} (hk : k < n) : (List.replicate n (0 : Int)).set k 1 = unitL n k := rfl

theorem mxId_any (n : Nat) (w : World) (hn : n ≤ 1000) :
    Calls Tryd.prog 256 #[.int .i64 n] w fun e w' => ∃ o vs, e = .returned (mxV n o) ∧ OwnM w.heap.size w' o vs (idL n) ∧ w.grownBy w' none := by
  have HZ := Lib.hid (mxZero_any n n (w.alloc (.cells #[.int .i64 0, .slice none 0 0] 39)) hn hn)
  unfold mxV at *
  go_enter Tryd.func256, Tryd.ntmps256
  go_wp2_with (
    go_at_call 277
    refine HZ.out.mono ?_
    rintro e w1 ⟨o, vs, rfl, ho, hg⟩
    obtain ⟨oa, oc, hoe, hx⟩ := ho.read
    clear hx
    simp only [List.length_replicate] at hoe
    subst hoe
    have HO := Lib.hid ho; have HG := Lib.hid hg
    clear ho hg)
  have hsz : (w.alloc (.cells #[.int .i64 0, .slice none 0 0] 39)).heap.size = w.heap.size + 1 := by simp
  have hb1 := HG.out.size
  have e0 := (HG.out.block w.heap.size (by simp) (by simp)).trans (alloc_heap_new w _)
  have e0x := (alloc_heap_old w1 (.cells #[.int .i64 n, .slice oa n oc] 39) w.heap.size (by omega)).trans e0
  have ecx := alloc_heap_new w1 (.cells #[.int .i64 n, .slice oa n oc] 39)
  have hsx : (w1.alloc (.cells #[.int .i64 n, .slice oa n oc] 39)).heap.size = w1.heap.size + 1 := by simp
  have HGX := Lib.hid (((grownBy_alloc w (.cells #[.int .i64 0, .slice none 0 0] 39) none).trans HG.out).trans (grownBy_alloc w1 (.cells #[.int .i64 n, .slice oa n oc] 39) none))
  have ho1 := HO.out.carry (grownBy_alloc w1 (.cells #[.int .i64 n, .slice oa n oc] 39) none)
  rw [hsz] at ho1 hb1
  have HO1 := Lib.hid ho1
  have HE0 := Lib.hid e0x; have HEC := Lib.hid ecx
  clear ho1 HO HG e0 hsz e0x ecx HZ
  generalize hwx : w1.alloc (.cells #[.int .i64 n, .slice oa n oc] 39) = wx at *
  clear hwx
  generalize hbe : w.heap.size = b at *
  have HBE := Lib.hid hbe
  clear hbe
  generalize hce : w1.heap.size = c at *
  clear hce
  go_loopw [4] (fun i wr => ∃ (k : Nat) (L : List (List Int)), k ≤ n ∧ i = .int .i64 k ∧ OwnM (b + 1) wr (.slice oa n oc) vs L ∧ L.length = n ∧ (∀ j, j < k → L.getD j [] = unitL n j) ∧ (∀ j, k ≤ j → j < n → L.getD j [] = List.replicate n 0) ∧ wr.heap[c]? = some (.cells #[.int .i64 n, .slice oa n oc] 39 (0, 0)) ∧ Below (b + 1) wx wr) (fun i _ => n - (intOf i).toNat)
  case atStart => exact ⟨0, _, by omega, rfl, HO1.out, by simp, fun _ h => absurd h (by omega), fun j _ h => by
    rw [List.getD_eq_getElem?_getD, List.getElem?_replicate, if_pos h]; rfl, HEC.out, Below.refl _ _⟩
  case round =>
    obtain ⟨k, L, hk, rfl, ho, hl, h1, h2, ec, hbel⟩ := hrel
    have HO := Lib.hid ho; have HL := Lib.hid hl; have H1 := Lib.hid h1; have H2 := Lib.hid h2; have HB := Lib.hid hbel; have HC := Lib.hid ec
    have hszr := hbel.size
    have c0 := cell_blk ec 0
    have c1 := cell_blk ec 1
    simp only [List.getElem?_toArray, List.getElem?_cons_zero, List.getElem?_cons_succ] at c0 c1
    by_cases hlt2 : k < n
    · have hkL : k < L.length := by rw [HL.out]; exact hlt2
      have hkz := h2 k (Nat.le_refl _) hlt2
      obtain ⟨g, cap, hve, hg0, hg1, hhit⟩ := ho.head (by intro h; rw [h] at hkL; simp at hkL)
      rw [hl] at hve
      simp only [Value.slice.injEq, true_and] at hve
      obtain ⟨rfl, rfl⟩ := hve
      have hle : (L.getD k []).length = n := by rw [hkz]; simp
      obtain ⟨gi, ci, a1, a2, a3, a4, d1, d2, d3, d4⟩ := ho.elemAt hl.symm hkL (j := k) (by rw [hle]; exact hlt2)
      have D4 := Lib.hid d4
      rw [hle] at d1
      have hgc : gi ≠ c := by
        intro e
        subst e
        exact foot_ne ec ho (Foot.at a4)
      have A1 := Lib.hid a1
      generalize at2 L k k = z at d2
      clear ho hl h1 h2 ec hbel hg0 hg1 hhit hkL hle d4 a1 a4
      go_wp2
      go_roundw
      case rel =>
        have hkL : k < L.length := by rw [HL.out]; exact hlt2
        refine ⟨k + 1, _, by omega, by go_num, (D4.out 1).1, by rw [List.length_set]; exact HL.out, fun j hj => ?_, fun j hj hj2 => ?_, ((D4.out 1).2.block c (lt_of_blk HC.out) (fun e => hgc e.symm)).trans HC.out, HB.out.trans ((D4.out 1).2.below (by omega) fun q hq => by rw [hq]; exact A1.out)⟩
        · rw [getD_setL hkL]
          split
          · next h => rw [h, hkz]; rfl
          · exact H1.out j (by omega)
        · rw [getD_setL hkL, if_neg (by omega)]
          exact H2.out j (by omega) hj2
      case measure => simp [intOf]; omega
    · have hfin : L = idL n := by
        refine List.ext_getElem (by rw [HL.out, idL_len]) fun j h1' h2' => ?_
        have := H1.out j (by have := HL.out; omega)
        rw [List.getD_eq_getElem?_getD, List.getElem?_eq_getElem h1', Option.getD_some] at this
        rw [this]; simp [idL]
      have HF := Lib.hid hfin
      have e0 := (hbel.block b (by omega)).trans HE0.out
      have r0 := cell_blk e0 0
      have r1 := cell_blk e0 1
      have f0 := free_blk e0 0
      have f1 := free_blk e0 1
      simp only [List.getElem?_toArray, List.getElem?_cons_zero, List.getElem?_cons_succ] at r0 r1
      clear ho hl h1 h2 ec hfin e0 hbel
      go_wp2
      refine bodyPost_ret_by (v := .agg #[.int .i64 n, .slice oa n oc]) ?_ rfl ?_
      · simp [results, go_sem, *]
      · have o5 := one_set (w := wr) b (.int .i64 n) (.slice oa n oc)
        refine ⟨_, vs, rfl, ?_, ?_⟩
        · rw [← HF.out]
          exact (HO.out.only o5 fun q hq hq' => by have := (HO.out.lt hq).1; omega).base (by have := HBE.out; omega)
        · exact grown_of_below ((Below.grown (Below.refl _ w) HGX.out (Nat.le_refl _) (by simp)).trans ((HB.out.mono (by rw [HBE.out]; omega)).trans (o5.below (Nat.le_trans HGX.out.size hszr) fun q hq => by rw [HBE.out]; omega)))

theorem copy_start (w : World) (c1 : Array Value) (n : Int) :
    let w0 := ((w.alloc (.cells c1 39)).alloc (.cells #[.int .i64 0, .slice none 0 0] 39)).alloc (.cells #[.int .i64 n, .slice none 0 0] 39)
    w0.heap[w.heap.size]? = some (.cells c1 39 (0, 0)) ∧ w0.heap[w.heap.size + 1]? = some (.cells #[.int .i64 0, .slice none 0 0] 39 (0, 0)) ∧
    w0.heap[w.heap.size + 1 + 1]? = some (.cells #[.int .i64 n, .slice none 0 0] 39 (0, 0)) ∧ OwnM (w.heap.size + 1 + 1) w0 (.slice none 0 0) [] [] ∧ w.grownBy w0 none ∧ w0.heap.size = w.heap.size + 1 + 1 + 1 := by
  intro w0
  have hb := blk3 w (.cells c1 39) (.cells #[.int .i64 0, .slice none 0 0] 39) (.cells #[.int .i64 n, .slice none 0 0] 39) (grownBy_refl _ none)
  exact ⟨hb.1, hb.2.1, hb.2.2.1, OwnM.start (World.ownsRow_nil _ _ _ _), ((grownBy_alloc _ _ none).trans (grownBy_alloc _ _ none)).trans (grownBy_alloc _ _ none), by simp [w0]⟩

set_option maxRecDepth 100000 in
set_option maxHeartbeats 1000000 in
theorem mxCopy_any (n : Int) (u : Value) (A : List (List Int)) (w : World) (hu : MatV w u A) (ha : A.length ≤ 1000) (hall : ∀ row ∈ A, row.length ≤ 1000) :
    Calls Tryd.prog 255 #[mxV n u] w fun e w' => ∃ o vs, e = .returned (mxV n o) ∧ OwnM w.heap.size w' o vs A ∧ w.grownBy w' none := by
  obtain ⟨ua, uc, rfl⟩ := hu.shape
  have HU := Lib.hid hu; have HALL := Lib.hid hall
  clear hu hall
  unfold mxV at *
  generalize hla : A.length = la at *
  have HLA := Lib.hid hla
  clear hla
  go_enter Tryd.func255, Tryd.ntmps255
  go_wp2_with fail
  have hw0 := copy_start w #[.int .i64 n, .slice ua la uc] n
  generalize ((w.alloc (.cells #[.int .i64 n, .slice ua la uc] 39)).alloc (.cells #[.int .i64 0, .slice none 0 0] 39)).alloc (.cells #[.int .i64 n, .slice none 0 0] 39) = w0 at *
  obtain ⟨g0, g1, g2, gow, ggr, gsz⟩ := hw0
  have G0 := Lib.hid g0; have G1 := Lib.hid g1; have G2 := Lib.hid g2; have GO := Lib.hid gow; have GG := Lib.hid ggr; have GS := Lib.hid gsz
  clear g0 g1 g2 gow ggr gsz
  generalize hbe : w.heap.size = b at *
  have HBE := Lib.hid hbe
  clear hbe
  go_loopw [12] (fun i wr => ∃ (k : Nat) (oa : Option Addr) (oc : Nat) (vs : List Value), k ≤ la ∧ i = .int .i64 k ∧ wr.heap[b + 1 + 1]? = some (.cells #[.int .i64 n, .slice oa k oc] 39 (0, 0)) ∧
      OwnM (b + 1 + 1) wr (.slice oa k oc) vs (A.take k) ∧ Below (b + 1 + 1) w0 wr) (fun i _ => la - (intOf i).toNat)
  case atStart => exact ⟨0, _, _, [], by omega, rfl, G2.out, GO.out, Below.refl _ _⟩
  case round =>
    obtain ⟨k, oa, oc, vs, hk, rfl, h4, hown, hbel⟩ := hrel
    have H4 := Lib.hid h4; have HO := Lib.hid hown; have HB := Lib.hid hbel
    have hszr := hbel.size
    have hgr : w.grownBy wr none := grown_of_below ((Below.grown (Below.refl _ w) GG.out (Nat.le_refl _) (by simp)).trans (hbel.mono (by rw [HBE.out]; omega)))
    have HGR := Lib.hid hgr
    clear hown hbel
    by_cases hlt : k < la
    · have hka : k < A.length := by rw [HLA.out]; exact hlt
      obtain ⟨d, r, c, hae, hs, hd, hcell, hrow⟩ := HU.out.row hka
      have hrl := HALL.out _ (List.getElem_mem hka)
      have hcell2 := (World.cell?_of_block (w := w) (a := ⟨d.block, d.off + k, none⟩) (hgr.block d.block hd (by simp))).trans hcell
      subst hae
      obtain ⟨db, dof, _⟩ := d
      simp only at hs hcell2
      subst hs
      have HN := Lib.hid (take_push hka).symm
      have hlk : (A.take k).length = k := by rw [List.length_take, HLA.out]; omega
      have HLK := Lib.hid hlk
      have HC := Lib.hid fun w' (h : w.grownBy w' none) => l1Own_any _ A[k] w' (hrow.carry h) (by omega)
      have c41 := cell_blk h4 1
      simp only [List.getElem?_toArray, List.getElem?_cons_zero, List.getElem?_cons_succ] at c41
      have hgd : w.grownBy wr.drew none := ⟨hgr.os, hgr.tape, hgr.output, hgr.size, hgr.block⟩
      have HGD := Lib.hid hgd
      have hszr2 : b + 1 + 1 ≤ wr.drew.heap.size := by have := GS.out; show _ ≤ wr.heap.size; omega
      clear hlk hrow hcell hgd hgr h4 hrl
      generalize hrw : A[k] = row at *
      clear hrw
      generalize row.length = rl at *
      go_wp2_with fail
      go_region_law
        (first
        | (go_simp
           go_at_call 217
           refine (HC.out _ HGD.out).mono ?_
           rintro e w2 ⟨o, rfl, ho, hg⟩
           obtain ⟨oa2, oc2, hoe⟩ := own_shape ho
           subst hoe
           have A1 := Lib.hid (after_row (HO.out.only (Only.drew (fun _ => False) wr) (fun _ _ h => h)) hszr2 (ho) hg)
           have HG2 := Lib.hid hg
           have q4 := (hg.block (b + 1 + 1) (lt_of_blk (w := wr.drew) H4.out) (by simp)).trans H4.out
           have q41 := cell_blk q4 1
           simp only [List.getElem?_toArray, List.getElem?_cons_zero, List.getElem?_cons_succ] at q41
           have z41 := fun o => cell_alloc q41 o
           clear ho hg q4)
        | (refine step_app_row rfl _ _ rfl rfl rfl A1.out.1 A1.out.2.1 A1.out.2.2.1 A1.out.2.2.2 (by rw [HLK.out]; omega) ?_
           intro g3 vc3 w3 hown' hon'
           rw [HLK.out] at hown' ⊢
           have HO3 := Lib.hid hown'; have HN3 := Lib.hid hon'
           have h43 := times_keep H4.out HG2.out A1.out.1 hon'
           have H43 := Lib.hid h43
           have c43 := cell_blk h43 1
           have f43 := free_blk h43 1
           simp only [List.getElem?_toArray, List.getElem?_cons_zero, List.getElem?_cons_succ] at c43
           clear hown' hon' h43))
      all_goals
        have FIN := Lib.hid (times_fin (x := .slice (some ⟨g3, 0, none⟩) (k + 1) vc3) H43.out HO3.out)
        have FB := Lib.hid (times_below HB.out hszr2 HG2.out A1.out.1 HN3.out (b4 := b + 1 + 1) (x := .slice (some ⟨g3, 0, none⟩) (k + 1) vc3) (by omega))
        clear c43 f43 q41 z41
        go_wp2
        go_roundw
        case rel => exact ⟨k + 1, _, _, _, by omega, by go_num, FIN.out.1, by rw [HN.out]; exact FIN.out.2, FB.out⟩
        case measure => simp [intOf]; omega
    · have hkm : k = la := by omega
      subst hkm
      have hall : A.take k = A := List.take_of_length_le (by rw [HLA.out]; exact Nat.le_refl _)
      have HAL2 := Lib.hid hall
      have e2 := (HB.out.block (b + 1) (by omega)).trans G1.out
      have c40 := cell_blk h4 0
      have c41 := cell_blk h4 1
      have c20 := cell_blk e2 0
      have c21 := cell_blk e2 1
      have f20 := free_blk e2 0
      have f21 := free_blk e2 1
      simp only [List.getElem?_toArray, List.getElem?_cons_zero, List.getElem?_cons_succ] at c40 c41 c20 c21
      clear h4 hgr hall e2
      go_wp2
      refine bodyPost_ret_by (v := .agg #[.int .i64 n, .slice oa k oc]) ?_ rfl ?_
      · simp [results, go_sem, *]
      · have o5 := one_set (w := wr) (b + 1) (.int .i64 n) (.slice oa k oc)
        refine ⟨_, vs, rfl, ?_, ?_⟩
        · have := HO.out
          rw [HAL2.out] at this
          exact (this.only o5 fun q hq hq' => by have := (HO.out.lt (by exact hq)).1; omega).base (by have := HBE.out; omega)
        · exact grown_of_below ((Below.grown (Below.refl _ w) HGR.out (Nat.le_refl _) (by simp)).trans (o5.below HGR.out.size fun q hq => by rw [HBE.out]; omega))

end Go.Proofs.YtpeaeminjbjlnaaDoor

/-
  Transposed lists, orthogonal lists, coordinates. Conditions: the sizes are small.
-/
namespace Go.Proofs.YtpeaeminjbjlnaaDoor
open Go.RowKit
set_option linter.unusedVariables false

def colL (L : List (List Int)) (j : Nat) : List Int := L.map fun row => row.getD j 0
theorem colL_getD {L : List (List Int)} {i j : Nat} (hi : i < L.length) : (colL L j).getD i 0 = at2 L i j := by
  unfold colL at2
  rw [List.getD_eq_getElem?_getD, List.getElem?_map, List.getElem?_eq_getElem hi, List.getD_eq_getElem?_getD (l := L), List.getElem?_eq_getElem hi]
  rfl
theorem rep_getD {α : Type} {n j : Nat} (x d : α) (h : j < n) : (List.replicate n x).getD j d = x := by
  rw [List.getD_eq_getElem?_getD, List.getElem?_replicate, if_pos h]; rfl

set_option maxRecDepth 100000 in
set_option maxHeartbeats 1000000 in
theorem transposed_any (v : Value) (L : List (List Int)) (n : Nat) (w : World) (hv : MatV w v L) (hL : ∀ row ∈ L, row.length = n) (hm : L.length ≤ 1000) (hn : n ≤ 1000) :
    Calls Tryd.prog 183 #[v, .int .i64 n] w fun e w' => ∃ o vs, e = .returned o ∧ OwnM w.heap.size w' o vs (transL L n) ∧ w.grownBy w' none := by
  obtain ⟨i0, hi, hz0, hz1, hz2⟩ := info_parts info_ints
  have HI := Lib.hid hi; have HZ0 := Lib.hid hz0; have HZ1 := Lib.hid hz1; have HZ2 := Lib.hid hz2
  have HV := Lib.hid fun w' (hg : w.grownBy w' none) => hv.carry hg
  have HL := Lib.hid hL
  obtain ⟨a, c, rfl⟩ := hv.shape
  clear hi hz0 hz1 hz2 hv hL
  generalize hlen : L.length = m at *
  have HLEN := Lib.hid hlen
  clear hlen
  go_enter Tryd.func183, Tryd.ntmps183
  go_wp2_with (
    at_make
    refine wpList_make_full _ rfl _ _ 37 rfl w.heap.size 24 i0 (.slice none 0 0) 1 Tryd.underlying37 HI.out HZ0.out HZ1.out _ _ _ _ n rfl rfl rfl rfl (by rw [HZ2.out]; omega) (by unfold maxLen; omega) (Nat.le_refl _) ?_
    intro w1 hown' hgr'
    have H1 := Lib.hid hown'; have H2 := Lib.hid hgr'
    clear hown' hgr')
  have hz : (madeCells (Value.slice none 0 0).cells (n * 1)).toList = List.replicate n nilS := by rw [Nat.mul_one]; exact toList_madeCells_one _ _
  have ho := H1.out
  rw [hz] at ho
  have HS := Lib.hid ((Sep.start w).newM H2.out (nils_own ho))
  clear hz ho H1 H2 HI HZ0 HZ1 HZ2
  generalize w.heap.size = g at *
  go_loopw [13] (fun i wr => ∃ (j : Nat) (vs : List Value) (T : List (List Int)), j ≤ n ∧ i = .int .i64 j ∧ T.length = n ∧ (∀ q, q < j → T.getD q [] = colL L q) ∧ Sep wr [OM (.slice (some ⟨g, 0, none⟩) n n) vs T, KeepA w]) (fun i _ => n - (intOf i).toNat)
  case atStart => exact ⟨0, _, _, by omega, rfl, by simp, fun _ h => absurd h (by omega), HS.out⟩
  case round =>
    obtain ⟨j, vs, T, hj, rfl, hl, hq, hsep⟩ := hrel
    have HQ := Lib.hid hq; have HSP := Lib.hid hsep; have HTL := Lib.hid hl
    clear hl hq hsep
    by_cases hlt : j < n
    · have hZ := zeros_any m wr (by omega)
      have HZ := Lib.hid hZ
      clear hZ
      go_wp2_with (
        go_at_call 243
        with_reducible refine HZ.out.mono ?_
        rintro e w2 ⟨u, rfl, hu, hg⟩
        obtain ⟨ua, uc, rfl⟩ := own_shape hu
        simp only [List.length_replicate] at hu ⊢
        have hs2 := HSP.out.newI hg hu
        have hcell := hs2.s2.hd.cell HTL.out.symm (show j < T.length by rw [HTL.out]; exact hlt)
        have hfree := hs2.s2.hd.free HTL.out.symm j
        have HP := Lib.hid (hs2.putM HTL.out.symm (show j < T.length by rw [HTL.out]; exact hlt))
        generalize vs.getD j nilS = old at hcell
        clear hu hg hs2)
      generalize w2.setCell ⟨g, j, none⟩ (.slice ua m uc) = w3 at *
      have HT1 := Lib.hid (show (T.set j (List.replicate m 0)).length = n by rw [List.length_set]; exact HTL.out)
      obtain ⟨vs1, hvs1⟩ : ∃ vs1, vs1 = vs.set j (.slice ua m uc) := ⟨_, rfl⟩
      rw [← hvs1] at HP
      clear hvs1 HZ hcell hfree
      obtain ⟨w4, hw4⟩ : ∃ w4, w4 = w3 := ⟨_, rfl⟩
      subst hw4
      go_loopw [24] (fun i wx => ∃ (k : Nat) (zs : List Int), k ≤ m ∧ i = .int .i64 k ∧ zs.length = m ∧ (∀ q, q < k → zs.getD q 0 = at2 L q j) ∧ Sep wx [OM (.slice (some ⟨g, 0, none⟩) n n) vs1 (T.set j zs), KeepA w]) (fun i _ => m - (intOf i).toNat)
      case atStart => exact ⟨0, _, by omega, rfl, by simp, fun _ h => absurd h (by omega), HP.out⟩
      case round =>
        obtain ⟨k, zs, hk, rfl, hz, hzq, hsx⟩ := hrel
        have HZL := Lib.hid hz; have HZQ := Lib.hid hzq; have HSX := Lib.hid hsx
        clear hz hzq hsx
        have hg1 : (T.set j zs).getD j [] = zs := by rw [getD_setL (by rw [HTL.out]; exact hlt), if_pos rfl]
        have HG1 := Lib.hid hg1
        clear hg1
        by_cases hk2 : k < m
        · obtain ⟨d, ra, rc, rfl, hs, hd, hcell, hrow⟩ := (HV.out _ HSX.out.s2.hd).row (show k < L.length by rw [HLEN.out]; exact hk2)
          have hrl := HL.out _ (List.getElem_mem (show k < L.length by rw [HLEN.out]; exact hk2))
          rw [hrl] at hcell hrow
          obtain ⟨d2, rfl, hs2, hd2, hc2⟩ := hrow.at (show j < (L[k]'(by rw [HLEN.out]; exact hk2)).length by rw [hrl]; exact hlt)
          obtain ⟨db, dof, _⟩ := d
          obtain ⟨db2, dof2, _⟩ := d2
          simp only at hs hcell hs2 hc2
          subst hs hs2
          have hat : (L[k]'(by rw [HLEN.out]; exact hk2))[j]'(by rw [hrl]; exact hlt) = at2 L k j := by
            unfold at2
            rw [List.getD_eq_getElem?_getD (l := L), List.getElem?_eq_getElem (show k < L.length by rw [HLEN.out]; exact hk2), Option.getD_some, getD_lt]
          rw [hat] at hc2
          obtain ⟨gi, ci, n1, e1, e2, e3, e4⟩ := HSX.out.setM (by rw [List.length_set]; exact HTL.out.symm) (i := j) (j := k) (by rw [List.length_set, HTL.out]; exact hlt) (by rw [HG1.out, HZL.out]; exact hk2)
          have E4 := Lib.hid e4
          rw [HG1.out, HZL.out] at e1
          generalize at2 (T.set j zs) j k = old at e2
          generalize hx : at2 L k j = x at *
          have HX := Lib.hid hx
          clear hx
          have k0 : (0 : Int) ≤ (k : Int) := by omega
          have k1 : (k : Int) < (m : Int) := by omega
          have j0 : (0 : Int) ≤ (j : Int) := by omega
          have j1 : (j : Int) < (n : Int) := by omega
          clear hat hrl hrow hd hd2 e4
          go_wp2_with fail
          go_region
          all_goals
            go_wp2
            go_roundw
            case rel =>
              refine ⟨k + 1, zs.set k x, by omega, by go_num, by rw [List.length_set]; exact HZL.out, fun q hq => ?_, ?_⟩
              · by_cases hqk : k = q
                · subst hqk
                  rw [getD_set_self (by rw [HZL.out]; exact hk2), HX.out]
                · rw [getD_set_ne hqk]
                  exact HZQ.out q (by omega)
              · have h := (E4.out x).dr
                rw [HG1.out, List.set_set] at h
                exact h
            case measure => simp [intOf]; omega
        · have hzc : zs = colL L j := by
            refine list_ext_getD (by rw [HZL.out]; simp [colL]; exact HLEN.out.symm) fun q hq => ?_
            rw [HZQ.out q (by have := HZL.out; omega), colL_getD (by have := HZL.out; have := HLEN.out; omega)]
          have HZC := Lib.hid hzc
          clear hzc
          go_wp2
          go_roundw
          case rel =>
            refine ⟨j + 1, vs1, T.set j zs, by omega, by go_num, by rw [List.length_set]; exact HTL.out, fun q hq => ?_, HSX.out⟩
            rw [getD_setL (by rw [HTL.out]; exact hlt)]
            split
            · next h => rw [h, HZC.out]
            · exact HQ.out q (by omega)
          case measure => simp [intOf]; omega
    · have hfin : T = transL L n := by
        refine List.ext_getElem (by rw [HTL.out, transL_len]) fun q h1 h2 => ?_
        have := HQ.out q (by have := HTL.out; omega)
        rw [List.getD_eq_getElem?_getD, List.getElem?_eq_getElem h1, Option.getD_some] at this
        rw [this]
        simp [transL, colL]
      have HF := Lib.hid hfin
      clear hfin
      go_wp2
      go_ret
      exact ⟨_, vs, rfl, by rw [← HF.out]; exact HSP.out.mat, HSP.out.s2.hd⟩

theorem orthogonal_any (p : Nat) [NeZero p] (v : Value) (L : List (List Int)) (n : Nat) (w : World) (hf : fldN p = true) (hp2 : p ≤ 1000) (hv : MatV w v L) (hL : RowsOk p n L) (hm : L.length ≤ 1000) (hn : n ≤ 1000) :
    Calls Tryd.prog 172 #[.int .i64 p, v, .int .i64 n] w fun e w' => ∃ o c, e = .returned (.slice o (orthL p L n).length c) ∧ Pre w.heap.size w' (.slice o (orthL p L n).length c) (orthL p L n) ∧ w.grownBy w' none := by
  have HT := Lib.hid (transposed_any v L n w hv (fun row hrow => (hL row hrow).1) hm hn)
  have hto := transL_ok hL
  have HK := Lib.hid fun w1 u (hu : MatV w1 u (transL L n)) => kernel_own p u (transL L n) L.length w1 hf hp2 hu hto (by rw [transL_len]; exact hn) hm
  have HO := Lib.hid (show kernelL p L.length (transL L n) = orthL p L n from rfl)
  rw [HO.out] at HK
  obtain ⟨a, c, rfl⟩ := hv.shape
  clear hv hL hto
  generalize orthL p L n = K at *
  generalize L.length = m at *
  go_enter Tryd.func172, Tryd.ntmps172
  go_wp2_with (first
    | (go_at_call 183
       with_reducible refine HT.out.mono ?_
       rintro e w1 ⟨o, vs, rfl, ho, hg⟩
       have HR := Lib.hid ho.read; have HG := Lib.hid hg
       clear ho hg)
    | (go_at_call 127
       with_reducible refine (HK.out _ _ HR.out).mono ?_
       rintro e w2 ⟨ra, rc, rfl, hp, hg⟩
       have HP := Lib.hid hp; have HG2 := Lib.hid hg
       clear hp hg))
  go_ret
  exact ⟨ra, rc, rfl, HP.out.base HG.out.size, HG.out.trans HG2.out⟩

end Go.Proofs.YtpeaeminjbjlnaaDoor

/-
  Coordinates in a reduced list, and who asks for them. Conditions: the sizes are small.
-/
namespace Go.Proofs.YtpeaeminjbjlnaaDoor
open Go.RowKit
set_option linter.unusedVariables false

theorem take_snocD {α : Type} {l : List α} {k : Nat} (d : α) (h : k < l.length) : l.take (k + 1) = l.take k ++ [l.getD k d] := by
  rw [List.take_succ_eq_append_getElem h, List.getD_eq_getElem?_getD, List.getElem?_eq_getElem h]; rfl
theorem coordsL_at {m : List (List Int)} {v : List Int} {k : Nat} (h : k < m.length) : (coordsL m v).getD k 0 = v.getD (leadL (m.getD k [])) 0 := by
  unfold coordsL
  rw [List.getD_eq_getElem?_getD, List.getElem?_map, List.getElem?_eq_getElem h, List.getD_eq_getElem?_getD (l := m), List.getElem?_eq_getElem h]
  rfl
/-- a row of a list that was there when the call began, at a later world -/
theorem MatV.rowD {w : World} {v : Value} {L : List (List Int)} (h : MatV w v L) {i : Nat} (hi : i < L.length) :
    ∃ (b o cap ml : Nat) (r : Option Addr) (c : Nat), v = .slice (some ⟨b, o, none⟩) ml cap ∧ w.cell? ⟨b, o + i, none⟩ = some (.slice r (L.getD i []).length c) ∧ IntsV w (.slice r (L.getD i []).length c) (L.getD i []) := by
  obtain ⟨a, c, rfl⟩ := h.shape
  obtain ⟨d, r, rc, rfl, hs, hd, hc, hr⟩ := h.row hi
  obtain ⟨b, o, _⟩ := d
  simp only at hs hc
  subst hs
  have e : L.getD i [] = L[i] := by rw [List.getD_eq_getElem?_getD, List.getElem?_eq_getElem hi]; rfl
  rw [e]
  exact ⟨b, o, c, _, r, rc, rfl, hc, hr⟩
theorem MatV.rowK {w wr : World} {v : Value} {L : List (List Int)} (h : MatV w v L) (hg : w.grownBy wr none) {i : Nat} (hi : i < L.length) :
    ∃ (b o cap ml : Nat) (r : Option Addr) (c : Nat), v = .slice (some ⟨b, o, none⟩) ml cap ∧ wr.cell? ⟨b, o + i, none⟩ = some (.slice r (L.getD i []).length c) ∧ IntsV w (.slice r (L.getD i []).length c) (L.getD i []) := by
  obtain ⟨a, c, rfl⟩ := h.shape
  obtain ⟨d, r, rc, rfl, hs, hd, hc, hr⟩ := h.row hi
  obtain ⟨b, o, _⟩ := d
  simp only at hs hc
  subst hs
  have e : L.getD i [] = L[i] := by rw [List.getD_eq_getElem?_getD, List.getElem?_eq_getElem hi]; rfl
  rw [e]
  exact ⟨b, o, c, _, r, rc, rfl, (World.cell?_of_block (w := w) (a := ⟨b, o + i, none⟩) (hg.block _ hd (by simp))).trans hc, hr⟩
theorem Sep.updI {w w' : World} {l : List Asrt} {v : Value} {zs zs' : List Int} {B : Nat} (h : Sep w (OI v zs :: l)) (ho : Only (Hits v) w w') (hi : OwnInts B w' v zs') : Sep w' (OI v zs' :: l) :=
  h.upd' (A' := OI v zs') ho (hi.rebase fun _ _ => Nat.zero_le _) fun _ hk => Or.inl hk
theorem Sep.updM {w w' : World} {l : List Asrt} {v : Value} {vs vs' : List Value} {L L' : List (List Int)} {B : Nat} (h : Sep w (OM v vs L :: l)) (ho : Only (Foot v vs) w w') (hi : OwnM B w' v vs' L') (hf : ∀ x ∈ vs', x ∈ vs) : Sep w' (OM v vs' L' :: l) :=
  h.upd' (A' := OM v vs' L') ho (hi.rebase fun _ _ => Nat.zero_le _) fun k hk => Or.inl (Foot.mono hf hk)
theorem IntsV.blk_lt {w : World} {u : Value} {y : List Int} (h : IntsV w u y) (hy : y ≠ []) {k : Nat} (hk : Value.blk' u = some k) : k < w.heap.size := by
  obtain ⟨a, c, rfl, h⟩ := h
  obtain ⟨d, rfl, _, hd, _⟩ := h hy
  simp only [Value.blk', Option.some.injEq] at hk
  omega

set_option maxRecDepth 100000 in
set_option maxHeartbeats 1000000 in
theorem coordinates_any (p n : Nat) [NeZero p] (u v : Value) (m : List (List Int)) (x : List Int) (w : World) (hf : fldN p = true) (hp2 : p ≤ 1000) (hu : MatV w u m) (hv : IntsV w v x) (hr : IsRed p n m) (hx : VecOk p n x) (hm : m.length ≤ 1000) (hn : n ≤ 1000) :
    Calls Tryd.prog 174 #[.int .i64 p, u, v] w fun e w' => ∃ o, e = .returned (.tuple #[o, .bool (hasB p n m x)]) ∧ OwnInts w.heap.size w' o (coordsL m x) ∧ w.grownBy w' none := by
  have HCL := Lib.hid (clone_any v x w hv (by rw [hx.1]; omega))
  have HU := Lib.hid hu
  have HROK := Lib.hid (fun k (hk : k ≤ m.length) => rest_ok hr.1 hx k hk)
  have HRC := Lib.hid (fun i (hi : i < m.length) => rest_coord hf hr hx hi)
  have HLT := Lib.hid (fun i (hi : i < m.length) => lead_lt hf hr hi)
  have HHAS := Lib.hid (rest_has hf hr hx)
  have HMO := Lib.hid hr.1
  have hp1 := lt_p hf
  have hcl : (coordsL m x).length = m.length := by simp [coordsL]
  have HCLN := Lib.hid hcl
  have hsh := hu.shape
  obtain ⟨va, vc, rfl, hvx⟩ := hv
  obtain ⟨ua, uc, rfl⟩ := hsh
  have hxl := hx.1
  rw [hxl] at HCL ⊢
  have HXL := Lib.hid hxl
  have HV : True := trivial
  clear hu hr hx hcl hvx hxl
  generalize hml : m.length = l at *
  have HML := Lib.hid hml
  clear hml
  generalize hasB p n m x = hb at *
  go_enter Tryd.func174, Tryd.ntmps174
  go_wp2_with (go_at_call 112
               with_reducible refine HCL.out.mono ?_
               rintro e w1 ⟨cv, rfl, ho, hg⟩
               have HO := Lib.hid ((Sep.start w).newI hg ho)
               obtain ⟨ca, cc, hce⟩ := own_shape ho
               rw [HXL.out] at hce
               subst hce
               clear ho hg)
  have HE := Lib.hid HO.out.emptyI
  go_loopw [9, 18] (fun out i wr => ∃ k : Nat, k ≤ l ∧ i = .int .i64 k ∧ Sep wr [OI out ((coordsL m x).take k), OI (.slice ca n cc) (restTo p m x k), KeepA w]) (fun _ i _ => l - (intOf i).toNat)
  case atStart => exact ⟨0, by omega, rfl, HE.out⟩
  case round =>
    obtain ⟨k, hk, rfl, hs⟩ := hrel
    have HS := Lib.hid hs
    clear hs
    by_cases hlt : k < l
    · have hkl : k < m.length := by rw [HML.out]; exact hlt
      obtain ⟨b, o, cap, ml, r, rc, he, hcell, hrow0⟩ := HU.out.rowK HS.out.s3.hd hkl
      cases he
      have hro := HMO.out _ (getD_mem hkl)
      have hll := HLT.out k hlt
      have hok := HROK.out k (by omega)
      have hcd := HRC.out k hlt
      have hsn := take_snocD 0 (show k < (coordsL m x).length by rw [HCLN.out]; exact hlt)
      rw [coordsL_at hkl] at hsn
      rw [hro.1] at hcell hrow0
      have hrow := hrow0.carry HS.out.s3.hd
      have hown := HS.out.s2.hd
      obtain ⟨g, gc, hge, hg0, hg1, hgh⟩ := hown.parts (by intro h; have := hok.1; rw [h] at this; simp at this; omega)
      rw [hok.1] at hge
      cases hge
      have hrc := hown.cell hok.1.symm (j := leadL (m.getD k [])) (by rw [hok.1]; exact hll)
      rw [← getD_lt, hcd] at hrc
      have hbd := hok.2 _ (List.getElem_mem (show leadL (m.getD k []) < (restTo p m x k).length by rw [hok.1]; exact hll))
      rw [← getD_lt, hcd] at hbd
      have hnx : restTo p m x (k + 1) = addT p (restTo p m x k) (-(x.getD (leadL (m.getD k [])) 0)) (m.getD k []) := by
        rw [← hcd]; rfl
      have hap : ∀ q, Hits (.slice (some ⟨g, 0, none⟩) n cc) q → Value.blk' (.slice r n rc) ≠ some q := by
        intro q hq hq'
        have h1 := hrow0.blk_lt (by intro h; have := hro.1; rw [h] at this; simp at this; omega) hq'
        exact HS.out.tl.apt.1 q hq h1
      have HLD := Lib.hid (lead_any _ _ wr hrow (by rw [hro.1]; omega))
      have HSN := Lib.hid hsn; have HNX := Lib.hid hnx
      have hz : (restTo p m x k).length = n := hok.1
      have HAT := Lib.hid fun w2 (h : Sep w2 [OI (.slice (some ⟨g, 0, none⟩) n cc) (restTo p m x k), KeepA w]) =>
        addTimes_any p (-(x.getD (leadL (m.getD k [])) 0)) (.slice (some ⟨g, 0, none⟩) n cc) (.slice r n rc) (restTo p m x k) (m.getD k []) 0 w2 h.hd (hrow0.carry h.s2.hd) (fun _ => hap) (by rw [hz, hro.1]) (by rw [hz]; omega) (by omega) (by omega) (by omega) (by omega)
          (fun z hz' => by have := hok.2 z hz'; omega) (fun z hz' => by have := hro.2 z hz'; omega)
      have hll2 : ((leadL (m.getD k []) : Nat) : Int) < (n : Int) := by omega
      have A5 := Lib.hid (show ((coordsL m x).take k).length ≤ 1000000000 by rw [List.length_take]; omega)
      clear hro hcd hsn hrow0 hrow hown hg0 hg1 hgh hok hnx hap hz hkl
      generalize hld : leadL (m.getD k []) = ld at *
      generalize hby : x.getD ld 0 = by' at *
      clear hld hby
      go_wp2_with (first
        | (go_at_call 225
           with_reducible refine HLD.out.mono ?_
           rintro e w' ⟨rfl, rfl⟩)
        | (at_builtin
           refine app_intS rfl _ _ rfl rfl rfl HS.out A5.out ?_
           intro g2 cap2 w2 hs2
           have HS2 := Lib.hid hs2
           clear hs2)
        | (go_at_call 244
           go_loud (with_reducible refine (HAT.out _ (HS2.out.tl)).mono ?_)
           rintro e w3 ⟨rfl, ho3, hon3⟩
           have HS3 := Lib.hid (HS2.out.s2.updI hon3 ho3).s2
           clear ho3 hon3))
      go_roundw
      case rel => exact ⟨k + 1, by omega, by go_num, by have h := HS3.out; rw [List.length_take] at h; rw [HSN.out, HNX.out]; exact h⟩
      case measure => simp [intOf]; omega
    · have hkl : k = l := by omega
      subst hkl
      have ht : (coordsL m x).take k = coordsL m x := List.take_of_length_le (by rw [HCLN.out]; exact Nat.le_refl _)
      have HTK := Lib.hid ht
      have hz := isZero_any (.slice ca n cc) (restTo p m x k) wr HS.out.s2.hd.read (by rw [(HROK.out k (Nat.le_refl _)).1]; omega)
      rw [HHAS.out] at hz
      have HZ := Lib.hid hz
      clear ht hz
      go_wp2_with (go_at_call 228
                   with_reducible refine HZ.out.mono ?_
                   rintro e w' ⟨rfl, rfl⟩)
      go_ret2
      exact ⟨_, rfl, by have := HS.out.under Sep.tl (by simp +contextual); rw [HTK.out] at this; exact this.ints, HS.out.s3.hd⟩
end Go.Proofs.YtpeaeminjbjlnaaDoor

/-
  Who is in a space: vectors, coordinates, separators. Conditions: the sizes are small.
-/
namespace Go.Proofs.YtpeaeminjbjlnaaDoor
open Go.RowKit
set_option linter.unusedVariables false

def vectorB (p n : Int) (L : List (List Int)) (x : List Int) : Bool := spaceB p n L && vecB p n x
theorem vectorB_nat {p n : Int} {L : List (List Int)} {x : List Int} (h : vectorB p n L x = true) : ∃ (q : Nat) (_ : NeZero q) (m : Nat), p = q ∧ n = m ∧ fldN q = true ∧ q ≤ 97 ∧ m ≤ 24 ∧ L.length ≤ m ∧ IsRed q m L ∧ RowsOk q m L ∧ VecOk q m x := by
  unfold vectorB at h
  rw [Bool.and_eq_true] at h
  obtain ⟨q, i, m, rfl, rfl, h1, h2, h3, h4, h5, h6⟩ := spaceB_nat h.1
  exact ⟨q, i, m, rfl, rfl, h1, h2, h3, h4, h5, h6, vecB_ok.1 h.2⟩

section
variable (p n : Int) (u v : Value) (L : List (List Int)) (x : List Int) (w : World) (ht : Tab w) (hu : MatV w u L) (hv : IntsV w v x) (hl : L.length ≤ 1000000) (hll : ∀ row ∈ L, row.length ≤ 1000000) (hxl : x.length ≤ 1000000)
include ht hu hv hl hll hxl
set_option maxRecDepth 100000 in
theorem hasVector_no (hno : vectorB p n L x = false) : Calls Tryd.prog 56 #[.int .i64 p, mxV n u, v] w fun e w' => e = .returned (.tuple #[.bool false, .bool false]) ∧ w.grownBy w' none := by
  have HS := Lib.hid fun w' (hg : w.grownBy w' none) => isSpace_any p n u L w' (ht.grown hg) (hu.carry hg) hl hll
  have HX := Lib.hid fun w' (hg : w.grownBy w' none) => isVector_any p n v x w' (hv.carry hg) hxl
  unfold vectorB at hno
  unfold mxV at *
  obtain ⟨a, c, rfl⟩ := hu.shape
  obtain ⟨xa, xc, rfl, hvx⟩ := hv
  have e0 := Lib.hid (alloc_heap_new w (.cells #[.int .i64 n, .slice a L.length c] 74))
  clear hu hvx hll ht
  generalize L.length = l at *
  generalize x.length = xl at *
  cases h1 : spaceB p n L <;> cases h2 : vecB p n x
  all_goals
    rw [h1] at HS
    rw [h2] at HX
    first
      | (exfalso; rw [h1, h2] at hno; exact absurd hno (by decide))
      | (clear h1 h2 hno
         go_enter Tryd.func56, Tryd.ntmps56
         go_wp2_with (first
           | (go_at_call 171
              with_reducible refine (HS.out _ (grownBy_alloc _ _ none)).mono ?_
              rintro e w1 ⟨rfl, hg⟩
              obtain ⟨c0, c1, f0, f1⟩ := bx (bx_on e0.out hg)
              have HG := Lib.hid ((grownBy_alloc w _ none).trans hg)
              clear hg)
           | (go_at_call 173; with_reducible refine (HX.out _ HG.out).mono ?_; rintro e w' ⟨rfl, rfl⟩))
         go_ret2
         exact ⟨rfl, HG.out⟩)
set_option maxRecDepth 100000 in
theorem hasVector_yes (hb : vectorB p n L x = true) : Calls Tryd.prog 56 #[.int .i64 p, mxV n u, v] w fun e w' => e = .returned (.tuple #[.bool (hasB p n.toNat L x), .bool true]) ∧ w.grownBy w' none := by
  have HS := fun w' (hg : w.grownBy w' none) => isSpace_any p n u L w' (ht.grown hg) (hu.carry hg) hl hll
  have HX := fun w' (hg : w.grownBy w' none) => isVector_any p n v x w' (hv.carry hg) hxl
  have hb' := hb
  unfold vectorB at hb'
  rw [Bool.and_eq_true] at hb'
  rw [hb'.1] at HS
  rw [hb'.2] at HX
  have HS := Lib.hid HS; have HX := Lib.hid HX
  obtain ⟨q, i, m, rfl, rfl, h1, h2, h3, h4, h5, h6, h7⟩ := vectorB_nat hb
  rw [Int.toNat_natCast]
  have HC := Lib.hid fun w' (hg : w.grownBy w' none) => coordinates_any q m u v L x w' h1 (by omega) (hu.carry hg) (hv.carry hg) h5 h7 (by omega) (by omega)
  unfold mxV at *
  obtain ⟨a, c, rfl⟩ := hu.shape
  obtain ⟨xa, xc, rfl, hvx⟩ := hv
  have e0 := Lib.hid (alloc_heap_new w (.cells #[.int .i64 m, .slice a L.length c] 74))
  clear hu hvx hll ht hb hb' h1 h5 h6 h7
  generalize hasB q m L x = hb at *
  generalize L.length = l at *
  generalize x.length = xl at *
  go_enter Tryd.func56, Tryd.ntmps56
  go_wp2_with (first
    | (go_at_call 171
       with_reducible refine (HS.out _ (grownBy_alloc _ _ none)).mono ?_
       rintro e w1 ⟨rfl, hg⟩
       obtain ⟨c0, c1, f0, f1⟩ := bx (bx_on e0.out hg)
       have HG := Lib.hid ((grownBy_alloc w _ none).trans hg)
       clear hg)
    | (go_at_call 173; with_reducible refine (HX.out _ HG.out).mono ?_; rintro e w' ⟨rfl, rfl⟩)
    | (go_at_call 174
       with_reducible refine (HC.out _ HG.out).mono ?_
       rintro e w2 ⟨o, rfl, ho, hg⟩
       have HG2 := Lib.hid hg
       clear ho hg))
  go_ret2
  exact ⟨rfl, HG.out.trans HG2.out⟩
set_option maxRecDepth 100000 in
theorem coordinatesOf_no (hno : vectorB p n L x = false) : Calls Tryd.prog 75 #[.int .i64 p, mxV n u, v] w fun e w' => e = .returned (.tuple #[nilS, .bool false]) ∧ w.grownBy w' none := by
  have HS := Lib.hid fun w' (hg : w.grownBy w' none) => isSpace_any p n u L w' (ht.grown hg) (hu.carry hg) hl hll
  have HX := Lib.hid fun w' (hg : w.grownBy w' none) => isVector_any p n v x w' (hv.carry hg) hxl
  unfold vectorB at hno
  unfold mxV at *
  unfold nilS
  obtain ⟨a, c, rfl⟩ := hu.shape
  obtain ⟨xa, xc, rfl, hvx⟩ := hv
  have e0 := Lib.hid (alloc_heap_new w (.cells #[.int .i64 n, .slice a L.length c] 74))
  clear hu hvx hll ht
  generalize L.length = l at *
  generalize x.length = xl at *
  cases h1 : spaceB p n L <;> cases h2 : vecB p n x
  all_goals
    rw [h1] at HS
    rw [h2] at HX
    first
      | (exfalso; rw [h1, h2] at hno; exact absurd hno (by decide))
      | (clear h1 h2 hno
         go_enter Tryd.func75, Tryd.ntmps75
         go_wp2_with (first
           | (go_at_call 171
              with_reducible refine (HS.out _ (grownBy_alloc _ _ none)).mono ?_
              rintro e w1 ⟨rfl, hg⟩
              obtain ⟨c0, c1, f0, f1⟩ := bx (bx_on e0.out hg)
              have HG := Lib.hid ((grownBy_alloc w _ none).trans hg)
              clear hg)
           | (go_at_call 173; with_reducible refine (HX.out _ HG.out).mono ?_; rintro e w' ⟨rfl, rfl⟩))
         go_ret2
         exact ⟨rfl, HG.out⟩)
set_option maxRecDepth 100000 in
theorem coordinatesOf_yes (hb : vectorB p n L x = true) : Calls Tryd.prog 75 #[.int .i64 p, mxV n u, v] w fun e w' => ∃ o, e = .returned (.tuple #[o, .bool (hasB p n.toNat L x)]) ∧ OwnInts w.heap.size w' o (if hasB p n.toNat L x then coordsL L x else []) ∧ w.grownBy w' none := by
  have HS := fun w' (hg : w.grownBy w' none) => isSpace_any p n u L w' (ht.grown hg) (hu.carry hg) hl hll
  have HX := fun w' (hg : w.grownBy w' none) => isVector_any p n v x w' (hv.carry hg) hxl
  have hb' := hb
  unfold vectorB at hb'
  rw [Bool.and_eq_true] at hb'
  rw [hb'.1] at HS
  rw [hb'.2] at HX
  have HS := Lib.hid HS; have HX := Lib.hid HX
  obtain ⟨q, i, m, rfl, rfl, h1, h2, h3, h4, h5, h6, h7⟩ := vectorB_nat hb
  rw [Int.toNat_natCast]
  have HC := Lib.hid fun w' (hg : w.grownBy w' none) => coordinates_any q m u v L x w' h1 (by omega) (hu.carry hg) (hv.carry hg) h5 h7 (by omega) (by omega)
  unfold mxV at *
  obtain ⟨a, c, rfl⟩ := hu.shape
  obtain ⟨xa, xc, rfl, hvx⟩ := hv
  have e0 := Lib.hid (alloc_heap_new w (.cells #[.int .i64 m, .slice a L.length c] 74))
  clear hu hvx hll ht hb hb' h1 h5 h6 h7
  generalize coordsL L x = co at *
  generalize L.length = l at *
  generalize x.length = xl at *
  cases hbb : hasB q m L x
  all_goals
    rw [hbb] at HC
    clear hbb
    go_enter Tryd.func75, Tryd.ntmps75
    go_wp2_with (first
      | (go_at_call 171
         with_reducible refine (HS.out _ (grownBy_alloc _ _ none)).mono ?_
         rintro e w1 ⟨rfl, hg⟩
         obtain ⟨c0, c1, f0, f1⟩ := bx (bx_on e0.out hg)
         have HG := Lib.hid ((grownBy_alloc w _ none).trans hg)
         clear hg)
      | (go_at_call 173; with_reducible refine (HX.out _ HG.out).mono ?_; rintro e w' ⟨rfl, rfl⟩)
      | (go_at_call 174
         with_reducible refine (HC.out _ HG.out).mono ?_
         rintro e w2 ⟨o, rfl, ho, hg⟩
         have HG2 := Lib.hid hg; have HO := Lib.hid ho
         clear ho hg))
    go_ret2
    first
      | exact ⟨nilS, rfl, OwnInts.nil _ _, HG.out.trans HG2.out⟩
      | exact ⟨o, rfl, HO.out.base HG.out.size, HG.out.trans HG2.out⟩
end
end Go.Proofs.YtpeaeminjbjlnaaDoor

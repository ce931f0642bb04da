/-
  The specification's row operations: a row multiplied, a multiple of a row subtracted. Conditions: the elements are small.
-/
import Derived.Test.YtpeaeminjbjlnaaDoorMk08
import Derived.Deep.RegionHeld3
import Derived.Deep.RegionWith
namespace Go.Proofs.YtpeaeminjbjlnaaDoor
open Go.RowKit
set_option linter.unusedVariables false

theorem less_eq (p k a s : Int) : (a + p - k * s % p) % p = (a + -k * s) % p := by
  have h := Int.emod_add_mul_ediv (k * s) p
  have e : a + -k * s = (a + p - k * s % p) + p * (-(k * s / p) - 1) := by grind
  rw [e, Int.add_mul_emod_self_left]

theorem mxScale_any (p k : Int) (v : Value) (x : List Int) (B : Nat) (w : World) (hv : OwnInts B w v x) (hlm : x.length ≤ 1000000) (hp : 2 ≤ p) (hp2 : p ≤ 1000) (hk0 : 0 ≤ k) (hk1 : k ≤ 1000) (hx : ∀ z ∈ x, 0 ≤ z ∧ z ≤ 1000) :
    Calls Tryd.prog 257 #[.int .i64 p, v, .int .i64 k] w fun e w' => e = .returned (.tuple #[]) ∧ OwnInts B w' v (scaleV p x k) ∧ Only (Hits v) w w' := by
  have HX := Lib.hid hx; have HV := Lib.hid hv
  have hsh := own_shape hv
  obtain ⟨a0, cap0, rfl⟩ := hsh
  clear hx hv
  generalize hlen : x.length = l at *
  have HLX := Lib.hid hlen
  clear hlen
  go_enter Tryd.func257, Tryd.ntmps257
  go_wp2
  go_loopw [9] (fun i wr => ∃ (j : Nat) (zs : List Int), j ≤ l ∧ i = .int .i64 j ∧ zs.length = x.length ∧ (∀ q, q < j → zs.getD q 0 = x.getD q 0 * k % p) ∧ (∀ q, j ≤ q → zs.getD q 0 = x.getD q 0) ∧ OwnInts B wr (.slice a0 l cap0) zs ∧ Only (Hits (.slice a0 l cap0)) w wr) (fun i _ => l - (intOf i).toNat)
  case atStart => exact ⟨0, x, by omega, rfl, rfl, fun _ h => absurd h (by omega), fun _ _ => rfl, HV.out, Only.refl _ _⟩
  case round =>
    obtain ⟨j, zs, hj, rfl, hz, h1, h2, ho, hon⟩ := hrel
    have HZ := Lib.hid hz; have H1 := Lib.hid h1; have H2 := Lib.hid h2; have HO := Lib.hid ho; have HON := Lib.hid hon
    clear hz h1 h2 ho hon
    by_cases hlt : j < l
    · have hjx : j < x.length := by rw [HLX.out]; exact hlt
      have hjz : j < zs.length := by rw [HZ.out]; exact hjx
      obtain ⟨g, cap, hve, hg0, hg1, hhit⟩ := HO.out.parts (by intro h; rw [h] at hjz; simp at hjz)
      have hzl : zs.length = l := by rw [HZ.out, HLX.out]
      rw [hzl] at hve
      simp only [Value.slice.injEq, true_and] at hve
      obtain ⟨rfl, rfl⟩ := hve
      have hcell := HO.out.cell hzl.symm hjz
      have hfree := HO.out.free hzl.symm j
      have HP := Lib.hid fun n => HO.out.put hzl.symm j n
      have e1 : zs[j] = x.getD j 0 := by rw [← getD_lt hjz]; exact H2.out j (Nat.le_refl _)
      have b1 := HX.out _ (List.getElem_mem hjx)
      rw [← getD_lt hjx] at b1
      rw [e1] at hcell
      clear e1 hg0 hg1 hhit
      generalize hxk : x.getD j 0 = xk at *
      have HXK := Lib.hid hxk; have HZL := Lib.hid hzl
      clear hxk hzl hjx hjz
      go_wp2_with (go_at_call 199; refine (fdMulS_any p xk k _ (by omega) hp2 b1.1 b1.2 hk0 hk1).mono ?_; rintro e w' ⟨rfl, rfl⟩)
      go_roundw
      case rel =>
        have hjz : j < zs.length := by rw [HZL.out]; exact hlt
        refine ⟨j + 1, zs.set j (xk * k % p), by omega, by go_num, by rw [List.length_set]; exact HZ.out, fun q hq => ?_, fun q hq => ?_, (HP.out _).1, HON.out.trans ((HP.out _).2.mono fun g hg => by rw [hg]; rfl)⟩
        · by_cases hjq : j = q
          · subst hjq
            rw [getD_set_self hjz, HXK.out]
          · rw [getD_set_ne hjq]
            exact H1.out q (by omega)
        · rw [getD_set_ne (by omega)]
          exact H2.out q (by omega)
      case measure => simp [intOf]; omega
    · have hfin : zs = scaleV p x k := by
        refine list_ext_getD (by rw [HZ.out]; simp [scaleV]) fun q hq => ?_
        have hqx : q < x.length := by rw [← HZ.out]; exact hq
        rw [scale_getD hqx]
        exact H1.out q (by have := HLX.out; omega)
      have HF := Lib.hid hfin
      clear hfin
      go_wp2
      go_end0
      exact ⟨rfl, by rw [← HF.out]; exact HO.out, HON.out⟩

set_option maxHeartbeats 2000000 in
theorem mxLess_any (p k : Int) (v u : Value) (x y : List Int) (B : Nat) (w : World) (hv : OwnInts B w v x) (hu : IntsV w u y) (hap : x ≠ [] → ∀ q, Hits v q → Value.blk' u ≠ some q) (hl : x.length = y.length) (hlm : x.length ≤ 1000000)
    (hp : 2 ≤ p) (hp2 : p ≤ 1000) (hk0 : 0 ≤ k) (hk1 : k ≤ 1000) (hx : ∀ z ∈ x, 0 ≤ z ∧ z ≤ 1000) (hy : ∀ z ∈ y, 0 ≤ z ∧ z ≤ 1000) :
    Calls Tryd.prog 258 #[.int .i64 p, v, u, .int .i64 k] w fun e w' => e = .returned (.tuple #[]) ∧ OwnInts B w' v (addT p x (-k) y) ∧ Only (Hits v) w w' := by
  have HX := Lib.hid hx; have HY := Lib.hid hy; have HU := Lib.hid hu; have HV := Lib.hid hv; have HAP := Lib.hid hap; have HL := Lib.hid hl
  have hsh := own_shape hv
  obtain ⟨a0, cap0, rfl⟩ := hsh
  obtain ⟨ua, ucap, rfl, ui⟩ := hu
  clear ui hv hx hy hap
  rw [← hl]
  generalize hlen : x.length = l at *
  have HLX := Lib.hid hlen
  clear hlen hl
  go_enter Tryd.func258, Tryd.ntmps258
  go_wp2
  go_loopw [11] (fun i wr => ∃ (j : Nat) (zs : List Int), j ≤ l ∧ i = .int .i64 j ∧ zs.length = x.length ∧ (∀ q, q < j → zs.getD q 0 = (x.getD q 0 + -k * y.getD q 0) % p) ∧ (∀ q, j ≤ q → zs.getD q 0 = x.getD q 0) ∧ OwnInts B wr (.slice a0 l cap0) zs ∧ Only (Hits (.slice a0 l cap0)) w wr) (fun i _ => l - (intOf i).toNat)
  case atStart => exact ⟨0, x, by omega, rfl, rfl, fun _ h => absurd h (by omega), fun _ _ => rfl, HV.out, Only.refl _ _⟩
  case round =>
    obtain ⟨j, zs, hj, rfl, hz, h1, h2, ho, hon⟩ := hrel
    have HZ := Lib.hid hz; have H1 := Lib.hid h1; have H2 := Lib.hid h2; have HO := Lib.hid ho; have HON := Lib.hid hon
    clear hz h1 h2 ho hon
    by_cases hlt : j < l
    · have hjx : j < x.length := by rw [HLX.out]; exact hlt
      have hjy : j < y.length := by rw [← HL.out]; exact hlt
      have hjz : j < zs.length := by rw [HZ.out]; exact hjx
      have hu' := (HU.out.only HON.out fun g hg hh => HAP.out (by intro h; rw [h] at hjx; simp at hjx) g hh hg).at hjy
      obtain ⟨d, rfl, hs, hd, hc⟩ := hu'
      obtain ⟨db, dof, _⟩ := d
      simp only at hs hc
      subst hs
      obtain ⟨g, cap, hve, hg0, hg1, hhit⟩ := HO.out.parts (by intro h; rw [h] at hjz; simp at hjz)
      have hzl : zs.length = l := by rw [HZ.out, HLX.out]
      rw [hzl] at hve
      simp only [Value.slice.injEq, true_and] at hve
      obtain ⟨rfl, rfl⟩ := hve
      have hcell := HO.out.cell hzl.symm hjz
      have hfree := HO.out.free hzl.symm j
      have HP := Lib.hid fun n => (HO.out.only (Only.drew (fun _ => False) wr) (fun _ _ h => h)).put hzl.symm j n
      have e1 : zs[j] = x.getD j 0 := by rw [← getD_lt hjz]; exact H2.out j (Nat.le_refl _)
      have e2 : y[j] = y.getD j 0 := (getD_lt hjy).symm
      have b1 := HX.out _ (List.getElem_mem hjx)
      rw [← getD_lt hjx] at b1
      have b2 := HY.out _ (List.getElem_mem hjy)
      rw [e2] at b2 hc
      rw [e1] at hcell
      clear e1 e2 hd hg0 hg1 hhit
      generalize hxk : x.getD j 0 = xk at *
      generalize hyk : y.getD j 0 = yk at *
      have HXK := Lib.hid hxk; have HYK := Lib.hid hyk; have HZL := Lib.hid hzl
      clear hxk hyk hzl hjx hjy hjz
      have m0 := Int.emod_nonneg (k * yk) (show p ≠ 0 by omega)
      have m1 := Int.emod_lt_of_pos (k * yk) (show 0 < p by omega)
      have M1 := Lib.hid fun w1 => fdMulS_any p k yk w1 (by omega) hp2 hk0 hk1 b2.1 b2.2
      have M2 := Lib.hid fun w1 => fdSubS_any p xk (k * yk % p) w1 (by omega) hp2 b1.1 b1.2 m0 (by omega)
      have HLE := Lib.hid (less_eq p k xk yk)
      rw [HLE.out] at M2
      clear m0 m1
      go_wp2_with fail
      go_region_with
        (first
          | (go_at_call 199
             refine (M1.out _).mono ?_
             rintro e w' ⟨rfl, rfl⟩)
          | (go_at_call 245
             refine (M2.out _).mono ?_
             rintro e w' ⟨rfl, rfl⟩))
      all_goals
        go_wp2
        go_roundw
        case rel =>
          have hjz : j < zs.length := by rw [HZL.out]; exact hlt
          refine ⟨j + 1, zs.set j ((xk + -k * yk) % p), by omega, by go_num, by rw [List.length_set]; exact HZ.out, fun q hq => ?_, fun q hq => ?_, (HP.out _).1, (HON.out.trans (Only.drew _ _)).trans ((HP.out _).2.mono fun g hg => by rw [hg]; rfl)⟩
          · by_cases hjq : j = q
            · subst hjq
              rw [getD_set_self hjz, HXK.out, HYK.out]
            · rw [getD_set_ne hjq]
              exact H1.out q (by omega)
          · rw [getD_set_ne (by omega)]
            exact H2.out q (by omega)
        case measure => simp [intOf]; omega
    · have hfin : zs = addT p x (-k) y := by
        refine list_ext_getD (by rw [HZ.out]; have h1 := HL.out; have h2 := HLX.out; simp [addT]; omega) fun q hq => ?_
        have hqx : q < x.length := by rw [← HZ.out]; exact hq
        rw [addT_getD (HLX.out.trans HL.out) hqx]
        exact H1.out q (by have := HLX.out; omega)
      have HF := Lib.hid hfin
      clear hfin
      go_wp2
      go_end0
      exact ⟨rfl, by rw [← HF.out]; exact HO.out, HON.out⟩

end Go.Proofs.YtpeaeminjbjlnaaDoor

/-
  The specification's copies, zero and identity matrices. Conditions: lengths are small.
-/
namespace Go.Proofs.YtpeaeminjbjlnaaDoor
open Go.RowKit
set_option linter.unusedVariables false

theorem l1Own_any (u : Value) (ys : List Int) (w : World) (hu : IntsV w u ys) (hl : ys.length ≤ 1000000) :
    Calls Tryd.prog 217 #[u] w fun e w' => ∃ v, e = .returned v ∧ OwnInts w.heap.size w' v ys ∧ w.grownBy w' none := by
  have HU := Lib.hid hu
  obtain ⟨ua, ucap, rfl, hx⟩ := hu
  clear hx
  go_enter Tryd.func217, Tryd.ntmps217
  go_wp2_with (at_builtin; go_loud (refine app_ints rfl _ _ rfl rfl rfl (HU.out.carry (grownBy_alloc _ _ _)) (OwnInts.empty (Nat.le_refl _) rfl) (by simp) (by simp; omega) ?_); intro v' w1 hown' hbel')
  have H1 := Lib.hid hown'; have H2 := Lib.hid hbel'
  clear hown' hbel'
  go_wp2
  go_ret
  exact ⟨v', rfl, by have := H1.out; simpa using this, grown_of_below (((Below.refl _ _).alloc (Nat.le_refl _) _).trans H2.out)⟩

theorem nils_own {B n : Nat} {w : World} {v : Value} (h : w.ownsRow B 24 1 v n (List.replicate n nilS)) : OwnM B w v (List.replicate n nilS) (List.replicate n []) := by
  have g1 : ∀ i, (List.replicate n nilS).getD i nilS = nilS := by
    intro i
    rw [List.getD_eq_getElem?_getD]
    rcases Nat.lt_or_ge i n with hi | hi
    · rw [List.getElem?_replicate, if_pos hi]; rfl
    · rw [List.getElem?_eq_none (by simpa using hi)]; rfl
  have g2 : ∀ i, (List.replicate n ([] : List Int)).getD i [] = [] := by
    intro i
    rw [List.getD_eq_getElem?_getD]
    rcases Nat.lt_or_ge i n with hi | hi
    · rw [List.getElem?_replicate, if_pos hi]; rfl
    · rw [List.getElem?_eq_none (by simpa using hi)]; rfl
  refine ⟨by simp, by rw [List.length_replicate]; exact h, fun i => ?_, fun i j _ k hk => ?_⟩
  · rw [g1, g2]; exact OwnInts.nil B w
  · rw [g1] at hk; exact absurd hk nil_hits

def zeroCells (n : Nat) : Array Value := madeCells (Value.int .i64 0).cells (n * 1)
theorem make_row (n : Nat) (hn : n ≤ 1000000) (w : World) : (Instr.makeSlice 24 (.int .i64 n) (.int .i64 n)).run Tryd.prog w = .ok (.slice (some ⟨w.heap.size, 0, none⟩) n n) (w.alloc (.cells (zeroCells n) 3)) := by
  obtain ⟨i0, hi, hz0, hz1, hz2⟩ := info_parts info_int
  have h := run_make (P := Tryd.prog) w 24 3 i0 (.int .i64 0) Tryd.underlying24 hi hz0 .i64 .i64 n n (by omega) (Int.le_refl _) (by rw [hz2]; omega) (by omega)
  rw [hz1] at h
  simp only [Int.toNat_natCast] at h
  exact h
theorem row_made {B : Nat} (n : Nat) (hn : n ≤ 1000000) (w : World) (hB : B ≤ w.heap.size) : OwnInts B (w.alloc (.cells (zeroCells n) 3)) (.slice (some ⟨w.heap.size, 0, none⟩) n n) (List.replicate n 0) := by
  have h := World.ownsRow_lit (e := 3) (base := B) (size := 1) w (zeroCells n) n hB (by unfold maxLen; omega) (size_madeCells _ _)
  unfold zeroCells at h
  rw [madeCells_int] at h
  unfold OwnInts zeroCells
  rw [List.length_replicate]
  exact h

theorem mxZero_any (m n : Nat) (w : World) (hm : m ≤ 1000) (hn : n ≤ 1000) :
    Calls Tryd.prog 277 #[.int .i64 m, .int .i64 n] w fun e w' => ∃ o vs, e = .returned (mxV n o) ∧ OwnM w.heap.size w' o vs (List.replicate m (List.replicate n 0)) ∧ w.grownBy w' none := by
  obtain ⟨i0, hi, hz0, hz1, hz2⟩ := info_parts info_ints
  have HI := Lib.hid hi; have HZ0 := Lib.hid hz0; have HZ1 := Lib.hid hz1; have HZ2 := Lib.hid hz2
  clear hi hz0 hz1 hz2
  unfold mxV
  go_enter Tryd.func277, Tryd.ntmps277
  go_wp2_with (
    at_make
    refine wpList_make_full _ rfl _ _ 37 rfl w.heap.size 24 i0 (.slice none 0 0) 1 Tryd.underlying37 HI.out HZ0.out HZ1.out _ _ _ _ m rfl rfl rfl rfl (by rw [HZ2.out]; omega) (by unfold maxLen; omega) (by simp) ?_
    intro w1 hown' hgr'
    have H1 := Lib.hid hown'; have H2 := Lib.hid hgr'
    clear hown' hgr')
  have hsz : (w.alloc (.cells #[.int .i64 0, .slice none 0 0] 39)).heap.size = w.heap.size + 1 := by simp
  rw [hsz] at H1
  have hb1 := H2.out.size
  have e0 := (H2.out.block w.heap.size (by simp) (by simp)).trans (alloc_heap_new w _)
  have hz : (madeCells (Value.slice none 0 0).cells (m * 1)).toList = List.replicate m nilS := by rw [Nat.mul_one]; exact toList_madeCells_one _ _
  have ho := H1.out
  rw [hz] at ho
  have ho1 := (nils_own ho).carry (grownBy_alloc w1 (.cells #[.int .i64 n, .slice (some ⟨w.heap.size + 1, 0, none⟩) m m] 39) none)
  have HO1 := Lib.hid ho1
  have hlt := (World.ownsRow.lt ho (w.heap.size + 1) rfl).2
  have e0x := (alloc_heap_old w1 (.cells #[.int .i64 n, .slice (some ⟨w.heap.size + 1, 0, none⟩) m m] 39) w.heap.size (by omega)).trans e0
  have ecx := alloc_heap_new w1 (.cells #[.int .i64 n, .slice (some ⟨w.heap.size + 1, 0, none⟩) m m] 39)
  have hsx : (w1.alloc (.cells #[.int .i64 n, .slice (some ⟨w.heap.size + 1, 0, none⟩) m m] 39)).heap.size = w1.heap.size + 1 := by simp
  have HGX := Lib.hid (((grownBy_alloc w (.cells #[.int .i64 0, .slice none 0 0] 39) none).trans H2.out).trans (grownBy_alloc w1 (.cells #[.int .i64 n, .slice (some ⟨w.heap.size + 1, 0, none⟩) m m] 39) none))
  have hmk := make_row n (by omega)
  have HE0 := Lib.hid e0x; have HEC := Lib.hid ecx
  clear ho1 ho hz H1 H2 e0 hb1 hsz e0x ecx HI HZ0 HZ1 HZ2
  generalize hwx : w1.alloc (.cells #[.int .i64 n, .slice (some ⟨w.heap.size + 1, 0, none⟩) m m] 39) = wx at *
  clear hwx
  generalize hbe : w.heap.size = b at *
  have HBE := Lib.hid hbe
  clear hbe
  generalize hce : w1.heap.size = c at *
  clear hce
  have hcb : c ≠ b + 1 := by omega
  go_loopw [14] (fun i wr => ∃ (k : Nat) (vs : List Value) (L : List (List Int)), k ≤ m ∧ i = .int .i64 k ∧ OwnM b wr (.slice (some ⟨b + 1, 0, none⟩) m m) vs L ∧ L.length = m ∧ (∀ j, j < k → L.getD j [] = List.replicate n 0) ∧ (∀ j, k ≤ j → L.getD j [] = []) ∧ Only (· = b + 1) wx wr) (fun i _ => m - (intOf i).toNat)
  case atStart => exact ⟨0, _, _, by omega, rfl, HO1.out, by simp, fun _ h => absurd h (by omega), fun j _ => by
    rw [List.getD_eq_getElem?_getD]
    rcases Nat.lt_or_ge j m with hi | hi
    · rw [List.getElem?_replicate, if_pos hi]; rfl
    · rw [List.getElem?_eq_none (by simpa using hi)]; rfl, Only.refl _ _⟩
  case round =>
    obtain ⟨k, vs, L, hk, rfl, ho, hl, h1, h2, hon⟩ := hrel
    have HO := Lib.hid ho; have HL := Lib.hid hl; have H1 := Lib.hid h1; have H2 := Lib.hid h2; have HON := Lib.hid hon
    have hszr := hon.size
    have ec := (hon.block c (by omega) hcb).trans HEC.out
    have c0 := cell_blk ec 0
    have c1 := cell_blk ec 1
    simp only [List.getElem?_toArray, List.getElem?_cons_zero, List.getElem?_cons_succ] at c0 c1
    by_cases hlt2 : k < m
    · have hkL : k < L.length := by rw [HL.out]; exact hlt2
      have hod := ho.carry (grownBy_alloc wr (.cells (zeroCells n) 3) none)
      have hcell := hod.cell hl.symm hkL
      have hfree := hod.free hl.symm k
      have z0 := fun o => cell_alloc (w := wr) c0 o
      have z1 := fun o => cell_alloc (w := wr) c1 o
      have hrow := row_made (B := wr.heap.size) n (by omega) wr (Nat.le_refl _)
      have HP := Lib.hid (hod.putNew hl.symm hkL (hrow.base (by omega)) (fun j => fresh_apart ho hrow j))
      have HOG := Lib.hid (Only.of_grown (S := (· = b + 1)) (grownBy_alloc wr (.cells (zeroCells n) 3) none) (by simp))
      generalize vs.getD k nilS = old at hcell
      clear ho hl h1 h2 hon ec hod hrow hkL
      generalize zeroCells n = Z at *
      go_wp2_with fail
      go_region
      go_wp2
      go_roundw
      case rel =>
        have hkL : k < L.length := by rw [HL.out]; exact hlt2
        refine ⟨k + 1, _, _, by omega, by go_num, HP.out.1.only (Only.drew (fun _ => False) _) (fun _ _ h => h), by rw [List.length_set]; exact HL.out, fun j hj => ?_, fun j hj => ?_, ((HON.out.trans HOG.out).trans HP.out.2).trans (Only.drew _ _)⟩
        · rw [getD_setL hkL]
          split
          · rfl
          · exact H1.out j (by omega)
        · rw [getD_setL hkL, if_neg (by omega)]
          exact H2.out j (by omega)
      case measure => simp [intOf]; omega
    · have hfin : L = List.replicate m (List.replicate n 0) := by
        refine List.ext_getElem (by rw [HL.out]; simp) fun j h1' h2' => ?_
        have := H1.out j (by have := HL.out; omega)
        rw [List.getD_eq_getElem?_getD, List.getElem?_eq_getElem h1', Option.getD_some] at this
        rw [this]; simp
      have HF := Lib.hid hfin
      have e0 := (hon.block b (by omega) (by omega)).trans HE0.out
      have r0 := cell_blk e0 0
      have r1 := cell_blk e0 1
      have f0 := free_blk e0 0
      have f1 := free_blk e0 1
      simp only [List.getElem?_toArray, List.getElem?_cons_zero, List.getElem?_cons_succ] at r0 r1
      have HFN := Lib.hid (foot_ne e0 ho)
      clear ho hl h1 h2 ec hfin e0
      go_wp2
      refine bodyPost_ret_by (v := .agg #[.int .i64 n, .slice (some ⟨b + 1, 0, none⟩) m m]) ?_ rfl ?_
      · simp [results, go_sem, *]
      · have o5 := one_set (w := wr) b (.int .i64 n) (.slice (some ⟨b + 1, 0, none⟩) m m)
        refine ⟨_, vs, rfl, ?_, ?_⟩
        · rw [← HF.out]
          exact (HO.out.only o5 fun q hq hq' => by have e : q = b := hq'; rw [e] at hq; exact HFN.out hq).base (by have := HBE.out; omega)
        · refine grown_of_below ((Below.grown (Below.refl _ w) HGX.out (Nat.le_refl _) (by simp)).trans ((hon.below (B := w.heap.size) HGX.out.size fun q hq => by rw [HBE.out]; omega).trans (o5.below (Nat.le_trans HGX.out.size hszr) fun q hq => by rw [HBE.out]; omega)))

theorem unit_step {n k : Nat} (hk : k < n) : (List.replicate n (0 : Int)).set k 1 = unitL n k := rfl

theorem mxId_any (n : Nat) (w : World) (hn : n ≤ 1000) :
    Calls Tryd.prog 256 #[.int .i64 n] w fun e w' => ∃ o vs, e = .returned (mxV n o) ∧ OwnM w.heap.size w' o vs (idL n) ∧ w.grownBy w' none := by
  have HZ := Lib.hid (mxZero_any n n (w.alloc (.cells #[.int .i64 0, .slice none 0 0] 39)) hn hn)
  unfold mxV at *
  go_enter Tryd.func256, Tryd.ntmps256
  go_wp2_with (
    go_at_call 277
    refine HZ.out.mono ?_
    rintro e w1 ⟨o, vs, rfl, ho, hg⟩
    obtain ⟨oa, oc, hoe, hx⟩ := ho.read
    clear hx
    simp only [List.length_replicate] at hoe
    subst hoe
    have HO := Lib.hid ho; have HG := Lib.hid hg
    clear ho hg)
  have hsz : (w.alloc (.cells #[.int .i64 0, .slice none 0 0] 39)).heap.size = w.heap.size + 1 := by simp
  have hb1 := HG.out.size
  have e0 := (HG.out.block w.heap.size (by simp) (by simp)).trans (alloc_heap_new w _)
  have e0x := (alloc_heap_old w1 (.cells #[.int .i64 n, .slice oa n oc] 39) w.heap.size (by omega)).trans e0
  have ecx := alloc_heap_new w1 (.cells #[.int .i64 n, .slice oa n oc] 39)
  have hsx : (w1.alloc (.cells #[.int .i64 n, .slice oa n oc] 39)).heap.size = w1.heap.size + 1 := by simp
  have HGX := Lib.hid (((grownBy_alloc w (.cells #[.int .i64 0, .slice none 0 0] 39) none).trans HG.out).trans (grownBy_alloc w1 (.cells #[.int .i64 n, .slice oa n oc] 39) none))
  have ho1 := HO.out.carry (grownBy_alloc w1 (.cells #[.int .i64 n, .slice oa n oc] 39) none)
  rw [hsz] at ho1 hb1
  have HO1 := Lib.hid ho1
  have HE0 := Lib.hid e0x; have HEC := Lib.hid ecx
  clear ho1 HO HG e0 hsz e0x ecx HZ
  generalize hwx : w1.alloc (.cells #[.int .i64 n, .slice oa n oc] 39) = wx at *
  clear hwx
  generalize hbe : w.heap.size = b at *
  have HBE := Lib.hid hbe
  clear hbe
  generalize hce : w1.heap.size = c at *
  clear hce
  go_loopw [4] (fun i wr => ∃ (k : Nat) (L : List (List Int)), k ≤ n ∧ i = .int .i64 k ∧ OwnM (b + 1) wr (.slice oa n oc) vs L ∧ L.length = n ∧ (∀ j, j < k → L.getD j [] = unitL n j) ∧ (∀ j, k ≤ j → j < n → L.getD j [] = List.replicate n 0) ∧ wr.heap[c]? = some (.cells #[.int .i64 n, .slice oa n oc] 39 (0, 0)) ∧ Below (b + 1) wx wr) (fun i _ => n - (intOf i).toNat)
  case atStart => exact ⟨0, _, by omega, rfl, HO1.out, by simp, fun _ h => absurd h (by omega), fun j _ h => by
    rw [List.getD_eq_getElem?_getD, List.getElem?_replicate, if_pos h]; rfl, HEC.out, Below.refl _ _⟩
  case round =>
    obtain ⟨k, L, hk, rfl, ho, hl, h1, h2, ec, hbel⟩ := hrel
    have HO := Lib.hid ho; have HL := Lib.hid hl; have H1 := Lib.hid h1; have H2 := Lib.hid h2; have HB := Lib.hid hbel; have HC := Lib.hid ec
    have hszr := hbel.size
    have c0 := cell_blk ec 0
    have c1 := cell_blk ec 1
    simp only [List.getElem?_toArray, List.getElem?_cons_zero, List.getElem?_cons_succ] at c0 c1
    by_cases hlt2 : k < n
    · have hkL : k < L.length := by rw [HL.out]; exact hlt2
      have hkz := h2 k (Nat.le_refl _) hlt2
      obtain ⟨g, cap, hve, hg0, hg1, hhit⟩ := ho.head (by intro h; rw [h] at hkL; simp at hkL)
      rw [hl] at hve
      simp only [Value.slice.injEq, true_and] at hve
      obtain ⟨rfl, rfl⟩ := hve
      have hle : (L.getD k []).length = n := by rw [hkz]; simp
      obtain ⟨gi, ci, a1, a2, a3, a4, d1, d2, d3, d4⟩ := ho.elemAt hl.symm hkL (j := k) (by rw [hle]; exact hlt2)
      have D4 := Lib.hid d4
      rw [hle] at d1
      have hgc : gi ≠ c := by
        intro e
        subst e
        exact foot_ne ec ho (Foot.at a4)
      have A1 := Lib.hid a1
      generalize at2 L k k = z at d2
      clear ho hl h1 h2 ec hbel hg0 hg1 hhit hkL hle d4 a1 a4
      go_wp2
      go_roundw
      case rel =>
        have hkL : k < L.length := by rw [HL.out]; exact hlt2
        refine ⟨k + 1, _, by omega, by go_num, (D4.out 1).1, by rw [List.length_set]; exact HL.out, fun j hj => ?_, fun j hj hj2 => ?_, ((D4.out 1).2.block c (lt_of_blk HC.out) (fun e => hgc e.symm)).trans HC.out, HB.out.trans ((D4.out 1).2.below (by omega) fun q hq => by rw [hq]; exact A1.out)⟩
        · rw [getD_setL hkL]
          split
          · next h => rw [h, hkz]; rfl
          · exact H1.out j (by omega)
        · rw [getD_setL hkL, if_neg (by omega)]
          exact H2.out j (by omega) hj2
      case measure => simp [intOf]; omega
    · have hfin : L = idL n := by
        refine List.ext_getElem (by rw [HL.out, idL_len]) fun j h1' h2' => ?_
        have := H1.out j (by have := HL.out; omega)
        rw [List.getD_eq_getElem?_getD, List.getElem?_eq_getElem h1', Option.getD_some] at this
        rw [this]; simp [idL]
      have HF := Lib.hid hfin
      have e0 := (hbel.block b (by omega)).trans HE0.out
      have r0 := cell_blk e0 0
      have r1 := cell_blk e0 1
      have f0 := free_blk e0 0
      have f1 := free_blk e0 1
      simp only [List.getElem?_toArray, List.getElem?_cons_zero, List.getElem?_cons_succ] at r0 r1
      clear ho hl h1 h2 ec hfin e0 hbel
      go_wp2
      refine bodyPost_ret_by (v := .agg #[.int .i64 n, .slice oa n oc]) ?_ rfl ?_
      · simp [results, go_sem, *]
      · have o5 := one_set (w := wr) b (.int .i64 n) (.slice oa n oc)
        refine ⟨_, vs, rfl, ?_, ?_⟩
        · rw [← HF.out]
          exact (HO.out.only o5 fun q hq hq' => by have := (HO.out.lt hq).1; omega).base (by have := HBE.out; omega)
        · exact grown_of_below ((Below.grown (Below.refl _ w) HGX.out (Nat.le_refl _) (by simp)).trans ((HB.out.mono (by rw [HBE.out]; omega)).trans (o5.below (Nat.le_trans HGX.out.size hszr) fun q hq => by rw [HBE.out]; omega)))

theorem copy_start (w : World) (c1 : Array Value) (n : Int) :
    let w0 := ((w.alloc (.cells c1 39)).alloc (.cells #[.int .i64 0, .slice none 0 0] 39)).alloc (.cells #[.int .i64 n, .slice none 0 0] 39)
    w0.heap[w.heap.size]? = some (.cells c1 39 (0, 0)) ∧ w0.heap[w.heap.size + 1]? = some (.cells #[.int .i64 0, .slice none 0 0] 39 (0, 0)) ∧
    w0.heap[w.heap.size + 1 + 1]? = some (.cells #[.int .i64 n, .slice none 0 0] 39 (0, 0)) ∧ OwnM (w.heap.size + 1 + 1) w0 (.slice none 0 0) [] [] ∧ w.grownBy w0 none ∧ w0.heap.size = w.heap.size + 1 + 1 + 1 := by
  intro w0
  have hb := blk3 w (.cells c1 39) (.cells #[.int .i64 0, .slice none 0 0] 39) (.cells #[.int .i64 n, .slice none 0 0] 39) (grownBy_refl _ none)
  exact ⟨hb.1, hb.2.1, hb.2.2.1, OwnM.start (World.ownsRow_nil _ _ _ _), ((grownBy_alloc _ _ none).trans (grownBy_alloc _ _ none)).trans (grownBy_alloc _ _ none), by simp [w0]⟩

set_option maxRecDepth 100000 in
set_option maxHeartbeats 1000000 in
theorem mxCopy_any (n : Int) (u : Value) (A : List (List Int)) (w : World) (hu : MatV w u A) (ha : A.length ≤ 1000) (hall : ∀ row ∈ A, row.length ≤ 1000) :
    Calls Tryd.prog 255 #[mxV n u] w fun e w' => ∃ o vs, e = .returned (mxV n o) ∧ OwnM w.heap.size w' o vs A ∧ w.grownBy w' none := by
  obtain ⟨ua, uc, rfl⟩ := hu.shape
  have HU := Lib.hid hu; have HALL := Lib.hid hall
  clear hu hall
  unfold mxV at *
  generalize hla : A.length = la at *
  have HLA := Lib.hid hla
  clear hla
  go_enter Tryd.func255, Tryd.ntmps255
  go_wp2_with fail
  have hw0 := copy_start w #[.int .i64 n, .slice ua la uc] n
  generalize ((w.alloc (.cells #[.int .i64 n, .slice ua la uc] 39)).alloc (.cells #[.int .i64 0, .slice none 0 0] 39)).alloc (.cells #[.int .i64 n, .slice none 0 0] 39) = w0 at *
  obtain ⟨g0, g1, g2, gow, ggr, gsz⟩ := hw0
  have G0 := Lib.hid g0; have G1 := Lib.hid g1; have G2 := Lib.hid g2; have GO := Lib.hid gow; have GG := Lib.hid ggr; have GS := Lib.hid gsz
  clear g0 g1 g2 gow ggr gsz
  generalize hbe : w.heap.size = b at *
  have HBE := Lib.hid hbe
  clear hbe
  go_loopw [12] (fun i wr => ∃ (k : Nat) (oa : Option Addr) (oc : Nat) (vs : List Value), k ≤ la ∧ i = .int .i64 k ∧ wr.heap[b + 1 + 1]? = some (.cells #[.int .i64 n, .slice oa k oc] 39 (0, 0)) ∧
      OwnM (b + 1 + 1) wr (.slice oa k oc) vs (A.take k) ∧ Below (b + 1 + 1) w0 wr) (fun i _ => la - (intOf i).toNat)
  case atStart => exact ⟨0, _, _, [], by omega, rfl, G2.out, GO.out, Below.refl _ _⟩
  case round =>
    obtain ⟨k, oa, oc, vs, hk, rfl, h4, hown, hbel⟩ := hrel
    have H4 := Lib.hid h4; have HO := Lib.hid hown; have HB := Lib.hid hbel
    have hszr := hbel.size
    have hgr : w.grownBy wr none := grown_of_below ((Below.grown (Below.refl _ w) GG.out (Nat.le_refl _) (by simp)).trans (hbel.mono (by rw [HBE.out]; omega)))
    have HGR := Lib.hid hgr
    clear hown hbel
    by_cases hlt : k < la
    · have hka : k < A.length := by rw [HLA.out]; exact hlt
      obtain ⟨d, r, c, hae, hs, hd, hcell, hrow⟩ := HU.out.row hka
      have hrl := HALL.out _ (List.getElem_mem hka)
      have hcell2 := (World.cell?_of_block (w := w) (a := ⟨d.block, d.off + k, none⟩) (hgr.block d.block hd (by simp))).trans hcell
      subst hae
      obtain ⟨db, dof, _⟩ := d
      simp only at hs hcell2
      subst hs
      have HN := Lib.hid (take_push hka).symm
      have hlk : (A.take k).length = k := by rw [List.length_take, HLA.out]; omega
      have HLK := Lib.hid hlk
      have HC := Lib.hid fun w' (h : w.grownBy w' none) => l1Own_any _ A[k] w' (hrow.carry h) (by omega)
      have c41 := cell_blk h4 1
      simp only [List.getElem?_toArray, List.getElem?_cons_zero, List.getElem?_cons_succ] at c41
      have hgd : w.grownBy wr.drew none := ⟨hgr.os, hgr.tape, hgr.output, hgr.size, hgr.block⟩
      have HGD := Lib.hid hgd
      have hszr2 : b + 1 + 1 ≤ wr.drew.heap.size := by have := GS.out; show _ ≤ wr.heap.size; omega
      clear hlk hrow hcell hgd hgr h4 hrl
      generalize hrw : A[k] = row at *
      clear hrw
      generalize row.length = rl at *
      go_wp2_with fail
      go_region_law
        (first
        | (go_simp
           go_at_call 217
           refine (HC.out _ HGD.out).mono ?_
           rintro e w2 ⟨o, rfl, ho, hg⟩
           obtain ⟨oa2, oc2, hoe⟩ := own_shape ho
           subst hoe
           have A1 := Lib.hid (after_row (HO.out.only (Only.drew (fun _ => False) wr) (fun _ _ h => h)) hszr2 (ho) hg)
           have HG2 := Lib.hid hg
           have q4 := (hg.block (b + 1 + 1) (lt_of_blk (w := wr.drew) H4.out) (by simp)).trans H4.out
           have q41 := cell_blk q4 1
           simp only [List.getElem?_toArray, List.getElem?_cons_zero, List.getElem?_cons_succ] at q41
           have z41 := fun o => cell_alloc q41 o
           clear ho hg q4)
        | (refine step_app_row rfl _ _ rfl rfl rfl A1.out.1 A1.out.2.1 A1.out.2.2.1 A1.out.2.2.2 (by rw [HLK.out]; omega) ?_
           intro g3 vc3 w3 hown' hon'
           rw [HLK.out] at hown' ⊢
           have HO3 := Lib.hid hown'; have HN3 := Lib.hid hon'
           have h43 := times_keep H4.out HG2.out A1.out.1 hon'
           have H43 := Lib.hid h43
           have c43 := cell_blk h43 1
           have f43 := free_blk h43 1
           simp only [List.getElem?_toArray, List.getElem?_cons_zero, List.getElem?_cons_succ] at c43
           clear hown' hon' h43))
      all_goals
        have FIN := Lib.hid (times_fin (x := .slice (some ⟨g3, 0, none⟩) (k + 1) vc3) H43.out HO3.out)
        have FB := Lib.hid (times_below HB.out hszr2 HG2.out A1.out.1 HN3.out (b4 := b + 1 + 1) (x := .slice (some ⟨g3, 0, none⟩) (k + 1) vc3) (by omega))
        clear c43 f43 q41 z41
        go_wp2
        go_roundw
        case rel => exact ⟨k + 1, _, _, _, by omega, by go_num, FIN.out.1, by rw [HN.out]; exact FIN.out.2, FB.out⟩
        case measure => simp [intOf]; omega
    · have hkm : k = la := by omega
      subst hkm
      have hall : A.take k = A := List.take_of_length_le (by rw [HLA.out]; exact Nat.le_refl _)
      have HAL2 := Lib.hid hall
      have e2 := (HB.out.block (b + 1) (by omega)).trans G1.out
      have c40 := cell_blk h4 0
      have c41 := cell_blk h4 1
      have c20 := cell_blk e2 0
      have c21 := cell_blk e2 1
      have f20 := free_blk e2 0
      have f21 := free_blk e2 1
      simp only [List.getElem?_toArray, List.getElem?_cons_zero, List.getElem?_cons_succ] at c40 c41 c20 c21
      clear h4 hgr hall e2
      go_wp2
      refine bodyPost_ret_by (v := .agg #[.int .i64 n, .slice oa k oc]) ?_ rfl ?_
      · simp [results, go_sem, *]
      · have o5 := one_set (w := wr) (b + 1) (.int .i64 n) (.slice oa k oc)
        refine ⟨_, vs, rfl, ?_, ?_⟩
        · have := HO.out
          rw [HAL2.out] at this
          exact (this.only o5 fun q hq hq' => by have := (HO.out.lt (by exact hq)).1; omega).base (by have := HBE.out; omega)
        · exact grown_of_below ((Below.grown (Below.refl _ w) HGR.out (Nat.le_refl _) (by simp)).trans (o5.below HGR.out.size fun q hq => by rw [HBE.out]; omega))

end Go.Proofs.YtpeaeminjbjlnaaDoor

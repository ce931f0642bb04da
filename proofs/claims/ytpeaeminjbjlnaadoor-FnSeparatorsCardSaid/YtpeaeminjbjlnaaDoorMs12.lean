/-
  Spaces checked and spanned. Conditions: the sizes are small.
-/
import Derived.Test.YtpeaeminjbjlnaaDoorMs11
import Derived.Test.YtpeaeminjbjlnaaDoorMs09
import Derived.Deep.RegionHeld3
import Derived.Deep.RegionWith
namespace Go.Proofs.YtpeaeminjbjlnaaDoor
open Go.RowKit
set_option linter.unusedVariables false

/-- what a box of two cells gives the walk -/
theorem bx {w : World} {k : Nat} {x y : Value} {t : TypeId} (h : w.heap[k]? = some (.cells #[x, y] t (0, 0))) :
    w.cell? ⟨k, 0, none⟩ = some x ∧ w.cell? ⟨k, 1, none⟩ = some y ∧ w.frozen? ⟨k, 0, none⟩ = false ∧ w.frozen? ⟨k, 1, none⟩ = false :=
  ⟨cell_blk h 0, cell_blk h 1, free_blk h 0, free_blk h 1⟩
theorem bx_on {w w' : World} {k : Nat} {o : Obj} (h : w.heap[k]? = some o) (hg : w.grownBy w' none) : w'.heap[k]? = some o := (hg.block k (lt_of_blk h) (by simp)).trans h
theorem Pre.only {B : Nat} {S : Nat → Prop} {w w' : World} {v : Value} {L : List (List Int)} (h : Pre B w v L) (ho : Only S w w') (hS : ∀ k, S k → k < B) : Pre B w' v L := by
  obtain ⟨a, m, c, c', vs, R, h1, h2, h3, h4⟩ := h
  exact ⟨a, m, c, c', vs, R, h1, h2.only ho fun k hk hk' => by have := (h2.lt hk).1; have := hS k hk'; omega, h3, h4⟩
theorem Pre.shape {B : Nat} {w : World} {v : Value} {L : List (List Int)} (h : Pre B w v L) : ∃ a c, v = .slice a L.length c := by
  obtain ⟨a, m, c, c', vs, R, h1, _⟩ := h
  exact ⟨a, c', h1⟩
/-- a result's box of two cells is written, nothing old is -/
theorem box_end {w w1 : World} (x y : Value) (hg : w.grownBy w1 none) (hs : w.heap.size < w1.heap.size) : w.grownBy ((w1.setCell ⟨w.heap.size, 0, none⟩ x).setCell ⟨w.heap.size, 1, none⟩ y) none :=
  grown_of_below ((Below.grown (Below.refl _ w) hg (Nat.le_refl _) (by simp)).trans ((one_set (w := w1) w.heap.size x y).below hg.size fun q hq => by omega))

def spaceB (p n : Int) (L : List (List Int)) : Bool := fldB p && (decide (0 ≤ n ∧ n ≤ 24) && redB p n L)
theorem spaceB_parts {p n : Int} {L : List (List Int)} (h : spaceB p n L = true) : fldB p = true ∧ 0 ≤ n ∧ n ≤ 24 ∧ (L.length : Int) ≤ n ∧ rowsB p n L = true ∧ reducedL p n.toNat L = L := by
  unfold spaceB redB at h
  simp only [Bool.and_eq_true, decide_eq_true_eq, beq_iff_eq] at h
  obtain ⟨h1, ⟨h2, h3⟩, h4, h5, h6⟩ := h
  exact ⟨h1, h2, h3, h4, h5, h6⟩
/-- what a space is, in numbers of the program's kind -/
theorem spaceB_nat {p n : Int} {L : List (List Int)} (h : spaceB p n L = true) : ∃ (q : Nat) (_ : NeZero q) (m : Nat), p = q ∧ n = m ∧ fldN q = true ∧ q ≤ 97 ∧ m ≤ 24 ∧ L.length ≤ m ∧ IsRed q m L ∧ RowsOk q m L := by
  obtain ⟨h1, h2, h3, h4, h5, h6⟩ := spaceB_parts h
  obtain ⟨b1, b2⟩ := fldB_bd h1
  obtain ⟨q, rfl⟩ := Int.eq_ofNat_of_zero_le (show 0 ≤ p by omega)
  obtain ⟨m, rfl⟩ := Int.eq_ofNat_of_zero_le h2
  haveI : NeZero q := ⟨by omega⟩
  rw [fldB_nat] at h1
  have hok := rowsB_ok.1 h5
  have hr := reducedL_red h1 hok
  rw [Int.toNat_natCast] at h6
  rw [h6] at hr
  exact ⟨q, inferInstance, m, rfl, rfl, h1, by omega, by omega, by omega, hr, hok⟩

set_option maxRecDepth 100000 in
theorem isSpace_any (p n : Int) (v : Value) (L : List (List Int)) (w : World) (ht : Tab w) (hv : MatV w v L) (hl : L.length ≤ 1000000) (hll : ∀ row ∈ L, row.length ≤ 1000000) :
    Calls Tryd.prog 171 #[.int .i64 p, mxV n v] w fun e w' => e = .returned (.bool (spaceB p n L)) ∧ w.grownBy w' none := by
  unfold mxV
  have hgr := grownBy_alloc w (.cells #[.int .i64 n, v] 74) none
  have HT := Lib.hid (isField_any p _ (ht.alloc (.cells #[.int .i64 n, v] 74)))
  have HGR := Lib.hid hgr
  have HV := Lib.hid (hv.carry hgr)
  have HW := Lib.hid fun w' => within_any n 0 24 w'
  clear hgr hv
  cases h1 : fldB p
  · have hfin : spaceB p n L = false := by unfold spaceB; rw [h1]; rfl
    have HF := Lib.hid hfin
    rw [h1] at HT
    clear h1 hfin
    go_enter Tryd.func171, Tryd.ntmps171
    go_wp2_with (go_at_call 204; with_reducible refine HT.out.mono ?_; rintro e w' ⟨rfl, rfl⟩)
    go_ret
    exact ⟨by rw [HF.out]; rfl, HGR.out⟩
  · cases h2 : decide (0 ≤ n ∧ n ≤ 24)
    · have hfin : spaceB p n L = false := by unfold spaceB; rw [h1, h2]; rfl
      have HF := Lib.hid hfin
      rw [h1] at HT
      rw [h2] at HW
      clear h1 hfin h2
      go_enter Tryd.func171, Tryd.ntmps171
      go_wp2_with (first
        | (go_at_call 204; with_reducible refine HT.out.mono ?_; rintro e w' ⟨rfl, rfl⟩)
        | (go_at_call 125; with_reducible refine (HW.out _).mono ?_; rintro e w' ⟨rfl, rfl⟩))
      go_ret
      exact ⟨by rw [HF.out]; rfl, HGR.out⟩
    · have hfin : spaceB p n L = redB p n L := by unfold spaceB; rw [h1, h2]; rfl
      have HF := Lib.hid hfin
      obtain ⟨b1, b2⟩ := fldB_bd h1
      have b3 := of_decide_eq_true h2
      have h1' := h1
      rw [h1] at HT
      rw [h2] at HW
      clear h1 hfin h2
      obtain ⟨q, rfl⟩ := Int.eq_ofNat_of_zero_le (show 0 ≤ p by omega)
      obtain ⟨m, rfl⟩ := Int.eq_ofNat_of_zero_le (show 0 ≤ n by omega)
      haveI : NeZero q := ⟨by omega⟩
      rw [fldB_nat] at h1'
      have HR := Lib.hid (isReduced_any q m v L _ h1' (by omega) HV.out (by omega) hl hll)
      clear h1' hll
      generalize redB q m L = rb at *
      go_enter Tryd.func171, Tryd.ntmps171
      go_wp2_with (first
        | (go_at_call 204; with_reducible refine HT.out.mono ?_; rintro e w' ⟨rfl, rfl⟩)
        | (go_at_call 125; with_reducible refine (HW.out _).mono ?_; rintro e w' ⟨rfl, rfl⟩)
        | (go_at_call 267
           with_reducible refine HR.out.mono ?_
           rintro e w2 ⟨rfl, hg⟩
           have HG := Lib.hid hg
           clear hg))
      go_ret
      exact ⟨by rw [HF.out]; rfl, HGR.out.trans HG.out⟩

set_option maxRecDepth 100000 in
theorem span_any (p : Nat) [NeZero p] (n : Nat) (v : Value) (L : List (List Int)) (w : World) (hf : fldN p = true) (hp2 : p ≤ 1000) (hv : MatV w v L) (hL : RowsOk p n L) (hm : L.length ≤ 1000) (hn : n ≤ 1000) :
    Calls Tryd.prog 166 #[.int .i64 p, .int .i64 n, v] w fun e w' => ∃ o, e = .returned (mxV n o) ∧ Pre w.heap.size w' o (reducedL p n L) ∧ w.grownBy w' none := by
  have hgr := grownBy_alloc w (.cells #[.int .i64 0, .slice none 0 0] 74) none
  have hs : (w.alloc (.cells #[.int .i64 0, .slice none 0 0] 74)).heap.size = w.heap.size + 1 := by simp
  have HR := Lib.hid (reduced_own p v L n _ hf hp2 (hv.carry hgr) hL hm hn)
  have HS := Lib.hid hs
  unfold mxV
  clear hv hL hgr hs
  generalize reducedL p n L = red at *
  go_enter Tryd.func166, Tryd.ntmps166
  go_wp2_with (
    go_at_call 126
    with_reducible refine HR.out.mono ?_
    rintro e w1 ⟨ra, rc, rfl, hp, hg⟩
    obtain ⟨hbl, hgw⟩ := box1 w _ _ hg
    have HP := Lib.hid hp; have HG := Lib.hid hgw
    have HZ := Lib.hid hg.size
    obtain ⟨c0, c1, f0, f1⟩ := bx hbl
    clear hp hg hbl hgw)
  refine bodyPost_ret_by (v := .agg #[.int .i64 n, .slice ra red.length rc]) ?_ rfl ?_
  · simp [results, go_sem, *]
  · have hp := HP.out
    have hz := HZ.out
    rw [HS.out] at hp hz
    exact ⟨_, rfl, (hp.only (one_set (w := w1) w.heap.size (.int .i64 n) (.slice ra red.length rc)) (fun k hk => by have : k = w.heap.size := hk; omega)).base (by omega), box_end _ _ HG.out (by omega)⟩

def spanB (p n : Int) (L : List (List Int)) : Bool := fldB p && (decide (0 ≤ n ∧ n ≤ 24) && (decide (L.length ≤ 48) && rowsB p n L))
set_option maxRecDepth 100000 in
theorem spanOf_no (p n : Int) (v : Value) (L : List (List Int)) (w : World) (ht : Tab w) (hv : MatV w v L) (hl : L.length ≤ 1000000) (hll : ∀ row ∈ L, row.length ≤ 1000000) (hno : spanB p n L = false) :
    Calls Tryd.prog 79 #[.int .i64 p, .int .i64 n, v] w fun e w' => e = .returned (.tuple #[mxV 0 nilS, .bool false]) ∧ w.grownBy w' none := by
  have hgr := grownBy_alloc w (.cells #[.int .i64 0, .slice none 0 0] 74) none
  have HT := Lib.hid (isField_any p _ (ht.alloc (.cells #[.int .i64 0, .slice none 0 0] 74)))
  have HA := Lib.hid (areVectors_any p n v L _ (hv.carry hgr) hl hll)
  have HW := Lib.hid fun w' => within_any n 0 24 w'
  have HG := Lib.hid hgr
  unfold spanB at hno
  unfold mxV nilS
  obtain ⟨a, c, rfl⟩ := hv.shape
  clear hv hll hgr
  cases h1 : fldB p <;> cases h2 : decide (0 ≤ n ∧ n ≤ 24) <;> cases h4 : rowsB p n L <;> by_cases h3 : L.length ≤ 48
  all_goals
    rw [h1] at HT
    rw [h2] at HW
    rw [h4] at HA
    first
      | (exfalso; rw [h1, h2, h4, decide_eq_true h3] at hno; exact absurd hno (by decide))
      | (clear h1 h2 h4 hno
         generalize L.length = l at *
         try (have h3i : (48 : Int) < (l : Int) := by omega)
         go_enter Tryd.func79, Tryd.ntmps79
         go_wp2_with (first
           | (go_at_call 204; with_reducible refine HT.out.mono ?_; rintro e w' ⟨rfl, rfl⟩)
           | (go_at_call 125; with_reducible refine (HW.out _).mono ?_; rintro e w' ⟨rfl, rfl⟩)
           | (go_at_call 205; with_reducible refine HA.out.mono ?_; rintro e w' ⟨rfl, rfl⟩))
         refine bodyPost_ret_by (v := .tuple #[.agg #[.int .i64 0, .slice none 0 0], .bool false]) ?_ rfl ⟨rfl, HG.out⟩
         simp [results, go_sem, *])
set_option maxRecDepth 100000 in
theorem spanOf_yes (p n : Int) (v : Value) (L : List (List Int)) (w : World) (ht : Tab w) (hv : MatV w v L) (hb : spanB p n L = true) :
    Calls Tryd.prog 79 #[.int .i64 p, .int .i64 n, v] w fun e w' => ∃ o, e = .returned (.tuple #[mxV n o, .bool true]) ∧ Pre w.heap.size w' o (reducedL p n.toNat L) ∧ w.grownBy w' none := by
  unfold spanB at hb
  simp only [Bool.and_eq_true, decide_eq_true_eq] at hb
  obtain ⟨h1, ⟨h2, h2'⟩, h3, h4⟩ := hb
  obtain ⟨b1, b2⟩ := fldB_bd h1
  obtain ⟨q, rfl⟩ := Int.eq_ofNat_of_zero_le (show 0 ≤ p by omega)
  obtain ⟨m, rfl⟩ := Int.eq_ofNat_of_zero_le h2
  haveI : NeZero q := ⟨by omega⟩
  rw [Int.toNat_natCast]
  have hok := rowsB_ok.1 h4
  have hgr := grownBy_alloc w (.cells #[.int .i64 0, .slice none 0 0] 74) none
  have hs : (w.alloc (.cells #[.int .i64 0, .slice none 0 0] 74)).heap.size = w.heap.size + 1 := by simp
  have HT := isField_any q _ (ht.alloc (.cells #[.int .i64 0, .slice none 0 0] 74))
  have HA := areVectors_any q m v L _ (hv.carry hgr) (by omega) (fun row hrow => by rw [(hok row hrow).1]; omega)
  rw [h1] at HT
  rw [h4] at HA
  have HT := Lib.hid HT; have HA := Lib.hid HA
  have HW := within_any m 0 24
  rw [decide_eq_true (show (0 : Int) ≤ m ∧ (m : Int) ≤ 24 by omega)] at HW
  have HW := Lib.hid HW
  rw [fldB_nat] at h1
  have HR := Lib.hid (span_any q m v L _ h1 (by omega) (hv.carry hgr) hok (by omega) (by omega))
  have HS := Lib.hid hs
  unfold mxV at *
  obtain ⟨a, c, rfl⟩ := hv.shape
  clear hv hgr hs h4 hok h1 b1
  have hl3 : ¬ (48 : Int) < (L.length : Int) := by omega
  generalize reducedL q m L = red at *
  generalize L.length = l at *
  go_enter Tryd.func79, Tryd.ntmps79
  go_wp2_with (first
    | (go_at_call 204; with_reducible refine HT.out.mono ?_; rintro e w' ⟨rfl, rfl⟩)
    | (go_at_call 125; with_reducible refine (HW.out _).mono ?_; rintro e w' ⟨rfl, rfl⟩)
    | (go_at_call 205; with_reducible refine HA.out.mono ?_; rintro e w' ⟨rfl, rfl⟩)
    | (go_at_call 166
       with_reducible refine HR.out.mono ?_
       rintro e w1 ⟨o, rfl, hp, hg⟩
       obtain ⟨ra, rc, rfl⟩ := hp.shape
       obtain ⟨hbl, hgw⟩ := box1 w _ _ hg
       have HP := Lib.hid hp; have HG := Lib.hid hgw
       have HZ := Lib.hid hg.size
       obtain ⟨c0, c1, f0, f1⟩ := bx hbl
       clear hp hg hbl hgw))
  refine bodyPost_ret_by (v := .tuple #[.agg #[.int .i64 m, .slice ra red.length rc], .bool true]) ?_ rfl ?_
  · simp [results, go_sem, *]
  · have hp := HP.out
    have hz := HZ.out
    rw [HS.out] at hp hz
    exact ⟨_, rfl, (hp.only (one_set (w := w1) w.heap.size (.int .i64 m) (.slice ra red.length rc)) (fun k hk => by have : k = w.heap.size := hk; omega)).base (by omega), box_end _ _ HG.out (by omega)⟩

end Go.Proofs.YtpeaeminjbjlnaaDoor

/-
  The specification's row operations: a row multiplied, a multiple of a row subtracted. Conditions: the elements are small.
-/
namespace Go.Proofs.YtpeaeminjbjlnaaDoor
open Go.RowKit
set_option linter.unusedVariables false

theorem less_eq (p k a s : Int) : (a + p - k * s % p) % p = (a + -k * s) % p := by
  have h := Int.emod_add_mul_ediv (k * s) p
  have e : a + -k * s = (a + p - k * s % p) + p * (-(k * s / p) - 1) := by grind
  rw [e, Int.add_mul_emod_self_left]

theorem mxScale_any (p k : Int) (v : Value) (x : List Int) (B : Nat) (w : World) (hv : OwnInts B w v x) (hlm : x.length ≤ 1000000) (hp : 2 ≤ p) (hp2 : p ≤ 1000) (hk0 : 0 ≤ k) (hk1 : k ≤ 1000) (hx : ∀ z ∈ x, 0 ≤ z ∧ z ≤ 1000) :
    Calls Tryd.prog 257 #[.int .i64 p, v, .int .i64 k] w fun e w' => e = .returned (.tuple #[]) ∧ OwnInts B w' v (scaleV p x k) ∧ Only (Hits v) w w' := by
  have HX := Lib.hid hx; have HV := Lib.hid hv
  have hsh := own_shape hv
  obtain ⟨a0, cap0, rfl⟩ := hsh
  clear hx hv
  generalize hlen : x.length = l at *
  have HLX := Lib.hid hlen
  clear hlen
  go_enter Tryd.func257, Tryd.ntmps257
  go_wp2
  go_loopw [9] (fun i wr => ∃ (j : Nat) (zs : List Int), j ≤ l ∧ i = .int .i64 j ∧ zs.length = x.length ∧ (∀ q, q < j → zs.getD q 0 = x.getD q 0 * k % p) ∧ (∀ q, j ≤ q → zs.getD q 0 = x.getD q 0) ∧ OwnInts B wr (.slice a0 l cap0) zs ∧ Only (Hits (.slice a0 l cap0)) w wr) (fun i _ => l - (intOf i).toNat)
  case atStart => exact ⟨0, x, by omega, rfl, rfl, fun _ h => absurd h (by omega), fun _ _ => rfl, HV.out, Only.refl _ _⟩
  case round =>
    obtain ⟨j, zs, hj, rfl, hz, h1, h2, ho, hon⟩ := hrel
    have HZ := Lib.hid hz; have H1 := Lib.hid h1; have H2 := Lib.hid h2; have HO := Lib.hid ho; have HON := Lib.hid hon
    clear hz h1 h2 ho hon
    by_cases hlt : j < l
    · have hjx : j < x.length := by rw [HLX.out]; exact hlt
      have hjz : j < zs.length := by rw [HZ.out]; exact hjx
      obtain ⟨g, cap, hve, hg0, hg1, hhit⟩ := HO.out.parts (by intro h; rw [h] at hjz; simp at hjz)
      have hzl : zs.length = l := by rw [HZ.out, HLX.out]
      rw [hzl] at hve
      simp only [Value.slice.injEq, true_and] at hve
      obtain ⟨rfl, rfl⟩ := hve
      have hcell := HO.out.cell hzl.symm hjz
      have hfree := HO.out.free hzl.symm j
      have HP := Lib.hid fun n => HO.out.put hzl.symm j n
      have e1 : zs[j] = x.getD j 0 := by rw [← getD_lt hjz]; exact H2.out j (Nat.le_refl _)
      have b1 := HX.out _ (List.getElem_mem hjx)
      rw [← getD_lt hjx] at b1
      rw [e1] at hcell
      clear e1 hg0 hg1 hhit
      generalize hxk : x.getD j 0 = xk at *
      have HXK := Lib.hid hxk; have HZL := Lib.hid hzl
      clear hxk hzl hjx hjz
      go_wp2_with (go_at_call 199; refine (fdMulS_any p xk k _ (by omega) hp2 b1.1 b1.2 hk0 hk1).mono ?_; rintro e w' ⟨rfl, rfl⟩)
      go_roundw
      case rel =>
        have hjz : j < zs.length := by rw [HZL.out]; exact hlt
        refine ⟨j + 1, zs.set j (xk * k % p), by omega, by go_num, by rw [List.length_set]; exact HZ.out, fun q hq => ?_, fun q hq => ?_, (HP.out _).1, HON.out.trans ((HP.out _).2.mono fun g hg => by rw [hg]; rfl)⟩
        · by_cases hjq : j = q
          · subst hjq
            rw [getD_set_self hjz, HXK.out]
          · rw [getD_set_ne hjq]
            exact H1.out q (by omega)
        · rw [getD_set_ne (by omega)]
          exact H2.out q (by omega)
      case measure => simp [intOf]; omega
    · have hfin : zs = scaleV p x k := by
        refine list_ext_getD (by rw [HZ.out]; simp [scaleV]) fun q hq => ?_
        have hqx : q < x.length := by rw [← HZ.out]; exact hq
        rw [scale_getD hqx]
        exact H1.out q (by have := HLX.out; omega)
      have HF := Lib.hid hfin
      clear hfin
      go_wp2
      go_end0
      exact ⟨rfl, by rw [← HF.out]; exact HO.out, HON.out⟩

set_option maxHeartbeats 2000000 in
theorem mxLess_any (p k : Int) (v u : Value) (x y : List Int) (B : Nat) (w : World) (hv : OwnInts B w v x) (hu : IntsV w u y) (hap : x ≠ [] → ∀ q, Hits v q → Value.blk' u ≠ some q) (hl : x.length = y.length) (hlm : x.length ≤ 1000000)
    (hp : 2 ≤ p) (hp2 : p ≤ 1000) (hk0 : 0 ≤ k) (hk1 : k ≤ 1000) (hx : ∀ z ∈ x, 0 ≤ z ∧ z ≤ 1000) (hy : ∀ z ∈ y, 0 ≤ z ∧ z ≤ 1000) :
    Calls Tryd.prog 258 #[.int .i64 p, v, u, .int .i64 k] w fun e w' => e = .returned (.tuple #[]) ∧ OwnInts B w' v (addT p x (-k) y) ∧ Only (Hits v) w w' := by
  have HX := Lib.hid hx; have HY := Lib.hid hy; have HU := Lib.hid hu; have HV := Lib.hid hv; have HAP := Lib.hid hap; have HL := Lib.hid hl
  have hsh := own_shape hv
  obtain ⟨a0, cap0, rfl⟩ := hsh
  obtain ⟨ua, ucap, rfl, ui⟩ := hu
  clear ui hv hx hy hap
  rw [← hl]
  generalize hlen : x.length = l at *
  have HLX := Lib.hid hlen
  clear hlen hl
  go_enter Tryd.func258, Tryd.ntmps258
  go_wp2
  go_loopw [11] (fun i wr => ∃ (j : Nat) (zs : List Int), j ≤ l ∧ i = .int .i64 j ∧ zs.length = x.length ∧ (∀ q, q < j → zs.getD q 0 = (x.getD q 0 + -k * y.getD q 0) % p) ∧ (∀ q, j ≤ q → zs.getD q 0 = x.getD q 0) ∧ OwnInts B wr (.slice a0 l cap0) zs ∧ Only (Hits (.slice a0 l cap0)) w wr) (fun i _ => l - (intOf i).toNat)
  case atStart => exact ⟨0, x, by omega, rfl, rfl, fun _ h => absurd h (by omega), fun _ _ => rfl, HV.out, Only.refl _ _⟩
  case round =>
    obtain ⟨j, zs, hj, rfl, hz, h1, h2, ho, hon⟩ := hrel
    have HZ := Lib.hid hz; have H1 := Lib.hid h1; have H2 := Lib.hid h2; have HO := Lib.hid ho; have HON := Lib.hid hon
    clear hz h1 h2 ho hon
    by_cases hlt : j < l
    · have hjx : j < x.length := by rw [HLX.out]; exact hlt
      have hjy : j < y.length := by rw [← HL.out]; exact hlt
      have hjz : j < zs.length := by rw [HZ.out]; exact hjx
      have hu' := (HU.out.only HON.out fun g hg hh => HAP.out (by intro h; rw [h] at hjx; simp at hjx) g hh hg).at hjy
      obtain ⟨d, rfl, hs, hd, hc⟩ := hu'
      obtain ⟨db, dof, _⟩ := d
      simp only at hs hc
      subst hs
      obtain ⟨g, cap, hve, hg0, hg1, hhit⟩ := HO.out.parts (by intro h; rw [h] at hjz; simp at hjz)
      have hzl : zs.length = l := by rw [HZ.out, HLX.out]
      rw [hzl] at hve
      simp only [Value.slice.injEq, true_and] at hve
      obtain ⟨rfl, rfl⟩ := hve
      have hcell := HO.out.cell hzl.symm hjz
      have hfree := HO.out.free hzl.symm j
      have HP := Lib.hid fun n => (HO.out.only (Only.drew (fun _ => False) wr) (fun _ _ h => h)).put hzl.symm j n
      have e1 : zs[j] = x.getD j 0 := by rw [← getD_lt hjz]; exact H2.out j (Nat.le_refl _)
      have e2 : y[j] = y.getD j 0 := (getD_lt hjy).symm
      have b1 := HX.out _ (List.getElem_mem hjx)
      rw [← getD_lt hjx] at b1
      have b2 := HY.out _ (List.getElem_mem hjy)
      rw [e2] at b2 hc
      rw [e1] at hcell
      clear e1 e2 hd hg0 hg1 hhit
      generalize hxk : x.getD j 0 = xk at *
      generalize hyk : y.getD j 0 = yk at *
      have HXK := Lib.hid hxk; have HYK := Lib.hid hyk; have HZL := Lib.hid hzl
      clear hxk hyk hzl hjx hjy hjz
      have m0 := Int.emod_nonneg (k * yk) (show p ≠ 0 by omega)
      have m1 := Int.emod_lt_of_pos (k * yk) (show 0 < p by omega)
      have M1 := Lib.hid fun w1 => fdMulS_any p k yk w1 (by omega) hp2 hk0 hk1 b2.1 b2.2
      have M2 := Lib.hid fun w1 => fdSubS_any p xk (k * yk % p) w1 (by omega) hp2 b1.1 b1.2 m0 (by omega)
      have HLE := Lib.hid (less_eq p k xk yk)
      rw [HLE.out] at M2
      clear m0 m1
      go_wp2_with fail
      go_region_with
        (first
          | (go_at_call 199
             refine (M1.out _).mono ?_
             rintro e w' ⟨rfl, rfl⟩)
          | (go_at_call 245
             refine (M2.out _).mono ?_
             rintro e w' ⟨rfl, rfl⟩))
      all_goals
        go_wp2
        go_roundw
        case rel =>
          have hjz : j < zs.length := by rw [HZL.out]; exact hlt
          refine ⟨j + 1, zs.set j ((xk + -k * yk) % p), by omega, by go_num, by rw [List.length_set]; exact HZ.out, fun q hq => ?_, fun q hq => ?_, (HP.out _).1, (HON.out.trans (Only.drew _ _)).trans ((HP.out _).2.mono fun g hg => by rw [hg]; rfl)⟩
          · by_cases hjq : j = q
            · subst hjq
              rw [getD_set_self hjz, HXK.out, HYK.out]
            · rw [getD_set_ne hjq]
              exact H1.out q (by omega)
          · rw [getD_set_ne (by omega)]
            exact H2.out q (by omega)
        case measure => simp [intOf]; omega
    · have hfin : zs = addT p x (-k) y := by
        refine list_ext_getD (by rw [HZ.out]; have h1 := HL.out; have h2 := HLX.out; simp [addT]; omega) fun q hq => ?_
        have hqx : q < x.length := by rw [← HZ.out]; exact hq
        rw [addT_getD (HLX.out.trans HL.out) hqx]
        exact H1.out q (by have := HLX.out; omega)
      have HF := Lib.hid hfin
      clear hfin
      go_wp2
      go_end0
      exact ⟨rfl, by rw [← HF.out]; exact HO.out, HON.out⟩

end Go.Proofs.YtpeaeminjbjlnaaDoor

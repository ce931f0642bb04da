/-
  Who is in a space: vectors, coordinates, separators. Conditions: the sizes are small.
-/
import Derived.Test.YtpeaeminjbjlnaaDoorMj01
import Derived.Test.YtpeaeminjbjlnaaDoorMk09
import Derived.Test.YtpeaeminjbjlnaaDoorMk07
import Derived.Test.YtpeaeminjbjlnaaDoorMj00
import Derived.Test.YtpeaeminjbjlnaaDoorMk16
import Derived.Test.YtpeaeminjbjlnaaDoorMk01
import Derived.Test.YtpeaeminjbjlnaaDoorCards
import Derived.Test.YtpeaeminjbjlnaaDoorTie
import Derived.WalkKit
import Derived.ProofKit
import Derived.OpenShut
import Derived.ShutString
import Derived.ChangeOld
import Derived.OpenVars
import Derived.Below
import Derived.Deep.DeepHandedRow
import Derived.Lib.LaidTab
namespace Go.Proofs.YtpeaeminjbjlnaaDoor
open Go.RowKit
set_option linter.unusedVariables false

def vectorB (p n : Int) (L : List (List Int)) (x : List Int) : Bool := spaceB p n L && vecB p n x
theorem vectorB_nat {p n : Int} {L : List (List Int)} {x : List Int} (h : vectorB p n L x = true) : ∃ (q : Nat) (_ : NeZero q) (m : Nat), p = q ∧ n = m ∧ fldN q = true ∧ q ≤ 97 ∧ m ≤ 24 ∧ L.length ≤ m ∧ IsRed q m L ∧ RowsOk q m L ∧ VecOk q m x := by
  unfold vectorB at h
  rw [Bool.and_eq_true] at h
  obtain ⟨q, i, m, rfl, rfl, h1, h2, h3, h4, h5, h6⟩ := spaceB_nat h.1
  exact ⟨q, i, m, rfl, rfl, h1, h2, h3, h4, h5, h6, vecB_ok.1 h.2⟩

section
variable (p n : Int) (u v : Value) (L : List (List Int)) (x : List Int) (w : World) (ht : Tab w) (hu : MatV w u L) (hv : IntsV w v x) (hl : L.length ≤ 1000000) (hll : ∀ row ∈ L, row.length ≤ 1000000) (hxl : x.length ≤ 1000000)
include ht hu hv hl hll hxl
set_option maxRecDepth 100000 in
theorem hasVector_no (hno : vectorB p n L x = false) : Calls Tryd.prog 56 #[.int .i64 p, mxV n u, v] w fun e w' => e = .returned (.tuple #[.bool false, .bool false]) ∧ w.grownBy w' none := by
  have HS := Lib.hid fun w' (hg : w.grownBy w' none) => isSpace_any p n u L w' (ht.grown hg) (hu.carry hg) hl hll
  have HX := Lib.hid fun w' (hg : w.grownBy w' none) => isVector_any p n v x w' (hv.carry hg) hxl
  unfold vectorB at hno
  unfold mxV at *
  obtain ⟨a, c, rfl⟩ := hu.shape
  obtain ⟨xa, xc, rfl, hvx⟩ := hv
  have e0 := Lib.hid (alloc_heap_new w (.cells #[.int .i64 n, .slice a L.length c] 74))
  clear hu hvx hll ht
  generalize L.length = l at *
  generalize x.length = xl at *
  cases h1 : spaceB p n L <;> cases h2 : vecB p n x
  all_goals
    rw [h1] at HS
    rw [h2] at HX
    first
      | (exfalso; rw [h1, h2] at hno; exact absurd hno (by decide))
      | (clear h1 h2 hno
         go_enter Tryd.func56, Tryd.ntmps56
         go_wp2_with (first
           | (go_at_call 171
              with_reducible refine (HS.out _ (grownBy_alloc _ _ none)).mono ?_
              rintro e w1 ⟨rfl, hg⟩
              obtain ⟨c0, c1, f0, f1⟩ := bx (bx_on e0.out hg)
              have HG := Lib.hid ((grownBy_alloc w _ none).trans hg)
              clear hg)
           | (go_at_call 173; with_reducible refine (HX.out _ HG.out).mono ?_; rintro e w' ⟨rfl, rfl⟩))
         go_ret2
         exact ⟨rfl, HG.out⟩)
set_option maxRecDepth 100000 in
theorem hasVector_yes (hb : vectorB p n L x = true) : Calls Tryd.prog 56 #[.int .i64 p, mxV n u, v] w fun e w' => e = .returned (.tuple #[.bool (hasB p n.toNat L x), .bool true]) ∧ w.grownBy w' none := by
  have HS := fun w' (hg : w.grownBy w' none) => isSpace_any p n u L w' (ht.grown hg) (hu.carry hg) hl hll
  have HX := fun w' (hg : w.grownBy w' none) => isVector_any p n v x w' (hv.carry hg) hxl
  have hb' := hb
  unfold vectorB at hb'
  rw [Bool.and_eq_true] at hb'
  rw [hb'.1] at HS
  rw [hb'.2] at HX
  have HS := Lib.hid HS; have HX := Lib.hid HX
  obtain ⟨q, i, m, rfl, rfl, h1, h2, h3, h4, h5, h6, h7⟩ := vectorB_nat hb
  rw [Int.toNat_natCast]
  have HC := Lib.hid fun w' (hg : w.grownBy w' none) => coordinates_any q m u v L x w' h1 (by omega) (hu.carry hg) (hv.carry hg) h5 h7 (by omega) (by omega)
  unfold mxV at *
  obtain ⟨a, c, rfl⟩ := hu.shape
  obtain ⟨xa, xc, rfl, hvx⟩ := hv
  have e0 := Lib.hid (alloc_heap_new w (.cells #[.int .i64 m, .slice a L.length c] 74))
  clear hu hvx hll ht hb hb' h1 h5 h6 h7
  generalize hasB q m L x = hb at *
  generalize L.length = l at *
  generalize x.length = xl at *
  go_enter Tryd.func56, Tryd.ntmps56
  go_wp2_with (first
    | (go_at_call 171
       with_reducible refine (HS.out _ (grownBy_alloc _ _ none)).mono ?_
       rintro e w1 ⟨rfl, hg⟩
       obtain ⟨c0, c1, f0, f1⟩ := bx (bx_on e0.out hg)
       have HG := Lib.hid ((grownBy_alloc w _ none).trans hg)
       clear hg)
    | (go_at_call 173; with_reducible refine (HX.out _ HG.out).mono ?_; rintro e w' ⟨rfl, rfl⟩)
    | (go_at_call 174
       with_reducible refine (HC.out _ HG.out).mono ?_
       rintro e w2 ⟨o, rfl, ho, hg⟩
       have HG2 := Lib.hid hg
       clear ho hg))
  go_ret2
  exact ⟨rfl, HG.out.trans HG2.out⟩
set_option maxRecDepth 100000 in
theorem coordinatesOf_no (hno : vectorB p n L x = false) : Calls Tryd.prog 75 #[.int .i64 p, mxV n u, v] w fun e w' => e = .returned (.tuple #[nilS, .bool false]) ∧ w.grownBy w' none := by
  have HS := Lib.hid fun w' (hg : w.grownBy w' none) => isSpace_any p n u L w' (ht.grown hg) (hu.carry hg) hl hll
  have HX := Lib.hid fun w' (hg : w.grownBy w' none) => isVector_any p n v x w' (hv.carry hg) hxl
  unfold vectorB at hno
  unfold mxV at *
  unfold nilS
  obtain ⟨a, c, rfl⟩ := hu.shape
  obtain ⟨xa, xc, rfl, hvx⟩ := hv
  have e0 := Lib.hid (alloc_heap_new w (.cells #[.int .i64 n, .slice a L.length c] 74))
  clear hu hvx hll ht
  generalize L.length = l at *
  generalize x.length = xl at *
  cases h1 : spaceB p n L <;> cases h2 : vecB p n x
  all_goals
    rw [h1] at HS
    rw [h2] at HX
    first
      | (exfalso; rw [h1, h2] at hno; exact absurd hno (by decide))
      | (clear h1 h2 hno
         go_enter Tryd.func75, Tryd.ntmps75
         go_wp2_with (first
           | (go_at_call 171
              with_reducible refine (HS.out _ (grownBy_alloc _ _ none)).mono ?_
              rintro e w1 ⟨rfl, hg⟩
              obtain ⟨c0, c1, f0, f1⟩ := bx (bx_on e0.out hg)
              have HG := Lib.hid ((grownBy_alloc w _ none).trans hg)
              clear hg)
           | (go_at_call 173; with_reducible refine (HX.out _ HG.out).mono ?_; rintro e w' ⟨rfl, rfl⟩))
         go_ret2
         exact ⟨rfl, HG.out⟩)
set_option maxRecDepth 100000 in
theorem coordinatesOf_yes (hb : vectorB p n L x = true) : Calls Tryd.prog 75 #[.int .i64 p, mxV n u, v] w fun e w' => ∃ o, e = .returned (.tuple #[o, .bool (hasB p n.toNat L x)]) ∧ OwnInts w.heap.size w' o (if hasB p n.toNat L x then coordsL L x else []) ∧ w.grownBy w' none := by
  have HS := fun w' (hg : w.grownBy w' none) => isSpace_any p n u L w' (ht.grown hg) (hu.carry hg) hl hll
  have HX := fun w' (hg : w.grownBy w' none) => isVector_any p n v x w' (hv.carry hg) hxl
  have hb' := hb
  unfold vectorB at hb'
  rw [Bool.and_eq_true] at hb'
  rw [hb'.1] at HS
  rw [hb'.2] at HX
  have HS := Lib.hid HS; have HX := Lib.hid HX
  obtain ⟨q, i, m, rfl, rfl, h1, h2, h3, h4, h5, h6, h7⟩ := vectorB_nat hb
  rw [Int.toNat_natCast]
  have HC := Lib.hid fun w' (hg : w.grownBy w' none) => coordinates_any q m u v L x w' h1 (by omega) (hu.carry hg) (hv.carry hg) h5 h7 (by omega) (by omega)
  unfold mxV at *
  obtain ⟨a, c, rfl⟩ := hu.shape
  obtain ⟨xa, xc, rfl, hvx⟩ := hv
  have e0 := Lib.hid (alloc_heap_new w (.cells #[.int .i64 m, .slice a L.length c] 74))
  clear hu hvx hll ht hb hb' h1 h5 h6 h7
  generalize coordsL L x = co at *
  generalize L.length = l at *
  generalize x.length = xl at *
  cases hbb : hasB q m L x
  all_goals
    rw [hbb] at HC
    clear hbb
    go_enter Tryd.func75, Tryd.ntmps75
    go_wp2_with (first
      | (go_at_call 171
         with_reducible refine (HS.out _ (grownBy_alloc _ _ none)).mono ?_
         rintro e w1 ⟨rfl, hg⟩
         obtain ⟨c0, c1, f0, f1⟩ := bx (bx_on e0.out hg)
         have HG := Lib.hid ((grownBy_alloc w _ none).trans hg)
         clear hg)
      | (go_at_call 173; with_reducible refine (HX.out _ HG.out).mono ?_; rintro e w' ⟨rfl, rfl⟩)
      | (go_at_call 174
         with_reducible refine (HC.out _ HG.out).mono ?_
         rintro e w2 ⟨o, rfl, ho, hg⟩
         have HG2 := Lib.hid hg; have HO := Lib.hid ho
         clear ho hg))
    go_ret2
    first
      | exact ⟨nilS, rfl, OwnInts.nil _ _, HG.out.trans HG2.out⟩
      | exact ⟨o, rfl, HO.out.base HG.out.size, HG.out.trans HG2.out⟩
end
end Go.Proofs.YtpeaeminjbjlnaaDoor

/-
  Lists that are compared with themselves. Conditions: small sizes.
-/
namespace Go.Proofs.YtpeaeminjbjlnaaDoor
open Go.RowKit
set_option linter.unusedVariables false

theorem same_self (v1 v2 : Value) (x : List Int) (w : World) (h1 : IntsV w v1 x) (h2 : IntsV w v2 x) (l1 : x.length ≤ 1000000000) :
    Calls Tryd.prog 17 #[v1, v2] w fun e w' => e = .returned (.bool true) ∧ w.grownBy w' none := by
  refine (sameInts_q v1 v2 x x w h1 h2 l1 l1).mono ?_
  rintro e w' ⟨rfl, q, rfl⟩
  exact ⟨by simp, grown_drewN _ _⟩


theorem colTo_bd {q : Nat} (C : List Int) (L : List (List Int)) (j k : Nat) (hq : (1 : Int) ≤ q) : 0 ≤ colTo q C L j k ∧ colTo q C L j k < q := by
  cases k with
  | zero => simp only [colTo]; omega
  | succ k => exact ⟨Int.emod_nonneg _ (by omega), Int.emod_lt_of_pos _ (by omega)⟩
theorem same_selfL (v1 v2 : Value) (x : List (List Int)) (w : World) (h1 : MatV w v1 x) (h2 : MatV w v2 x) (l1 : x.length ≤ 1000000) (m1 : ∀ row ∈ x, row.length ≤ 1000000) :
    Calls Tryd.prog 53 #[v1, v2] w fun e w' => e = .returned (.bool true) ∧ w.grownBy w' none := by
  refine (sameLists_q v1 v2 x x w h1 h2 l1 l1 m1 m1).mono ?_
  rintro e w' ⟨rfl, q, rfl⟩
  exact ⟨by simp, grown_drewN _ _⟩
end Go.Proofs.YtpeaeminjbjlnaaDoor

/-
  The laws' test of the lengths. Conditions: none.
-/
namespace Go.Proofs.YtpeaeminjbjlnaaDoor
open Go.RowKit
set_option linter.unusedVariables false

def Gives (v : Value) (w : World) (e : Ending) (w' : World) : Prop := e = .returned v ∧ w.grownBy w' none
theorem Gives.mono {v v' : Value} {w w' : World} {e : Ending} (h : Gives v w e w') (hv : v = v') : Gives v' w e w' := by subst hv; exact h

def bigB (l m : Nat) : Bool := decide (1048576 < (l : Int)) || decide (1048576 - (l : Int) < m)
theorem bigB_no {l m : Nat} (h : bigB l m = false) : l ≤ 1048576 ∧ m ≤ 1048576 := by
  unfold bigB at h
  rw [Bool.or_eq_false_iff, decide_eq_false_iff_not, decide_eq_false_iff_not] at h
  omega
theorem big_any (a b : Option Addr) (l m c d : Nat) (w : World) (hl : l ≤ 9223372036854775807) (hm : m ≤ 9223372036854775807) : Calls Tryd.prog 13 #[.slice a l c, .slice b m d] w fun e w' => e = .returned (.bool (bigB l m)) ∧ w = w' := by
  by_cases h1 : 1048576 < (l : Int)
  · have HF := Lib.hid (show bigB l m = true by unfold bigB; simp only [h1, decide_true, Bool.true_or])
    go_enter Tryd.func13, Tryd.ntmps13
    go_wp2
    go_ret
    exact ⟨by rw [HF.out]; rfl, rfl⟩
  · have hd : decide (1048576 < (l : Int)) = false := by simpa using h1
    by_cases h2 : 1048576 - (l : Int) < m
    · have HF := Lib.hid (show bigB l m = true by unfold bigB; simp only [h2, decide_true, Bool.or_true])
      go_enter Tryd.func13, Tryd.ntmps13
      go_wp2
      go_ret
      exact ⟨by rw [HF.out]; rfl, rfl⟩
    · have hd2 : decide (1048576 - (l : Int) < m) = false := by simpa using h2
      have HF := Lib.hid (show bigB l m = false by unfold bigB; rw [hd, hd2]; rfl)
      go_enter Tryd.func13, Tryd.ntmps13
      go_wp2
      go_ret
      exact ⟨by rw [HF.out]; rfl, rfl⟩

end Go.Proofs.YtpeaeminjbjlnaaDoor

/-
  What the frames of the laws over two lists of bytes share. Conditions: none.
-/
namespace Go.Proofs.YtpeaeminjbjlnaaDoor
open Go.ChangeShapes Go.WideShapes Go.ChangeAt Go.RowKit

theorem own : ownKnob Tryd.prog.godebug = none := by kernel_rfl
theorem laidOut : laidOutB Tryd.prog = true := by kernel_rfl
theorem gTab : Tryd.prog.globalNamed "loop.example/g01073/impl.smallPrimes" = some 0 := by kernel_rfl
theorem gTabType : (Tryd.prog.globals[0]?).map (·.type) = some 231 := by kernel_rfl
theorem cellsTab : Tryd.prog.cellsOf 231 = 4 := by kernel_rfl
theorem cellsInt : Tryd.prog.cellsOf 3 = 1 := by kernel_rfl

theorem below_of_grown {w w' : World} (h : w.grownBy w' none) : Below w.heap.size w w' := ⟨h.os, h.tape, h.output, h.size, fun k hk => h.block k hk (by simp)⟩

set_option maxRecDepth 100000 in
/-- A list of bytes that came in. -/
theorem raw_of_slice {H : Type} {enc : TypeId × Value → H} {W : World} {v : Value} {d : DataW H} {p : List MemPlace} {base : Nat}
    (hv : Value.okWide Tryd.prog W .any base 22 v) (h : DataW.Trod enc Tryd.prog W 0 (fun _ => true) true 22 v d p) : CodeRaw W v := by
  obtain ⟨a0, len0, cap0, rfl⟩ := okWide_slice Tryd.underlying22 hv
  have lt0 : ∀ x ∈ p, x.block < W.heap.size := by obtain ⟨m, hm⟩ := h; exact DataW.trod_lt m _ _ _ hm
  obtain ⟨fuel, hf⟩ := h
  rcases open_ints Tryd.underlying22 Tryd.underlying5 (by kernel_rfl) hf with ⟨hcs, _⟩ | ⟨x, l, c, zs, hcs, _, hl, hm, hz, _, hcell, hwz⟩
  · simp [Value.cells] at hcs
    obtain ⟨rfl, rfl, rfl⟩ := hcs
    exact ⟨none, 0, 0, rfl, by omega, fun k hk => by omega⟩
  · simp [Value.cells] at hcs
    obtain ⟨rfl, rfl, rfl⟩ := hcs
    have hzl : zs.length = cap0 := by simpa using hz
    unfold maxLen at hm
    refine ⟨some x, len0, cap0, rfl, by omega, fun k hk => ?_⟩
    have hk' : k < zs.length := by omega
    have h0 := hcell 0 (by omega)
    have hk1 := hcell k hk'
    obtain ⟨b, off, spot⟩ := x
    have hspot : spot = none := by
      have := World.cell?_spot h0
      simpa [Addr.add] using this
    subst hspot
    have e : (⟨b, off, none⟩ : Addr).add k = ⟨b, off + k, none⟩ := by
      unfold Addr.add
      split
      · rename_i h; subst h; rfl
      · rfl
    rw [e] at hk1
    have hw := hwz (zs.getD k 0) (by rw [List.getD_eq_getElem?_getD, List.getElem?_eq_getElem hk']; exact List.getElem_mem _)
    have hb : 0 ≤ zs.getD k 0 ∧ zs.getD k 0 ≤ 255 := by simpa [Lit.wf, IntKind.min, IntKind.max, IntKind.signed, IntKind.bits] using hw
    refine ⟨⟨b, off, none⟩, zs.getD k 0, rfl, ?_, rfl, hk1, hb.1, hb.2⟩
    simp only [World.cell?] at hk1
    rcases Nat.lt_or_ge b W.heap.size with h | h
    · exact h
    · rw [Array.getElem?_eq_none h] at hk1; cases hk1

end Go.Proofs.YtpeaeminjbjlnaaDoor

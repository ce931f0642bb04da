/-
  Is it a program? In the program. Conditions: the table of small primes holds what its text lays; at most 2,000,000 instructions.
-/
import Derived.Test.YtmofaaceadnafaaDoorNc00
import Derived.Test.YtmofaaceadnafaaDoorNa02
import Derived.Test.YtmofaaceadnafaaDoorNa03
import Derived.Test.YtmofaaceadnafaaDoorNa05
import Derived.Deep.MidRow
namespace Go.Proofs.YtmofaaceadnafaaDoor
open Go.RowKit
set_option linter.unusedVariables false
set_option maxRecDepth 100000

def progB (p i o c r : Int) (is : List It) : Bool := fldB p && (inB i 0 8 && (inB o 0 8 && (inB c 0 40 && (inB r 0 16 && (decide (is.length ≤ 120) && is.all (instB p i o c r))))))
def PredN (g : FuncId) (lb : Array Value) (is : List It) (φ : It → Bool) (w : World) : Prop :=
  ∀ W x, x ∈ is → w.grownBy W none → Calls Tryd.prog g (#[itV x] ++ lb) W fun e w' => e = .returned (.bool (φ x)) ∧ W.grownBy w' none
def idxN (φ : It → Bool) (zs : List It) : Int := ((zs.findIdx? φ).map fun (i : Nat) => (i : Int)).getD (-1)
theorem idxN_none {φ : It → Bool} {zs : List It} (h : ∀ j, j < zs.length → φ (zs.getD j i0) = false) : idxN φ zs = -1 := by
  have : zs.findIdx? φ = none := by
    rw [List.findIdx?_eq_none_iff]
    intro x hx
    obtain ⟨i, hi, rfl⟩ := List.getElem_of_mem hx
    have := h i hi
    rwa [List.getD_eq_getElem?_getD, List.getElem?_eq_getElem hi] at this
  unfold idxN
  rw [this]
  rfl
theorem idxN_some {φ : It → Bool} {zs : List It} {k : Nat} (hk : k < zs.length) (hy : φ (zs.getD k i0) = true) (h : ∀ j, j < k → φ (zs.getD j i0) = false) : idxN φ zs = k := by
  have : zs.findIdx? φ = some k := by
    rw [List.findIdx?_eq_some_iff_getElem]
    refine ⟨hk, ?_, fun j hj => ?_⟩
    · rwa [List.getD_eq_getElem?_getD, List.getElem?_eq_getElem hk] at hy
    · have := h j hj
      rw [List.getD_eq_getElem?_getD, List.getElem?_eq_getElem (Nat.lt_trans hj hk)] at this
      simpa using this
  unfold idxN
  rw [this]
  rfl
theorem inst_mem {zs : List It} {k : Nat} (h : k < zs.length) : zs.getD k i0 ∈ zs := by
  rw [List.getD_eq_getElem?_getD, List.getElem?_eq_getElem h]
  exact List.getElem_mem _
theorem idxN_any {φ : It → Bool} {zs : List It} : decide (0 ≤ idxN φ zs) = zs.any φ := by
  unfold idxN
  cases h : zs.findIdx? φ with
  | none =>
    rw [List.findIdx?_eq_none_iff] at h
    have : zs.any φ = false := by
      rw [List.any_eq_false]
      intro x hx
      simp [h x hx]
    rw [this]
    rfl
  | some i =>
    rw [List.findIdx?_eq_some_iff_getElem] at h
    obtain ⟨hi, hy, _⟩ := h
    have : zs.any φ = true := List.any_eq_true.2 ⟨_, List.getElem_mem hi, hy⟩
    rw [this]
    simp
theorem indexFuncN_any (g : FuncId) (lb : Array Value) (eg : ∀ args w, (callFunc g args).run Tryd.prog w = .ok (.enter g args) w) (zs : List It) (φ : It → Bool) (v : Value) (w : World) (hv : RdR instE w v zs) (hl : zs.length ≤ 1000000) (hp : PredN g lb zs φ w) :
    Calls Tryd.prog 142 #[v, .func (.func g) #[] lb] w fun e w' => e = .returned (.int .i64 (idxN φ zs)) ∧ w.grownBy w' none := by
  have HV := Lib.hid hv; have HP := Lib.hid hp
  obtain ⟨a, c, rfl⟩ := hv.shape
  generalize hlen : zs.length = n at *
  have HL := Lib.hid hlen
  clear hlen hv hp
  generalize hr : idxN φ zs = r
  have HR := Lib.hid hr
  clear hr
  go_enter Tryd.func142, Tryd.ntmps142
  go_wp2_with fail
  go_loopw [5, 8] (fun _ s8 wr => ∃ k : Nat, k ≤ n ∧ s8 = .int .i64 k ∧ w.grownBy wr none ∧ ∀ j, j < k → φ (zs.getD j i0) = false) (fun _ s8 _ => n - (intOf s8).toNat)
  case atStart => exact ⟨0, by omega, rfl, grownBy_refl _ _, fun j hj => absurd hj (Nat.not_lt_zero _)⟩
  case round =>
    obtain ⟨k, hk, rfl, hg, ho⟩ := hrel
    have HG := Lib.hid hg; have HO := Lib.hid ho
    clear hg ho
    by_cases hlt : k < n
    · have hkl : k < zs.length := by rw [HL.out]; exact hlt
      obtain ⟨b, o, rfl, hb, c0, c1, c2, c3, c4⟩ := inst_at rfl rfl (HV.out.carry HG.out) hkl
      have hcall := HP.out wr _ (inst_mem hkl) HG.out
      generalize hz : zs.getD k i0 = z at *
      have HZ := Lib.hid hz
      unfold itV at hcall
      clear hz hb
      cases hq : φ z with
      | true =>
        rw [hq] at hcall
        have HC := Lib.hid hcall
        have HQ := Lib.hid hq
        clear hcall hq
        go_wp2_with (go_at_fn g; refine HC.out.mono ?_; rintro e w' ⟨rfl, hg⟩; have HG2 := Lib.hid (grownBy_trans HG.out hg); clear hg)
        go_ret
        exact ⟨by rw [← HR.out, idxN_some hkl (by rw [HZ.out]; exact HQ.out) HO.out]; rfl, HG2.out⟩
      | false =>
        rw [hq] at hcall
        have HC := Lib.hid hcall
        have HQ := Lib.hid hq
        clear hcall hq
        go_wp2_with (go_at_fn g; refine HC.out.mono ?_; rintro e w' ⟨rfl, hg⟩; have HG2 := Lib.hid (grownBy_trans HG.out hg); clear hg)
        go_roundw
        case rel => exact ⟨k + 1, by omega, by go_num, HG2.out, fun j hj => by
          by_cases e : j = k
          · subst e; rw [HZ.out]; exact HQ.out
          · exact HO.out j (by omega)⟩
        case measure => simp [intOf]; omega
    · have : k = n := by omega
      subst this
      clear hlt
      go_wp2
      go_ret
      exact ⟨by rw [← HR.out, idxN_none (fun j hj => HO.out j (by rw [← HL.out]; exact hj))]; rfl, HG.out⟩
theorem containsFuncN_any (g : FuncId) (lb : Array Value) (eg : ∀ args w, (callFunc g args).run Tryd.prog w = .ok (.enter g args) w) (zs : List It) (φ : It → Bool) (v : Value) (w : World) (hv : RdR instE w v zs) (hl : zs.length ≤ 1000000) (hp : PredN g lb zs φ w) :
    Calls Tryd.prog 108 #[v, .func (.func g) #[] lb] w fun e w' => e = .returned (.bool (zs.any φ)) ∧ w.grownBy w' none := by
  have HC := Lib.hid (indexFuncN_any g lb eg zs φ v w hv hl hp)
  rw [← idxN_any]
  generalize idxN φ zs = r at *
  clear hv hp
  go_enter Tryd.func108, Tryd.ntmps108
  go_wp2_with (go_at_call 142; refine HC.out.mono ?_; rintro e w' ⟨rfl, hg⟩; have HG := Lib.hid hg; clear hg)
  go_ret
  exact ⟨rfl, HG.out⟩

theorem isProgram1_any (pb xb : Nat) (p I O C R : Int) (cv : Value) (x : It) (w : World) (hp : w.cell? ⟨pb, 0, none⟩ = some (.int .i64 p)) (h0 : w.cell? ⟨xb, 0, none⟩ = some (.int .i64 I)) (h1 : w.cell? ⟨xb, 1, none⟩ = some (.int .i64 O)) (h2 : w.cell? ⟨xb, 2, none⟩ = some (.int .i64 C)) (h3 : w.cell? ⟨xb, 3, none⟩ = some (.int .i64 R)) (h4 : w.cell? ⟨xb, 4, none⟩ = some cv)
    (hI0 : 0 ≤ I) (hI1 : I ≤ 8) (hO0 : 0 ≤ O) (hO1 : O ≤ 8) (hC0 : 0 ≤ C) (hC1 : C ≤ 40) (hR0 : 0 ≤ R) (hR1 : R ≤ 16) (hcv : ∃ a n c, cv = .slice a n c) :
    Calls Tryd.prog 109 #[itV x, .pointer (some ⟨xb, 0, none⟩), .pointer (some ⟨pb, 0, none⟩)] w fun e w' => e = .returned (.bool (!instB p I O C R x)) ∧ w.grownBy w' none := by
  have HI := Lib.hid fun W => isInstr_any p I O C R cv x W hI0 hI1 hO0 hO1 hC0 hC1 hR0 hR1
  obtain ⟨a, n, c, rfl⟩ := hcv
  generalize instB p I O C R x = b at *
  obtain ⟨k, r, a', b', v⟩ := x
  unfold prV itV at *
  simp only at HI ⊢
  have n0 := fun o => (World.cell?_alloc_some w _ o (by rw [hp]; rfl)).trans hp
  have m0 := fun o => (World.cell?_alloc_some w _ o (by rw [h0]; rfl)).trans h0
  have m1 := fun o => (World.cell?_alloc_some w _ o (by rw [h1]; rfl)).trans h1
  have m2 := fun o => (World.cell?_alloc_some w _ o (by rw [h2]; rfl)).trans h2
  have m3 := fun o => (World.cell?_alloc_some w _ o (by rw [h3]; rfl)).trans h3
  have m4 := fun o => (World.cell?_alloc_some w _ o (by rw [h4]; rfl)).trans h4
  go_enter Tryd.func109, Tryd.ntmps109
  go_wp2_with (go_at_call 110; refine (HI.out _).mono ?_; rintro e w' ⟨rfl, hg⟩; have HG := Lib.hid (grownBy_trans (gr1 _ _) hg); clear hg)
  go_ret
  exact ⟨rfl, HG.out⟩

set_option maxHeartbeats 4000000 in
theorem isProgram_any (p I O C R : Int) (cv : Value) (is : List It) (w : World) (ht : Tab w) (hg : RdR instE w cv is) (l1 : is.length ≤ 2000000) :
    Calls Tryd.prog 60 #[.int .i64 p, prV I O C R cv] w fun e w' => e = .returned (.bool (progB p I O C R is)) ∧ w.grownBy w' none := by
  have HF := Lib.hid fun W (h : w.grownBy W none) => isField_any p W (ht.grown h)
  have HW1 := Lib.hid (within_any I 0 8)
  have HW2 := Lib.hid (within_any O 0 8)
  have HW3 := Lib.hid (within_any C 0 40)
  have HW4 := Lib.hid (within_any R 0 16)
  change Hid (∀ W, Calls _ _ _ _ fun e w' => e = .returned (.bool (inB I 0 8)) ∧ W = w') at HW1
  change Hid (∀ W, Calls _ _ _ _ fun e w' => e = .returned (.bool (inB O 0 8)) ∧ W = w') at HW2
  change Hid (∀ W, Calls _ _ _ _ fun e w' => e = .returned (.bool (inB C 0 40)) ∧ W = w') at HW3
  change Hid (∀ W, Calls _ _ _ _ fun e w' => e = .returned (.bool (inB R 0 16)) ∧ W = w') at HW4
  have hd : decide (120 < (is.length : Int)) = !decide (is.length ≤ 120) := by rw [Bool.eq_iff_iff, decide_eq_true_iff, Bool.not_eq_true', decide_eq_false_iff_not]; omega
  have HE := Lib.hid (show progB p I O C R is = (fldB p && (inB I 0 8 && (inB O 0 8 && (inB C 0 40 && (inB R 0 16 && (decide (is.length ≤ 120) && is.all (instB p I O C R))))))) from rfl)
  have HCF := Lib.hid fun W (h : w.grownBy W none) (pb xb : Nat) (hl : is.length ≤ 1000000) (hp : W.cell? ⟨pb, 0, none⟩ = some (.int .i64 p)) (h0 : W.cell? ⟨xb, 0, none⟩ = some (.int .i64 I)) (h1 : W.cell? ⟨xb, 1, none⟩ = some (.int .i64 O)) (h2 : W.cell? ⟨xb, 2, none⟩ = some (.int .i64 C)) (h3 : W.cell? ⟨xb, 3, none⟩ = some (.int .i64 R)) (h4 : W.cell? ⟨xb, 4, none⟩ = some cv)
    (f1 : inB I 0 8 = true) (f2 : inB O 0 8 = true) (f3 : inB C 0 40 = true) (f4 : inB R 0 16 = true) =>
    containsFuncN_any 109 #[.pointer (some ⟨xb, 0, none⟩), .pointer (some ⟨pb, 0, none⟩)] (enters_of Tryd.func109 (by kernel_rfl) rfl) is (fun x => !instB p I O C R x) cv W (hg.carry h) hl
      (fun W' x hx hg' => by
        have hb : ∀ {k j : Nat} {u : Value}, W.cell? ⟨k, j, none⟩ = some u → W'.cell? ⟨k, j, none⟩ = some u := fun {k j u} hu => (World.cell?_of_block (a := ⟨k, j, none⟩) (hg'.block _ (World.block_lt_of_cell? W _ hu) (by simp))).trans hu
        exact isProgram1_any pb xb p I O C R cv x W' (hb hp) (hb h0) (hb h1) (hb h2) (hb h3) (hb h4) (inB_iff.1 f1).1 (inB_iff.1 f1).2 (inB_iff.1 f2).1 (inB_iff.1 f2).2 (inB_iff.1 f3).1 (inB_iff.1 f3).2 (inB_iff.1 f4).1 (inB_iff.1 f4).2 (by obtain ⟨a, c, rfl⟩ := hg.shape; exact ⟨_, _, _, rfl⟩))
  have hall : is.any (fun x => !instB p I O C R x) = !is.all (instB p I O C R) := by
    rw [Bool.eq_iff_iff]
    simp
  rw [hall] at HCF
  unfold prV
  obtain ⟨a1, c1, rfl⟩ := hg.shape
  clear hg ht hall
  generalize progB p I O C R is = ce at *
  generalize is.all (instB p I O C R) = f6 at *
  have hs0 := ((Sep.start w).box #[.int .i64 p] 3).box #[.int .i64 I, .int .i64 O, .int .i64 C, .int .i64 R, .slice a1 is.length c1] 43
  have e1 : (w.alloc (.cells #[.int .i64 p] 3)).heap.size = w.heap.size + 1 := by simp
  rw [e1] at hs0
  generalize is.length = n1 at *
  have HG1 := Lib.hid (show w.grownBy _ none from hs0.tl.tl.hd)
  have hp0 := (bx1 hs0.tl.hd).1
  obtain ⟨x0, x1, x2, x3, x4, -⟩ := bxP hs0.hd
  have HX := Lib.hid (And.intro hp0 (And.intro x0 (And.intro x1 (And.intro x2 (And.intro x3 x4)))))
  clear hs0 e1 hp0 x0 x1 x2 x3 x4
  cases f1 : fldB p
  · rw [f1] at HE
    rw [f1] at HF
    have HC := Lib.hid (show ce = false from HE.out)
    clear HE HCF HX f1
    go_enter Tryd.func60, Tryd.ntmps60
    go_wp2_with (first | (go_at_call 81; with_reducible refine (HF.out _ HG1.out).mono ?_; rintro e w2 ⟨rfl, rfl⟩))
    go_ret
    exact ⟨by rw [HC.out]; rfl, HG1.out⟩
  · rw [f1] at HF
    cases f2 : inB I 0 8
    · rw [f1, f2] at HE
      rw [f2] at HW1
      have HC := Lib.hid (show ce = false from HE.out)
      clear HE HCF HX f1 f2
      go_enter Tryd.func60, Tryd.ntmps60
      go_wp2_with (first | (go_at_call 81; with_reducible refine (HF.out _ HG1.out).mono ?_; rintro e w2 ⟨rfl, rfl⟩) | (go_at_call 82; with_reducible refine (HW1.out _).mono ?_; rintro e w2 ⟨rfl, rfl⟩))
      go_ret
      exact ⟨by rw [HC.out]; rfl, HG1.out⟩
    · rw [f2] at HW1
      cases f3 : inB O 0 8
      · rw [f1, f2, f3] at HE
        rw [f3] at HW2
        have HC := Lib.hid (show ce = false from HE.out)
        clear HE HCF HX f1 f2 f3
        go_enter Tryd.func60, Tryd.ntmps60
        go_wp2_with (first | (go_at_call 81; with_reducible refine (HF.out _ HG1.out).mono ?_; rintro e w2 ⟨rfl, rfl⟩) | (go_at_call 82; with_reducible refine (HW1.out _).mono ?_; rintro e w2 ⟨rfl, rfl⟩) | (go_at_call 82; with_reducible refine (HW2.out _).mono ?_; rintro e w2 ⟨rfl, rfl⟩))
        go_ret
        exact ⟨by rw [HC.out]; rfl, HG1.out⟩
      · rw [f3] at HW2
        cases f4 : inB C 0 40
        · rw [f1, f2, f3, f4] at HE
          rw [f4] at HW3
          have HC := Lib.hid (show ce = false from HE.out)
          clear HE HCF HX f1 f2 f3 f4
          go_enter Tryd.func60, Tryd.ntmps60
          go_wp2_with (first | (go_at_call 81; with_reducible refine (HF.out _ HG1.out).mono ?_; rintro e w2 ⟨rfl, rfl⟩) | (go_at_call 82; with_reducible refine (HW1.out _).mono ?_; rintro e w2 ⟨rfl, rfl⟩) | (go_at_call 82; with_reducible refine (HW2.out _).mono ?_; rintro e w2 ⟨rfl, rfl⟩) | (go_at_call 82; with_reducible refine (HW3.out _).mono ?_; rintro e w2 ⟨rfl, rfl⟩))
          go_ret
          exact ⟨by rw [HC.out]; rfl, HG1.out⟩
        · rw [f4] at HW3
          cases f5 : inB R 0 16
          · rw [f1, f2, f3, f4, f5] at HE
            rw [f5] at HW4
            have HC := Lib.hid (show ce = false from HE.out)
            clear HE HCF HX f1 f2 f3 f4 f5
            go_enter Tryd.func60, Tryd.ntmps60
            go_wp2_with (first | (go_at_call 81; with_reducible refine (HF.out _ HG1.out).mono ?_; rintro e w2 ⟨rfl, rfl⟩) | (go_at_call 82; with_reducible refine (HW1.out _).mono ?_; rintro e w2 ⟨rfl, rfl⟩) | (go_at_call 82; with_reducible refine (HW2.out _).mono ?_; rintro e w2 ⟨rfl, rfl⟩) | (go_at_call 82; with_reducible refine (HW3.out _).mono ?_; rintro e w2 ⟨rfl, rfl⟩) | (go_at_call 82; with_reducible refine (HW4.out _).mono ?_; rintro e w2 ⟨rfl, rfl⟩))
            go_ret
            exact ⟨by rw [HC.out]; rfl, HG1.out⟩
          · rw [f5] at HW4
            cases f7 : decide (n1 ≤ 120)
            · rw [f1, f2, f3, f4, f5, f7] at HE
              rw [f7] at hd
              have HC := Lib.hid (show ce = false from HE.out)
              obtain ⟨-, x0, x1, x2, x3, x4⟩ := HX.out
              clear HE HCF HX f7 f1 f2 f3 f4 f5
              go_enter Tryd.func60, Tryd.ntmps60
              go_wp2_with (first | (go_at_call 81; with_reducible refine (HF.out _ HG1.out).mono ?_; rintro e w2 ⟨rfl, rfl⟩) | (go_at_call 82; with_reducible refine (HW1.out _).mono ?_; rintro e w2 ⟨rfl, rfl⟩) | (go_at_call 82; with_reducible refine (HW2.out _).mono ?_; rintro e w2 ⟨rfl, rfl⟩) | (go_at_call 82; with_reducible refine (HW3.out _).mono ?_; rintro e w2 ⟨rfl, rfl⟩) | (go_at_call 82; with_reducible refine (HW4.out _).mono ?_; rintro e w2 ⟨rfl, rfl⟩))
              go_ret
              exact ⟨by rw [HC.out]; rfl, HG1.out⟩
            · rw [f7] at hd
              rw [f1, f2, f3, f4, f5, f7] at HE
              simp only [Bool.true_and] at HE
              have hn1 := of_decide_eq_true f7
              obtain ⟨xp, x0, x1, x2, x3, x4⟩ := HX.out
              have HC2 := Lib.hid (HCF.out _ HG1.out _ _ (by omega) xp x0 x1 x2 x3 x4 f2 f3 f4 f5)
              clear HCF HX f7 f1 f2 f3 f4 f5
              have HC := Lib.hid HE.out
              go_enter Tryd.func60, Tryd.ntmps60
              go_wp2_with (first | (go_at_call 81; with_reducible refine (HF.out _ HG1.out).mono ?_; rintro e w2 ⟨rfl, rfl⟩) | (go_at_call 82; with_reducible refine (HW1.out _).mono ?_; rintro e w2 ⟨rfl, rfl⟩) | (go_at_call 82; with_reducible refine (HW2.out _).mono ?_; rintro e w2 ⟨rfl, rfl⟩) | (go_at_call 82; with_reducible refine (HW3.out _).mono ?_; rintro e w2 ⟨rfl, rfl⟩) | (go_at_call 82; with_reducible refine (HW4.out _).mono ?_; rintro e w2 ⟨rfl, rfl⟩) | (go_at_call 108; refine HC2.out.mono ?_; rintro e w3 ⟨rfl, hg3⟩; have HG3 := Lib.hid (grownBy_trans HG1.out hg3); clear hg3))
              go_ret
              exact ⟨by rw [HC.out]; cases f6 <;> rfl, HG3.out⟩
end Go.Proofs.YtmofaaceadnafaaDoor

/-
  Is it a program? In the reference. Conditions: at most 2,000,000 instructions.
-/
namespace Go.Proofs.YtmofaaceadnafaaDoor
open Go.RowKit
set_option linter.unusedVariables false
set_option maxRecDepth 100000

theorem inst_c1 {p I O C R : Int} {x : It} (h : x.o = 1) : instB p I O C R x = (inB x.r 0 (R - 1) && (inB x.a 0 (I - 1) && (decide (x.b = 0) && decide (x.v = 0)))) := by
  simp [instB, regsL, h, Bool.and_comm, Bool.and_left_comm, Bool.and_assoc]
theorem inst_c2 {p I O C R : Int} {x : It} (h : x.o = 2) : instB p I O C R x = (inB x.r 0 (R - 1) && (decide (x.a = 0) && (decide (x.b = 0) && decide (x.v = 0)))) := by
  simp [instB, regsL, h, Bool.and_comm, Bool.and_assoc]
theorem inst_c3 {p I O C R : Int} {x : It} (h : x.o = 3) : instB p I O C R x = (inB x.r 0 (R - 1) && (inB x.a 0 (R - 1) && (inB x.b 0 (R - 1) && decide (x.v = 0)))) := by
  simp [instB, regsL, h, Bool.and_comm, Bool.and_left_comm]
theorem inst_c4 {p I O C R : Int} {x : It} (h : x.o = 4) : instB p I O C R x = (inB x.r 0 (R - 1) && (inB x.a 0 (R - 1) && (decide (x.b = 0) && inB x.v 0 (p - 1)))) := by
  simp [instB, regsL, h, Bool.and_comm, Bool.and_left_comm]
theorem inst_c5 {p I O C R : Int} {x : It} (h : x.o = 5) : instB p I O C R x = (inB x.r 0 (R - 1) && (inB x.a 0 (C - 1) && (decide (x.b = 0) && decide (x.v = 0)))) := by
  simp [instB, regsL, h, Bool.and_comm, Bool.and_left_comm, Bool.and_assoc]
theorem inst_c6 {p I O C R : Int} {x : It} (h : x.o = 6) : instB p I O C R x = (inB x.r 0 (R - 1) && (inB x.a 0 (C - 1) && (decide (x.b = 0) && decide (x.v = 0)))) := by
  simp [instB, regsL, h, Bool.and_comm, Bool.and_left_comm, Bool.and_assoc]
theorem inst_c7 {p I O C R : Int} {x : It} (h : x.o = 7) : instB p I O C R x = (inB x.r 0 (R - 1) && (inB x.a 0 (O - 1) && (decide (x.b = 0) && decide (x.v = 0)))) := by
  simp [instB, regsL, h, Bool.and_comm, Bool.and_left_comm, Bool.and_assoc]

set_option maxHeartbeats 16000000 in
theorem cmInstr_any (p I O C R : Int) (cv : Value) (x : It) (w : World) (hI0 : 0 ≤ I) (hI1 : I ≤ 8) (hO0 : 0 ≤ O) (hO1 : O ≤ 8) (hC0 : 0 ≤ C) (hC1 : C ≤ 40) (hR0 : 0 ≤ R) (hR1 : R ≤ 16) (hp0 : 0 ≤ p) (hp1 : p ≤ 1000) :
    Calls Tryd.prog 106 #[.int .i64 p, prV I O C R cv, itV x] w fun e w' => e = .returned (.bool (instB p I O C R x)) ∧ w.grownBy w' none := by
  have HWR := Lib.hid (l1In_any x.r 0 (R - 1))
  have HWA := Lib.hid (l1In_any x.a 0 (R - 1))
  have HWB := Lib.hid (l1In_any x.b 0 (R - 1))
  have HW1 := Lib.hid (l1In_any x.a 0 (I - 1))
  have HW2 := Lib.hid (l1In_any x.a 0 (C - 1))
  have HW3 := Lib.hid (l1In_any x.a 0 (O - 1))
  have HE := Lib.hid (l1In_any x.v 0 (p - 1))
  change Hid (∀ W, Calls _ _ _ _ fun e w' => e = .returned (.bool (inB x.r 0 (R - 1))) ∧ W = w') at HWR
  change Hid (∀ W, Calls _ _ _ _ fun e w' => e = .returned (.bool (inB x.a 0 (R - 1))) ∧ W = w') at HWA
  change Hid (∀ W, Calls _ _ _ _ fun e w' => e = .returned (.bool (inB x.b 0 (R - 1))) ∧ W = w') at HWB
  change Hid (∀ W, Calls _ _ _ _ fun e w' => e = .returned (.bool (inB x.a 0 (I - 1))) ∧ W = w') at HW1
  change Hid (∀ W, Calls _ _ _ _ fun e w' => e = .returned (.bool (inB x.a 0 (C - 1))) ∧ W = w') at HW2
  change Hid (∀ W, Calls _ _ _ _ fun e w' => e = .returned (.bool (inB x.a 0 (O - 1))) ∧ W = w') at HW3
  change Hid (∀ W, Calls _ _ _ _ fun e w' => e = .returned (.bool (inB x.v 0 (p - 1))) ∧ W = w') at HE
  have C1 := Lib.hid (@inst_c1 p I O C R x)
  have C2 := Lib.hid (@inst_c2 p I O C R x)
  have C3 := Lib.hid (@inst_c3 p I O C R x)
  have C4 := Lib.hid (@inst_c4 p I O C R x)
  have C5 := Lib.hid (@inst_c5 p I O C R x)
  have C6 := Lib.hid (@inst_c6 p I O C R x)
  have C7 := Lib.hid (@inst_c7 p I O C R x)
  have C8 := Lib.hid (show ¬ x.o = 1 → ¬ x.o = 2 → ¬ x.o = 3 → ¬ x.o = 4 → ¬ x.o = 5 → ¬ x.o = 6 → ¬ x.o = 7 → instB p I O C R x = false from fun h1 h2 h3 h4 h5 h6 h7 => by simp [instB, h1, h2, h3, h4, h5, h6, h7])
  unfold itV prV at *
  generalize instB p I O C R x = gb at *
  generalize inB x.r 0 (R - 1) = ir at *
  generalize inB x.a 0 (R - 1) = ia at *
  generalize inB x.b 0 (R - 1) = ib at *
  generalize inB x.a 0 (I - 1) = i1 at *
  generalize inB x.a 0 (C - 1) = i2 at *
  generalize inB x.a 0 (O - 1) = i3 at *
  generalize inB x.v 0 (p - 1) = i4 at *
  obtain ⟨k, r, a, b, v⟩ := x
  simp only at HWR HWA HWB HW1 HW2 HW3 HE C1 C2 C3 C4 C5 C6 C7 C8
  have hwr : IntKind.i64.wrap (R - 1) = R - 1 := wrap_id (by omega) (by omega)
  have hwi : IntKind.i64.wrap (I - 1) = I - 1 := wrap_id (by omega) (by omega)
  have hwc : IntKind.i64.wrap (C - 1) = C - 1 := wrap_id (by omega) (by omega)
  have hwo : IntKind.i64.wrap (O - 1) = O - 1 := wrap_id (by omega) (by omega)
  have hwp : IntKind.i64.wrap (p - 1) = p - 1 := wrap_id (by omega) (by omega)
  have HG0 := Lib.hid (gr2 w (.cells #[.int .i64 I, .int .i64 O, .int .i64 C, .int .i64 R, cv] 43) (.cells #[.int .i64 k, .int .i64 r, .int .i64 a, .int .i64 b, .int .i64 v] 106))
  go_enter Tryd.func106, Tryd.ntmps106
  go_upto_region 1 with fail
  go_quiet ((first
    | (go_at_call 74; with_reducible exact Calls.quiet_of (q0 (HWR.out _)))
    | (go_at_call 74; with_reducible exact Calls.quiet_of (q0 (HWA.out _)))
    | (go_at_call 74; with_reducible exact Calls.quiet_of (q0 (HWB.out _)))))
  cases ir
  · by_cases k1 : k = 1
    · subst k1
      have HK := Lib.hid (show gb = false from C1.out rfl)
      clear C1 C2 C3 C4 C5 C6 C7 C8
      go_wp2
      go_ret
      exact ⟨by rw [HK.out]; rfl, grownBy_trans HG0.out (grown_drewN' _ _)⟩
    have q1 : (k == 1) = false := by simpa using k1
    by_cases k2 : k = 2
    · subst k2
      have HK := Lib.hid (show gb = false from C2.out rfl)
      clear C1 C2 C3 C4 C5 C6 C7 C8
      go_wp2
      go_ret
      exact ⟨by rw [HK.out]; rfl, grownBy_trans HG0.out (grown_drewN' _ _)⟩
    have q2 : (k == 2) = false := by simpa using k2
    by_cases k3 : k = 3
    · subst k3
      have HK := Lib.hid (show gb = false from C3.out rfl)
      clear C1 C2 C3 C4 C5 C6 C7 C8
      go_wp2
      go_ret
      exact ⟨by rw [HK.out]; rfl, grownBy_trans HG0.out (grown_drewN' _ _)⟩
    have q3 : (k == 3) = false := by simpa using k3
    by_cases k4 : k = 4
    · subst k4
      have HK := Lib.hid (show gb = false from C4.out rfl)
      clear C1 C2 C3 C4 C5 C6 C7 C8
      go_wp2
      go_ret
      exact ⟨by rw [HK.out]; rfl, grownBy_trans HG0.out (grown_drewN' _ _)⟩
    have q4 : (k == 4) = false := by simpa using k4
    by_cases k5 : k = 5
    · subst k5
      have HK := Lib.hid (show gb = false from C5.out rfl)
      clear C1 C2 C3 C4 C5 C6 C7 C8
      go_wp2
      go_ret
      exact ⟨by rw [HK.out]; rfl, grownBy_trans HG0.out (grown_drewN' _ _)⟩
    have q5 : (k == 5) = false := by simpa using k5
    by_cases k6 : k = 6
    · subst k6
      have HK := Lib.hid (show gb = false from C6.out rfl)
      clear C1 C2 C3 C4 C5 C6 C7 C8
      go_wp2
      go_ret
      exact ⟨by rw [HK.out]; rfl, grownBy_trans HG0.out (grown_drewN' _ _)⟩
    have q6 : (k == 6) = false := by simpa using k6
    by_cases k7 : k = 7
    · subst k7
      have HK := Lib.hid (show gb = false from C7.out rfl)
      clear C1 C2 C3 C4 C5 C6 C7 C8
      go_wp2
      go_ret
      exact ⟨by rw [HK.out]; rfl, grownBy_trans HG0.out (grown_drewN' _ _)⟩
    have q7 : (k == 7) = false := by simpa using k7
    have HK := Lib.hid (show gb = false from C8.out k1 k2 k3 k4 k5 k6 k7)
    clear C1 C2 C3 C4 C5 C6 C7 C8 k1 k2 k3 k4 k5 k6 k7
    go_wp2
    go_ret
    exact ⟨by rw [HK.out]; rfl, grownBy_trans HG0.out (grown_drewN' _ _)⟩
  · by_cases k1 : k = 1
    · subst k1
      have HK := Lib.hid (show gb = (i1 && (decide (b = 0) && decide (v = 0))) from C1.out rfl)
      clear C1 C2 C3 C4 C5 C6 C7 C8
      cases i1 <;> by_cases hb : b = 0 <;> by_cases hv : v = 0
      all_goals
        first | (have eb : (b == 0) = true := decide_eq_true hb; try rw [decide_eq_true hb] at HK) | (have eb : (b == 0) = false := decide_eq_false hb; try rw [decide_eq_false hb] at HK)
        first | (have ev : (v == 0) = true := decide_eq_true hv; try rw [decide_eq_true hv] at HK) | (have ev : (v == 0) = false := decide_eq_false hv; try rw [decide_eq_false hv] at HK)
        clear hb hv
        go_wp2_with (go_at_call 74; with_reducible refine (HW1.out _).mono ?_; rintro e w3 ⟨rfl, rfl⟩)
        go_ret
        exact ⟨by rw [HK.out]; rfl, grownBy_trans HG0.out (grown_drewN' _ _)⟩
    have q1 : (k == 1) = false := by simpa using k1
    by_cases k2 : k = 2
    · subst k2
      have HK := Lib.hid (show gb = (decide (a = 0) && (decide (b = 0) && decide (v = 0))) from C2.out rfl)
      clear C1 C2 C3 C4 C5 C6 C7 C8
      by_cases ha : a = 0 <;> by_cases hb : b = 0 <;> by_cases hv : v = 0
      all_goals
        first | (have ea : (a == 0) = true := decide_eq_true ha; try rw [decide_eq_true ha] at HK) | (have ea : (a == 0) = false := decide_eq_false ha; try rw [decide_eq_false ha] at HK)
        first | (have eb : (b == 0) = true := decide_eq_true hb; try rw [decide_eq_true hb] at HK) | (have eb : (b == 0) = false := decide_eq_false hb; try rw [decide_eq_false hb] at HK)
        first | (have ev : (v == 0) = true := decide_eq_true hv; try rw [decide_eq_true hv] at HK) | (have ev : (v == 0) = false := decide_eq_false hv; try rw [decide_eq_false hv] at HK)
        clear ha hb hv
        go_wp2
        go_ret
        exact ⟨by rw [HK.out]; rfl, grownBy_trans HG0.out (grown_drewN' _ _)⟩
    have q2 : (k == 2) = false := by simpa using k2
    by_cases k3 : k = 3
    · subst k3
      have HK := Lib.hid (show gb = (ia && (ib && decide (v = 0))) from C3.out rfl)
      clear C1 C2 C3 C4 C5 C6 C7 C8
      cases ia <;> cases ib <;> by_cases hv : v = 0
      all_goals
        first | (have ev : (v == 0) = true := decide_eq_true hv; try rw [decide_eq_true hv] at HK) | (have ev : (v == 0) = false := decide_eq_false hv; try rw [decide_eq_false hv] at HK)
        clear hv
        go_wp2
        go_ret
        exact ⟨by rw [HK.out]; rfl, grownBy_trans HG0.out (grown_drewN' _ _)⟩
    have q3 : (k == 3) = false := by simpa using k3
    by_cases k4 : k = 4
    · subst k4
      have HK := Lib.hid (show gb = (ia && (decide (b = 0) && i4)) from C4.out rfl)
      clear C1 C2 C3 C4 C5 C6 C7 C8
      cases ia <;> cases i4 <;> by_cases hb : b = 0
      all_goals
        first | (have eb : (b == 0) = true := decide_eq_true hb; try rw [decide_eq_true hb] at HK) | (have eb : (b == 0) = false := decide_eq_false hb; try rw [decide_eq_false hb] at HK)
        clear hb
        go_wp2_with (go_at_call 74; with_reducible refine (HE.out _).mono ?_; rintro e w3 ⟨rfl, rfl⟩)
        go_ret
        exact ⟨by rw [HK.out]; rfl, grownBy_trans HG0.out (grown_drewN' _ _)⟩
    have q4 : (k == 4) = false := by simpa using k4
    by_cases k5 : k = 5
    · subst k5
      have HK := Lib.hid (show gb = (i2 && (decide (b = 0) && decide (v = 0))) from C5.out rfl)
      clear C1 C2 C3 C4 C5 C6 C7 C8
      cases i2 <;> by_cases hb : b = 0 <;> by_cases hv : v = 0
      all_goals
        first | (have eb : (b == 0) = true := decide_eq_true hb; try rw [decide_eq_true hb] at HK) | (have eb : (b == 0) = false := decide_eq_false hb; try rw [decide_eq_false hb] at HK)
        first | (have ev : (v == 0) = true := decide_eq_true hv; try rw [decide_eq_true hv] at HK) | (have ev : (v == 0) = false := decide_eq_false hv; try rw [decide_eq_false hv] at HK)
        clear hb hv
        go_wp2_with (go_at_call 74; with_reducible refine (HW2.out _).mono ?_; rintro e w3 ⟨rfl, rfl⟩)
        go_ret
        exact ⟨by rw [HK.out]; rfl, grownBy_trans HG0.out (grown_drewN' _ _)⟩
    have q5 : (k == 5) = false := by simpa using k5
    by_cases k6 : k = 6
    · subst k6
      have HK := Lib.hid (show gb = (i2 && (decide (b = 0) && decide (v = 0))) from C6.out rfl)
      clear C1 C2 C3 C4 C5 C6 C7 C8
      cases i2 <;> by_cases hb : b = 0 <;> by_cases hv : v = 0
      all_goals
        first | (have eb : (b == 0) = true := decide_eq_true hb; try rw [decide_eq_true hb] at HK) | (have eb : (b == 0) = false := decide_eq_false hb; try rw [decide_eq_false hb] at HK)
        first | (have ev : (v == 0) = true := decide_eq_true hv; try rw [decide_eq_true hv] at HK) | (have ev : (v == 0) = false := decide_eq_false hv; try rw [decide_eq_false hv] at HK)
        clear hb hv
        go_wp2_with (go_at_call 74; with_reducible refine (HW2.out _).mono ?_; rintro e w3 ⟨rfl, rfl⟩)
        go_ret
        exact ⟨by rw [HK.out]; rfl, grownBy_trans HG0.out (grown_drewN' _ _)⟩
    have q6 : (k == 6) = false := by simpa using k6
    by_cases k7 : k = 7
    · subst k7
      have HK := Lib.hid (show gb = (i3 && (decide (b = 0) && decide (v = 0))) from C7.out rfl)
      clear C1 C2 C3 C4 C5 C6 C7 C8
      cases i3 <;> by_cases hb : b = 0 <;> by_cases hv : v = 0
      all_goals
        first | (have eb : (b == 0) = true := decide_eq_true hb; try rw [decide_eq_true hb] at HK) | (have eb : (b == 0) = false := decide_eq_false hb; try rw [decide_eq_false hb] at HK)
        first | (have ev : (v == 0) = true := decide_eq_true hv; try rw [decide_eq_true hv] at HK) | (have ev : (v == 0) = false := decide_eq_false hv; try rw [decide_eq_false hv] at HK)
        clear hb hv
        go_wp2_with (go_at_call 74; with_reducible refine (HW3.out _).mono ?_; rintro e w3 ⟨rfl, rfl⟩)
        go_ret
        exact ⟨by rw [HK.out]; rfl, grownBy_trans HG0.out (grown_drewN' _ _)⟩
    have q7 : (k == 7) = false := by simpa using k7
    have HK := Lib.hid (show gb = false from C8.out k1 k2 k3 k4 k5 k6 k7)
    clear C1 C2 C3 C4 C5 C6 C7 C8 k1 k2 k3 k4 k5 k6 k7
    go_wp2
    go_ret
    exact ⟨by rw [HK.out]; rfl, grownBy_trans HG0.out (grown_drewN' _ _)⟩

set_option maxHeartbeats 4000000 in
theorem cmGood_any (p I O C R : Int) (cv : Value) (is : List It) (w : World) (hg : RdR instE w cv is) (l1 : is.length ≤ 2000000) :
    Calls Tryd.prog 56 #[.int .i64 p, prV I O C R cv] w fun e w' => e = .returned (.bool (progB p I O C R is)) ∧ w.grownBy w' none := by
  have HF := Lib.hid fun W => fdGood_any p W
  have HW1 := Lib.hid (l1In_any I 0 8)
  have HW2 := Lib.hid (l1In_any O 0 8)
  have HW3 := Lib.hid (l1In_any C 0 40)
  have HW4 := Lib.hid (l1In_any R 0 16)
  change Hid (∀ W, Calls _ _ _ _ fun e w' => e = .returned (.bool (inB I 0 8)) ∧ W = w') at HW1
  change Hid (∀ W, Calls _ _ _ _ fun e w' => e = .returned (.bool (inB O 0 8)) ∧ W = w') at HW2
  change Hid (∀ W, Calls _ _ _ _ fun e w' => e = .returned (.bool (inB C 0 40)) ∧ W = w') at HW3
  change Hid (∀ W, Calls _ _ _ _ fun e w' => e = .returned (.bool (inB R 0 16)) ∧ W = w') at HW4
  have hd : decide (120 < (is.length : Int)) = !decide (is.length ≤ 120) := by rw [Bool.eq_iff_iff, decide_eq_true_iff, Bool.not_eq_true', decide_eq_false_iff_not]; omega
  have HE := Lib.hid (show progB p I O C R is = (fldB p && (inB I 0 8 && (inB O 0 8 && (inB C 0 40 && (inB R 0 16 && (decide (is.length ≤ 120) && is.all (instB p I O C R))))))) from rfl)
  have HCI := Lib.hid fun (f0 : fldB p = true) (f1 : inB I 0 8 = true) (f2 : inB O 0 8 = true) (f3 : inB C 0 40 = true) (f4 : inB R 0 16 = true) x W => cmInstr_any p I O C R cv x W (inB_iff.1 f1).1 (inB_iff.1 f1).2 (inB_iff.1 f2).1 (inB_iff.1 f2).2 (inB_iff.1 f3).1 (inB_iff.1 f3).2 (inB_iff.1 f4).1 (inB_iff.1 f4).2 (by have := (fldB_iff.1 f0); omega) (by have := (fldB_iff.1 f0); omega)
  have HR := Lib.hid fun W (h : w.grownBy W none) => hg.carry h
  unfold prV at *
  obtain ⟨a1, c1, rfl⟩ := hg.shape
  clear hg
  have hs0 := (Sep.start w).box #[.int .i64 I, .int .i64 O, .int .i64 C, .int .i64 R, .slice a1 is.length c1] 43
  generalize hlen : is.length = n1 at *
  have HL := Lib.hid hlen
  have HS0 := Lib.hid hs0
  have HG1 := Lib.hid (show w.grownBy _ none from hs0.tl.hd)
  obtain ⟨x0, x1, x2, x3, x4, -⟩ := bxP hs0.hd
  clear hs0 hlen
  cases f1 : fldB p
  · rw [f1] at HE
    rw [f1] at HF
    have HC := Lib.hid (show progB p I O C R is = false from HE.out)
    clear HE HCI f1
    go_enter Tryd.func56, Tryd.ntmps56
    go_wp2_with (first | (go_at_call 73; with_reducible refine (HF.out _).mono ?_; rintro e w2 ⟨rfl, rfl⟩))
    go_ret
    exact ⟨by rw [HC.out]; rfl, HG1.out⟩
  · rw [f1] at HF
    cases f2 : inB I 0 8
    · rw [f1, f2] at HE
      rw [f2] at HW1
      have HC := Lib.hid (show progB p I O C R is = false from HE.out)
      clear HE HCI f1 f2
      go_enter Tryd.func56, Tryd.ntmps56
      go_wp2_with (first | (go_at_call 73; with_reducible refine (HF.out _).mono ?_; rintro e w2 ⟨rfl, rfl⟩) | (go_at_call 74; with_reducible refine (HW1.out _).mono ?_; rintro e w2 ⟨rfl, rfl⟩))
      go_ret
      exact ⟨by rw [HC.out]; rfl, HG1.out⟩
    · rw [f2] at HW1
      cases f3 : inB O 0 8
      · rw [f1, f2, f3] at HE
        rw [f3] at HW2
        have HC := Lib.hid (show progB p I O C R is = false from HE.out)
        clear HE HCI f1 f2 f3
        go_enter Tryd.func56, Tryd.ntmps56
        go_wp2_with (first | (go_at_call 73; with_reducible refine (HF.out _).mono ?_; rintro e w2 ⟨rfl, rfl⟩) | (go_at_call 74; with_reducible refine (HW1.out _).mono ?_; rintro e w2 ⟨rfl, rfl⟩) | (go_at_call 74; with_reducible refine (HW2.out _).mono ?_; rintro e w2 ⟨rfl, rfl⟩))
        go_ret
        exact ⟨by rw [HC.out]; rfl, HG1.out⟩
      · rw [f3] at HW2
        cases f4 : inB C 0 40
        · rw [f1, f2, f3, f4] at HE
          rw [f4] at HW3
          have HC := Lib.hid (show progB p I O C R is = false from HE.out)
          clear HE HCI f1 f2 f3 f4
          go_enter Tryd.func56, Tryd.ntmps56
          go_wp2_with (first | (go_at_call 73; with_reducible refine (HF.out _).mono ?_; rintro e w2 ⟨rfl, rfl⟩) | (go_at_call 74; with_reducible refine (HW1.out _).mono ?_; rintro e w2 ⟨rfl, rfl⟩) | (go_at_call 74; with_reducible refine (HW2.out _).mono ?_; rintro e w2 ⟨rfl, rfl⟩) | (go_at_call 74; with_reducible refine (HW3.out _).mono ?_; rintro e w2 ⟨rfl, rfl⟩))
          go_ret
          exact ⟨by rw [HC.out]; rfl, HG1.out⟩
        · rw [f4] at HW3
          cases f5 : inB R 0 16
          · rw [f1, f2, f3, f4, f5] at HE
            rw [f5] at HW4
            have HC := Lib.hid (show progB p I O C R is = false from HE.out)
            clear HE HCI f1 f2 f3 f4 f5
            go_enter Tryd.func56, Tryd.ntmps56
            go_wp2_with (first | (go_at_call 73; with_reducible refine (HF.out _).mono ?_; rintro e w2 ⟨rfl, rfl⟩) | (go_at_call 74; with_reducible refine (HW1.out _).mono ?_; rintro e w2 ⟨rfl, rfl⟩) | (go_at_call 74; with_reducible refine (HW2.out _).mono ?_; rintro e w2 ⟨rfl, rfl⟩) | (go_at_call 74; with_reducible refine (HW3.out _).mono ?_; rintro e w2 ⟨rfl, rfl⟩) | (go_at_call 74; with_reducible refine (HW4.out _).mono ?_; rintro e w2 ⟨rfl, rfl⟩))
            go_ret
            exact ⟨by rw [HC.out]; rfl, HG1.out⟩
          · rw [f5] at HW4
            cases f7 : decide (n1 ≤ 120)
            · rw [f1, f2, f3, f4, f5, f7] at HE
              rw [f7] at hd
              have HC := Lib.hid (show progB p I O C R is = false from HE.out)
              clear HE HCI f7 f1 f2 f3 f4 f5
              go_enter Tryd.func56, Tryd.ntmps56
              go_wp2_with (first | (go_at_call 73; with_reducible refine (HF.out _).mono ?_; rintro e w2 ⟨rfl, rfl⟩) | (go_at_call 74; with_reducible refine (HW1.out _).mono ?_; rintro e w2 ⟨rfl, rfl⟩) | (go_at_call 74; with_reducible refine (HW2.out _).mono ?_; rintro e w2 ⟨rfl, rfl⟩) | (go_at_call 74; with_reducible refine (HW3.out _).mono ?_; rintro e w2 ⟨rfl, rfl⟩) | (go_at_call 74; with_reducible refine (HW4.out _).mono ?_; rintro e w2 ⟨rfl, rfl⟩))
              go_ret
              exact ⟨by rw [HC.out]; rfl, HG1.out⟩
            · rw [f7] at hd
              rw [f1, f2, f3, f4, f5, f7] at HE
              simp only [Bool.true_and] at HE
              have hn1 := of_decide_eq_true f7
              have HCX := Lib.hid (HCI.out f1 f2 f3 f4 f5)
              clear HCI f7 f1 f2 f3 f4 f5
              go_enter Tryd.func56, Tryd.ntmps56
              go_wp2_with (first | (go_at_call 73; with_reducible refine (HF.out _).mono ?_; rintro e w2 ⟨rfl, rfl⟩) | (go_at_call 74; with_reducible refine (HW1.out _).mono ?_; rintro e w2 ⟨rfl, rfl⟩) | (go_at_call 74; with_reducible refine (HW2.out _).mono ?_; rintro e w2 ⟨rfl, rfl⟩) | (go_at_call 74; with_reducible refine (HW3.out _).mono ?_; rintro e w2 ⟨rfl, rfl⟩) | (go_at_call 74; with_reducible refine (HW4.out _).mono ?_; rintro e w2 ⟨rfl, rfl⟩))
              go_loopw [43] (fun i wr => ∃ k : Nat, k ≤ n1 ∧ i = .int .i64 k ∧ (∀ j, j < k → instB p I O C R (is.getD j i0) = true) ∧ Sep wr [BxA w.heap.size #[.int .i64 I, .int .i64 O, .int .i64 C, .int .i64 R, .slice a1 n1 c1] 43, KeepA w]) (fun i _ => n1 - (intOf i).toNat)
              case atStart => exact ⟨0, by omega, rfl, fun _ h => absurd h (by omega), HS0.out⟩
              case round =>
                obtain ⟨k, hk, rfl, hall, hs⟩ := hrel
                have HA := Lib.hid hall; have HS := Lib.hid hs
                obtain ⟨y0, y1, y2, y3, y4, -⟩ := bxP hs.hd
                have HKK := Lib.hid (show w.grownBy wr none from hs.tl.hd)
                have ya := fun ob => bxP ((hs.al ob).hd)
                have z0 := fun ob => (ya ob).1
                have z1 := fun ob => (ya ob).2.1
                have z2 := fun ob => (ya ob).2.2.1
                have z3 := fun ob => (ya ob).2.2.2.1
                have z4 := fun ob => (ya ob).2.2.2.2.1
                clear ya
                by_cases hlt : k < n1
                · obtain ⟨b, o, rfl, hb, q0', q1, q2, q3, q4⟩ := inst_at rfl rfl (HR.out _ hs.tl.hd) (i := k) (by rw [HL.out]; exact hlt)
                  clear hall hs hb
                  have hcall := HCX.out (is.getD k i0)
                  generalize hz : is.getD k i0 = z at *
                  have HZ := Lib.hid hz
                  unfold itV at hcall
                  cases hq : instB p I O C R z
                  · rw [hq] at hcall
                    have HCC := Lib.hid hcall
                    have HC := Lib.hid (show progB p I O C R is = false from by
                      rw [HE.out, List.all_eq_false]
                      exact ⟨z, by rw [← hz]; exact inst_mem (by rw [HL.out]; exact hlt), by rw [hq]; simp⟩)
                    clear hcall hz hq
                    obtain ⟨zo, zr, za, zb, zv⟩ := z
                    simp only at q0' q1 q2 q3 q4 HCC
                    have HGW := Lib.hid (gr1 wr (.cells #[.int .i64 zo, .int .i64 zr, .int .i64 za, .int .i64 zb, .int .i64 zv] 106))
                    go_wp2_with (go_at_call 106; with_reducible refine (HCC.out _).mono ?_; rintro e w4 ⟨rfl, hg4⟩; have HG4 := Lib.hid (grownBy_trans HKK.out (grownBy_trans HGW.out hg4)); clear hg4)
                    go_ret
                    exact ⟨by rw [HC.out]; rfl, HG4.out⟩
                  · rw [hq] at hcall
                    have HCC := Lib.hid hcall
                    have HQ := Lib.hid hq
                    clear hcall hz hq
                    obtain ⟨zo, zr, za, zb, zv⟩ := z
                    simp only at q0' q1 q2 q3 q4 HCC
                    have HGW := Lib.hid (gr1 wr (.cells #[.int .i64 zo, .int .i64 zr, .int .i64 za, .int .i64 zb, .int .i64 zv] 106))
                    go_wp2_with (go_at_call 106; with_reducible refine (HCC.out _).mono ?_; rintro e w4 ⟨rfl, hg4⟩; have HS4 := Lib.hid (HS.out.grown (grownBy_trans HGW.out hg4)); clear hg4)
                    go_roundw
                    case rel => exact ⟨k + 1, by omega, by go_num, fun j hj => by
                      by_cases e : j = k
                      · subst e; rw [HZ.out]; exact HQ.out
                      · exact HA.out j (by omega), HS4.out⟩
                    case measure => simp [intOf]; omega
                · have : k = n1 := by omega
                  subst this
                  have HC := Lib.hid (show progB p I O C R is = true from by
                    rw [HE.out, List.all_eq_true]
                    intro x hx
                    obtain ⟨i, hi, rfl⟩ := List.getElem_of_mem hx
                    have := hall i (by rw [← HL.out]; exact hi)
                    rwa [List.getD_eq_getElem?_getD, List.getElem?_eq_getElem hi] at this)
                  clear hlt hall hs
                  go_wp2
                  go_ret
                  exact ⟨by rw [HC.out]; rfl, HKK.out⟩
end Go.Proofs.YtmofaaceadnafaaDoor

/-
  The circuit of a program of instructions in plain Lean. Conditions: none.
-/
namespace Go.Proofs.YtmofaaceadnafaaDoor
open Go.RowKit
set_option linter.unusedVariables false

/-- Gates, registers, cells, outputs. -/
structure Ds where
  gs : List Gt
  r : Nat → Int
  cl : List Int
  ot : List Int
def upR (r : Nat → Int) (i : Int) (x : Int) : Nat → Int := fun j => if j = i.toNat then x else r j
/-- The gate that an instruction makes. -/
def gtD (s : Ds) (x : It) : Gt :=
  if x.o = 1 then ⟨1, 0, 0, x.a⟩ else if x.o = 2 then ⟨2, 0, 0, 0⟩ else if x.o = 3 then ⟨3, s.r x.a.toNat, s.r x.b.toNat, 0⟩ else if x.o = 4 then ⟨4, s.r x.a.toNat, 0, x.v⟩ else g0
/-- What else it turns. -/
def midD (s : Ds) (x : It) : Ds :=
  if x.o = 5 then ⟨s.gs, upR s.r x.r (s.cl.getD x.a.toNat 0), s.cl, s.ot⟩
  else if x.o = 6 then ⟨s.gs, s.r, s.cl.set x.a.toNat (s.r x.r.toNat), s.ot⟩
  else if x.o = 7 then ⟨s.gs, s.r, s.cl, s.ot.set x.a.toNat (s.r x.r.toNat)⟩
  else s
def stepD (s : Ds) (x : It) : Ds := if (gtD s x).k = 0 then midD s x else ⟨s.gs ++ [gtD s x], upR s.r x.r s.gs.length, s.cl, s.ot⟩
def runD (s : Ds) (l : List It) : Ds := l.foldl stepD s
def s0D (O C : Int) : Ds := ⟨List.replicate C.toNat ⟨5, 0, 0, 0⟩ ++ [⟨2, 0, 0, 0⟩], fun _ => C, upL C.toNat, List.replicate O.toNat C⟩
def setA (g : Gt) (x : Int) : Gt := ⟨g.k, x, g.b, g.v⟩
def lnk (gs : List Gt) (cl : List Int) : Nat → List Gt
  | 0 => gs
  | k + 1 => (lnk gs cl k).set k (setA ((lnk gs cl k).getD k g0) (cl.getD k 0))
def decC (I O C : Int) (code : List It) : Circ := ⟨I, lnk (runD (s0D O C) code).gs (runD (s0D O C) code).cl C.toNat, (runD (s0D O C) code).ot⟩
theorem lnk_len (gs : List Gt) (cl : List Int) (k : Nat) : (lnk gs cl k).length = gs.length := by
  induction k with
  | zero => rfl
  | succ k ih => simp [lnk, ih]
theorem mid_len (s : Ds) (x : It) : (midD s x).cl.length = s.cl.length ∧ (midD s x).ot.length = s.ot.length ∧ (midD s x).gs = s.gs := by
  unfold midD
  split
  · exact ⟨rfl, rfl, rfl⟩
  · split
    · exact ⟨by simp, rfl, rfl⟩
    · split
      · exact ⟨rfl, by simp, rfl⟩
      · exact ⟨rfl, rfl, rfl⟩
theorem step_lenD (s : Ds) (x : It) : (stepD s x).cl.length = s.cl.length ∧ (stepD s x).ot.length = s.ot.length ∧ (stepD s x).gs.length ≤ s.gs.length + 1 ∧ s.gs.length ≤ (stepD s x).gs.length := by
  unfold stepD
  obtain ⟨h1, h2, h3⟩ := mid_len s x
  split
  · exact ⟨h1, h2, by rw [h3]; omega, by rw [h3]; exact Nat.le_refl _⟩
  · exact ⟨rfl, rfl, by simp, by simp⟩
theorem run_lenD (l : List It) : ∀ s : Ds, (runD s l).cl.length = s.cl.length ∧ (runD s l).ot.length = s.ot.length ∧ (runD s l).gs.length ≤ s.gs.length + l.length ∧ s.gs.length ≤ (runD s l).gs.length := by
  induction l with
  | nil => intro s; exact ⟨rfl, rfl, Nat.le_refl _, Nat.le_refl _⟩
  | cons x l ih =>
    intro s
    obtain ⟨a1, a2, a3, a4⟩ := ih (stepD s x)
    obtain ⟨b1, b2, b3, b4⟩ := step_lenD s x
    exact ⟨a1.trans b1, a2.trans b2, Nat.le_trans a3 (by simp only [List.length_cons]; omega), Nat.le_trans b4 a4⟩
theorem run_snoc (s : Ds) (l : List It) (x : It) : runD s (l ++ [x]) = stepD (runD s l) x := by simp [runD]
theorem run_take (s : Ds) {l : List It} {k : Nat} (hk : k < l.length) : runD s (l.take (k + 1)) = stepD (runD s (l.take k)) (l.getD k i0) := by
  rw [List.take_succ_eq_append_getElem hk, run_snoc, List.getD_eq_getElem?_getD, List.getElem?_eq_getElem hk]
  rfl
theorem gt_k (s : Ds) (x : It) : (x.o = 1 ∨ x.o = 2 ∨ x.o = 3 ∨ x.o = 4) → (gtD s x).k = x.o := by
  intro h
  unfold gtD
  rcases h with h | h | h | h <;> simp [h]
theorem dec_bnd {p I O C R : Int} {code : List It} (h : progB p I O C R code = true) : (0 ≤ I ∧ I ≤ 8) ∧ (0 ≤ O ∧ O ≤ 8) ∧ (0 ≤ C ∧ C ≤ 40) ∧ (0 ≤ R ∧ R ≤ 16) ∧ code.length ≤ 120 ∧ ∀ x ∈ code, instB p I O C R x = true := by
  unfold progB at h
  simp only [Bool.and_eq_true, decide_eq_true_iff, List.all_eq_true, inB_iff] at h
  obtain ⟨_, h1, h2, h3, h4, h5, h6⟩ := h
  exact ⟨h1, h2, h3, h4, h5, h6⟩
/-- What is known of an instruction of a program. -/
theorem inst_bnd {p I O C R : Int} {x : It} (h : instB p I O C R x = true) : (0 ≤ x.r ∧ x.r < R) ∧ (x.o = 3 → (0 ≤ x.a ∧ x.a < R) ∧ (0 ≤ x.b ∧ x.b < R)) ∧ (x.o = 4 → 0 ≤ x.a ∧ x.a < R) ∧ (x.o = 5 ∨ x.o = 6 → 0 ≤ x.a ∧ x.a < C) ∧ (x.o = 7 → 0 ≤ x.a ∧ x.a < O) ∧ (1 ≤ x.o ∧ x.o ≤ 7) := by
  have hr : inB x.r 0 (R - 1) = true := by
    unfold instB at h
    rw [Bool.and_eq_true] at h
    exact h.1
  rw [inB_iff] at hr
  refine ⟨by omega, fun e => ?_, fun e => ?_, fun e => ?_, fun e => ?_, ?_⟩
  · rw [inst_c3 e] at h
    simp only [Bool.and_eq_true, inB_iff] at h
    omega
  · rw [inst_c4 e] at h
    simp only [Bool.and_eq_true, inB_iff] at h
    omega
  · rcases e with e | e
    · rw [inst_c5 e] at h
      simp only [Bool.and_eq_true, inB_iff] at h
      omega
    · rw [inst_c6 e] at h
      simp only [Bool.and_eq_true, inB_iff] at h
      omega
  · rw [inst_c7 e] at h
    simp only [Bool.and_eq_true, inB_iff] at h
    omega
  · by_cases h1 : x.o = 1
    · omega
    by_cases h2 : x.o = 2
    · omega
    by_cases h3 : x.o = 3
    · omega
    by_cases h4 : x.o = 4
    · omega
    by_cases h5 : x.o = 5
    · omega
    by_cases h6 : x.o = 6
    · omega
    by_cases h7 : x.o = 7
    · omega
    · exfalso
      simp [instB, h1, h2, h3, h4, h5, h6, h7] at h
end Go.Proofs.YtmofaaceadnafaaDoor

/-
  Equal numbers in a list; an array of numbers in a box. Conditions: lengths are small.
-/
namespace Go.Proofs.YtmofaaceadnafaaDoor
open Go.RowKit
set_option linter.unusedVariables false
set_option maxRecDepth 100000

theorem rep_set {n k : Nat} (x y : Int) (hk : k < n) : (List.replicate k x ++ List.replicate (n - k) y).set k x = List.replicate (k + 1) x ++ List.replicate (n - (k + 1)) y := by
  rw [List.set_append_right _ _ (by simp), List.length_replicate, Nat.sub_self, show n - k = (n - (k + 1)) + 1 by omega, List.replicate_succ, List.set_cons_zero, List.replicate_succ']
  simp
theorem repeated_any (x : Int) (n : Nat) (w : World) (hl : n ≤ 1000000) :
    Calls Tryd.prog 112 #[.int .i64 x, .int .i64 n] w fun e w' => ∃ g c, e = .returned (.slice (some ⟨g, 0, none⟩) n c) ∧ Sep w' [OI (.slice (some ⟨g, 0, none⟩) n c) (List.replicate n x), KeepA w] := by
  have HZ := Lib.hid (zeros_full n w hl)
  go_enter Tryd.func112, Tryd.ntmps112
  go_wp2_with (
    go_at_call 132
    refine HZ.out.mono ?_
    rintro e w2 ⟨g, c, rfl, hs⟩
    have HS := Lib.hid hs
    clear hs)
  go_loopw [6, 11] (fun _ i wr => ∃ k : Nat, k ≤ n ∧ i = .int .i64 k ∧ Sep wr [OI (.slice (some ⟨g, 0, none⟩) n c) (List.replicate k x ++ List.replicate (n - k) 0), KeepA w]) (fun _ i _ => n - (intOf i).toNat)
  case atStart => exact ⟨0, by omega, rfl, by simpa using HS.out⟩
  case round =>
    obtain ⟨k, hk, rfl, hs⟩ := hrel
    have HSX := Lib.hid hs
    clear hs
    by_cases hlt : k < n
    · have hll : n = (List.replicate k x ++ List.replicate (n - k) (0 : Int)).length := by rw [List.length_append, List.length_replicate, List.length_replicate]; omega
      have hf := HSX.out.hd.free hll k
      obtain ⟨q, hc0⟩ := HSX.out.hd.cellQ hll (j := k) hlt
      have hset := HSX.out.setI hll k x
      rw [rep_set x 0 hlt] at hset
      have HSET := Lib.hid hset
      clear hll hset
      go_wp2
      go_roundw
      case rel => exact ⟨k + 1, by omega, by go_num, HSET.out⟩
      case measure => simp [intOf]; omega
    · have hkn : k = n := by omega
      subst hkn
      clear hlt
      go_wp2
      go_ret
      have := HSX.out
      rw [Nat.sub_self, List.replicate_zero, List.append_nil] at this
      exact ⟨_, _, rfl, this⟩
/-- An array of numbers as cells. -/
def arrC (rl : List Int) : Array Value := (rl.map (Value.int .i64)).toArray
theorem arr_cell {w : World} {b : Nat} {rl : List Int} {t : TypeId} (h : w.heap[b]? = some (.cells (arrC rl) t (0, 0))) {i : Nat} (hi : i < rl.length) : w.cell? ⟨b, i, none⟩ = some (.int .i64 (rl.getD i 0)) ∧ w.frozen? ⟨b, i, none⟩ = false := by
  refine ⟨?_, frozen_of_row w b i _ t h⟩
  rw [cell_of_row w b i _ t _ h]
  simp [arrC, List.getD_eq_getElem?_getD, List.getElem?_eq_getElem hi]
theorem Sep.setAr {w : World} {b : Nat} {rl : List Int} {t : TypeId} {l : List Asrt} (h : Sep w (BxA b (arrC rl) t :: l)) (i : Nat) (x : Int) : Sep (w.setCell ⟨b, i, none⟩ (.int .i64 x)) (BxA b (arrC (rl.set i x)) t :: l) := by
  have := h.setB i (.int .i64 x)
  have e : (arrC rl).setIfInBounds i (.int .i64 x) = arrC (rl.set i x) := by simp [arrC]
  rwa [e] at this
theorem bxZ {w : World} {k : Nat} {t : TypeId} (h : w.heap[k]? = some (.cells (arrC (List.replicate 16 0)) t (0, 0))) :
    w.cell? ⟨k, 0, none⟩ = some (.int .i64 0) ∧ w.cell? ⟨k, 1, none⟩ = some (.int .i64 0) ∧ w.cell? ⟨k, 2, none⟩ = some (.int .i64 0) ∧ w.cell? ⟨k, 3, none⟩ = some (.int .i64 0) ∧ w.cell? ⟨k, 4, none⟩ = some (.int .i64 0) ∧ w.cell? ⟨k, 5, none⟩ = some (.int .i64 0) ∧ w.cell? ⟨k, 6, none⟩ = some (.int .i64 0) ∧ w.cell? ⟨k, 7, none⟩ = some (.int .i64 0) ∧ w.cell? ⟨k, 8, none⟩ = some (.int .i64 0) ∧ w.cell? ⟨k, 9, none⟩ = some (.int .i64 0) ∧ w.cell? ⟨k, 10, none⟩ = some (.int .i64 0) ∧ w.cell? ⟨k, 11, none⟩ = some (.int .i64 0) ∧ w.cell? ⟨k, 12, none⟩ = some (.int .i64 0) ∧ w.cell? ⟨k, 13, none⟩ = some (.int .i64 0) ∧ w.cell? ⟨k, 14, none⟩ = some (.int .i64 0) ∧ w.cell? ⟨k, 15, none⟩ = some (.int .i64 0) ∧ w.frozen? ⟨k, 0, none⟩ = false ∧ w.frozen? ⟨k, 1, none⟩ = false ∧ w.frozen? ⟨k, 2, none⟩ = false ∧ w.frozen? ⟨k, 3, none⟩ = false ∧ w.frozen? ⟨k, 4, none⟩ = false ∧ w.frozen? ⟨k, 5, none⟩ = false ∧ w.frozen? ⟨k, 6, none⟩ = false ∧ w.frozen? ⟨k, 7, none⟩ = false ∧ w.frozen? ⟨k, 8, none⟩ = false ∧ w.frozen? ⟨k, 9, none⟩ = false ∧ w.frozen? ⟨k, 10, none⟩ = false ∧ w.frozen? ⟨k, 11, none⟩ = false ∧ w.frozen? ⟨k, 12, none⟩ = false ∧ w.frozen? ⟨k, 13, none⟩ = false ∧ w.frozen? ⟨k, 14, none⟩ = false ∧ w.frozen? ⟨k, 15, none⟩ = false := by
  have c := fun i (hi : i < 16) => arr_cell h (i := i) (by simpa using hi)
  exact ⟨(c 0 (by omega)).1, (c 1 (by omega)).1, (c 2 (by omega)).1, (c 3 (by omega)).1, (c 4 (by omega)).1, (c 5 (by omega)).1, (c 6 (by omega)).1, (c 7 (by omega)).1, (c 8 (by omega)).1, (c 9 (by omega)).1, (c 10 (by omega)).1, (c 11 (by omega)).1, (c 12 (by omega)).1, (c 13 (by omega)).1, (c 14 (by omega)).1, (c 15 (by omega)).1, (c 0 (by omega)).2, (c 1 (by omega)).2, (c 2 (by omega)).2, (c 3 (by omega)).2, (c 4 (by omega)).2, (c 5 (by omega)).2, (c 6 (by omega)).2, (c 7 (by omega)).2, (c 8 (by omega)).2, (c 9 (by omega)).2, (c 10 (by omega)).2, (c 11 (by omega)).2, (c 12 (by omega)).2, (c 13 (by omega)).2, (c 14 (by omega)).2, (c 15 (by omega)).2⟩
theorem Sep.setZ {w : World} {b : Nat} {t : TypeId} {l : List Asrt} (h : Sep w (BxA b (arrC (List.replicate 16 0)) t :: l)) : Sep ((((((((((((((((w.setCell ⟨b, 0, none⟩ (.int .i64 0)).setCell ⟨b, 1, none⟩ (.int .i64 0)).setCell ⟨b, 2, none⟩ (.int .i64 0)).setCell ⟨b, 3, none⟩ (.int .i64 0)).setCell ⟨b, 4, none⟩ (.int .i64 0)).setCell ⟨b, 5, none⟩ (.int .i64 0)).setCell ⟨b, 6, none⟩ (.int .i64 0)).setCell ⟨b, 7, none⟩ (.int .i64 0)).setCell ⟨b, 8, none⟩ (.int .i64 0)).setCell ⟨b, 9, none⟩ (.int .i64 0)).setCell ⟨b, 10, none⟩ (.int .i64 0)).setCell ⟨b, 11, none⟩ (.int .i64 0)).setCell ⟨b, 12, none⟩ (.int .i64 0)).setCell ⟨b, 13, none⟩ (.int .i64 0)).setCell ⟨b, 14, none⟩ (.int .i64 0)).setCell ⟨b, 15, none⟩ (.int .i64 0)) (BxA b (arrC (List.replicate 16 0)) t :: l) :=
  ((((((((((((((((h).setAr 0 0).setAr 1 0).setAr 2 0).setAr 3 0).setAr 4 0).setAr 5 0).setAr 6 0).setAr 7 0).setAr 8 0).setAr 9 0).setAr 10 0).setAr 11 0).setAr 12 0).setAr 13 0).setAr 14 0).setAr 15 0
theorem Sep.boxAt {w : World} {l : List Asrt} (h : Sep w l) (k : Nat) (hk : k = w.heap.size) (cs : Array Value) (t : TypeId) : Sep (w.alloc (.cells cs t)) (BxA k cs t :: l) := hk ▸ h.box cs t
/-- Registers as a list. -/
def regL (n : Nat) (r : Nat → Int) : List Int := (List.range n).map r
theorem regL_len (n : Nat) (r : Nat → Int) : (regL n r).length = n := by simp [regL]
theorem regL_get {n : Nat} (r : Nat → Int) {i : Nat} (hi : i < n) : (regL n r).getD i 0 = r i := by
  rw [List.getD_eq_getElem?_getD]
  simp [regL, hi]
theorem regL_set (n : Nat) (r : Nat → Int) (i x : Int) : (regL n r).set i.toNat x = regL n (upR r i x) := by
  apply List.ext_getElem
  · simp [regL]
  · intro j h1 h2
    rw [List.getElem_set]
    simp only [regL, List.getElem_map, List.getElem_range, upR]
    by_cases h : i.toNat = j
    · simp [h]
    · rw [if_neg h, if_neg (fun e => h e.symm)]
theorem regL_rep (n : Nat) (x : Int) : List.replicate n x = regL n (fun _ => x) := by
  unfold regL
  apply List.ext_getElem
  · simp
  · intro j h1 h2
    simp
theorem Sep.to6 {w : World} {A C D E F G : Asrt} {l : List Asrt} (h : Sep w (A :: C :: D :: E :: F :: G :: l)) : Sep w (G :: A :: C :: D :: E :: F :: l) := (h.under Sep.s5 (by simp +contextual)).s2
theorem Sep.to7 {w : World} {A C D E F G H : Asrt} {l : List Asrt} (h : Sep w (A :: C :: D :: E :: F :: G :: H :: l)) : Sep w (H :: A :: C :: D :: E :: F :: G :: l) := (h.under Sep.to6 (by simp +contextual)).s2
theorem OI_addr {B : Nat} {w : World} {a : Option Addr} {n c : Nat} {zs : List Int} (h : OwnInts B w (.slice a n c) zs) (hz : 0 < zs.length) : ∃ g, a = some ⟨g, 0, none⟩ := by
  obtain ⟨g, cap, he, _⟩ := h.parts (by intro e; rw [e] at hz; simp at hz)
  injection he with h1
  exact ⟨g, h1⟩
theorem OR_addr {α : Type} {E : Lay α} {B : Nat} {w : World} {a : Option Addr} {n c : Nat} {zs : List α} (h : OwnR E B w (.slice a n c) zs) (hz : 0 < zs.length) : ∃ g, a = some ⟨g, 0, none⟩ := by
  obtain ⟨g, cap, he, _⟩ := h.parts hz
  injection he with h1
  exact ⟨g, h1⟩
theorem gt_1 {s : Ds} {o r a b v : Int} (h : o = 1) : gtD s ⟨o, r, a, b, v⟩ = ⟨1, 0, 0, a⟩ ∧ midD s ⟨o, r, a, b, v⟩ = s := by subst h; exact ⟨by simp [gtD], by simp [midD]⟩
theorem gt_2 {s : Ds} {o r a b v : Int} (h : o = 2) : gtD s ⟨o, r, a, b, v⟩ = ⟨2, 0, 0, 0⟩ ∧ midD s ⟨o, r, a, b, v⟩ = s := by subst h; exact ⟨by simp [gtD], by simp [midD]⟩
theorem gt_3 {s : Ds} {o r v : Int} {a b : Nat} (h : o = 3) : gtD s ⟨o, r, a, b, v⟩ = ⟨3, s.r a, s.r b, 0⟩ ∧ midD s ⟨o, r, a, b, v⟩ = s := by subst h; exact ⟨by simp [gtD], by simp [midD]⟩
theorem gt_4 {s : Ds} {o r b v : Int} {a : Nat} (h : o = 4) : gtD s ⟨o, r, a, b, v⟩ = ⟨4, s.r a, 0, v⟩ ∧ midD s ⟨o, r, a, b, v⟩ = s := by subst h; exact ⟨by simp [gtD], by simp [midD]⟩
theorem gt_5 {s : Ds} {o r b v : Int} {a : Nat} (h : o = 5) : gtD s ⟨o, r, a, b, v⟩ = g0 ∧ midD s ⟨o, r, a, b, v⟩ = ⟨s.gs, upR s.r r (s.cl.getD a 0), s.cl, s.ot⟩ := by subst h; exact ⟨by simp [gtD], by simp [midD]⟩
theorem gt_6 {s : Ds} {o b v : Int} {a r : Nat} (h : o = 6) : gtD s ⟨o, r, a, b, v⟩ = g0 ∧ midD s ⟨o, r, a, b, v⟩ = ⟨s.gs, s.r, s.cl.set a (s.r r), s.ot⟩ := by subst h; exact ⟨by simp [gtD], by simp [midD]⟩
theorem gt_7 {s : Ds} {o b v : Int} {a r : Nat} (h : o = 7) : gtD s ⟨o, r, a, b, v⟩ = g0 ∧ midD s ⟨o, r, a, b, v⟩ = ⟨s.gs, s.r, s.cl, s.ot.set a (s.r r)⟩ := by subst h; exact ⟨by simp [gtD], by simp [midD]⟩
theorem arr_at {w : World} {b n : Nat} {r : Nat → Int} {t : TypeId} (h : w.heap[b]? = some (.cells (arrC (regL n r)) t (0, 0))) {i : Nat} (hi : i < n) : w.cell? ⟨b, i, none⟩ = some (.int .i64 (r i)) ∧ w.frozen? ⟨b, i, none⟩ = false := by
  have := arr_cell h (i := i) (by rw [regL_len]; exact hi)
  rwa [regL_get r hi] at this
theorem OI_at {B g n c : Nat} {w : World} {zs : List Int} (h : OwnInts B w (.slice (some ⟨g, 0, none⟩) n c) zs) (hn : n = zs.length) {i : Nat} (hi : i < zs.length) : w.cell? ⟨g, i, none⟩ = some (.int .i64 (zs.getD i 0)) ∧ w.frozen? ⟨g, i, none⟩ = false := by
  have := h.cell hn hi
  rw [List.getD_eq_getElem?_getD, List.getElem?_eq_getElem hi]
  exact ⟨this, h.free hn i⟩
/-- Four cells of a gate written. -/
theorem Sep.gate4 {w : World} {b : Nat} {x y z u : Value} {t : TypeId} {l : List Asrt} (h : Sep w (BxA b #[x, y, z, u] t :: l)) (x' y' z' u' : Value) :
    Sep ((((w.setCell ⟨b, 0, none⟩ x').setCell ⟨b, 1, none⟩ y').setCell ⟨b, 2, none⟩ z').setCell ⟨b, 3, none⟩ u') (BxA b #[x', y', z', u'] t :: l) := (((h.setB 0 x').setB 1 y').setB 2 z').setB 3 u'
theorem arr16 : arrC (List.replicate 16 0) = #[.int .i64 0, .int .i64 0, .int .i64 0, .int .i64 0, .int .i64 0, .int .i64 0, .int .i64 0, .int .i64 0, .int .i64 0, .int .i64 0, .int .i64 0, .int .i64 0, .int .i64 0, .int .i64 0, .int .i64 0, .int .i64 0] := by rfl
theorem one16 : ∀ v ∈ ([.int .i64 0, .int .i64 0, .int .i64 0, .int .i64 0, .int .i64 0, .int .i64 0, .int .i64 0, .int .i64 0, .int .i64 0, .int .i64 0, .int .i64 0, .int .i64 0, .int .i64 0, .int .i64 0, .int .i64 0, .int .i64 0] : List Value), v.oneCell' = true := by
  intro v hv
  simp only [List.mem_cons, List.not_mem_nil, or_false, or_self] at hv
  subst hv
  rfl
theorem info16 : (Tryd.prog.info? 114).map (·.size) = some ([.int .i64 0, .int .i64 0, .int .i64 0, .int .i64 0, .int .i64 0, .int .i64 0, .int .i64 0, .int .i64 0, .int .i64 0, .int .i64 0, .int .i64 0, .int .i64 0, .int .i64 0, .int .i64 0, .int .i64 0, .int .i64 0] : List Value).length := by kernel_rfl
theorem there16 {w : World} {b : Nat} {t : TypeId} (h : w.heap[b]? = some (.cells #[.int .i64 0, .int .i64 0, .int .i64 0, .int .i64 0, .int .i64 0, .int .i64 0, .int .i64 0, .int .i64 0, .int .i64 0, .int .i64 0, .int .i64 0, .int .i64 0, .int .i64 0, .int .i64 0, .int .i64 0, .int .i64 0] t (0, 0))) : w.there b 0 ([.int .i64 0, .int .i64 0, .int .i64 0, .int .i64 0, .int .i64 0, .int .i64 0, .int .i64 0, .int .i64 0, .int .i64 0, .int .i64 0, .int .i64 0, .int .i64 0, .int .i64 0, .int .i64 0, .int .i64 0, .int .i64 0] : List Value).length := by
  intro j hj
  rw [← arr16] at h
  have := arr_cell h (i := j) (by simpa using hj)
  rw [Nat.zero_add]
  exact ⟨by rw [this.1]; rfl, this.2⟩
theorem Sep.setZs {w : World} {b : Nat} {t : TypeId} {l : List Asrt} (h : Sep w (BxA b #[.int .i64 0, .int .i64 0, .int .i64 0, .int .i64 0, .int .i64 0, .int .i64 0, .int .i64 0, .int .i64 0, .int .i64 0, .int .i64 0, .int .i64 0, .int .i64 0, .int .i64 0, .int .i64 0, .int .i64 0, .int .i64 0] t :: l)) : Sep (w.setCells b 0 ([.int .i64 0, .int .i64 0, .int .i64 0, .int .i64 0, .int .i64 0, .int .i64 0, .int .i64 0, .int .i64 0, .int .i64 0, .int .i64 0, .int .i64 0, .int .i64 0, .int .i64 0, .int .i64 0, .int .i64 0, .int .i64 0] : List Value)) (BxA b #[.int .i64 0, .int .i64 0, .int .i64 0, .int .i64 0, .int .i64 0, .int .i64 0, .int .i64 0, .int .i64 0, .int .i64 0, .int .i64 0, .int .i64 0, .int .i64 0, .int .i64 0, .int .i64 0, .int .i64 0, .int .i64 0] t :: l) := by
  rw [← arr16] at h ⊢
  exact h.setZ
end Go.Proofs.YtmofaaceadnafaaDoor

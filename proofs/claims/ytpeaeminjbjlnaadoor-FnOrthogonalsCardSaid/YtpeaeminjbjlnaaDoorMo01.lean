/-
  Inclusion of relations, in the program and in the reference. Conditions: small sizes.
-/
import Derived.Test.YtpeaeminjbjlnaaDoorMl06
import Derived.Test.YtpeaeminjbjlnaaDoorMv08
import Derived.Test.YtpeaeminjbjlnaaDoorMv11
import Derived.Test.YtpeaeminjbjlnaaDoorMo00
import Derived.Lib.SliceRun
namespace Go.Proofs.YtpeaeminjbjlnaaDoor
open Go.RowKit
set_option linter.unusedVariables false

def inclB (q : Int) (n : Nat) (A C : List (List Int)) : Bool := C.all fun c => hasB q n A c
theorem incl_no {q : Int} {n : Nat} {A C : List (List Int)} {k : Nat} (hk : k < C.length) (h : hasB q n A (C.getD k []) = false) : inclB q n A C = false := by
  unfold inclB
  rw [List.all_eq_false]
  exact ⟨_, getD_mem hk, by rw [h]; simp⟩
theorem incl_yes {q : Int} {n : Nat} {A C : List (List Int)} (h : ∀ t, t < C.length → hasB q n A (C.getD t []) = true) : inclB q n A C = true := by
  unfold inclB
  rw [List.all_eq_true]
  intro c hc
  obtain ⟨i, hi, rfl⟩ := List.getElem_of_mem hc
  have := h i hi
  rwa [getD_at hi] at this
theorem hasPair_any (q n : Nat) [NeZero q] (l r : Int) (u v : Value) (A : List (List Int)) (x : List Int) (w : World) (hf : fldN q = true) (hq : q ≤ 1000) (hu : MatV w u A) (hv : IntsV w v x) (hr : IsRed q n A) (hx : VecOk q n x) (hm : A.length ≤ 1000) (hn : n ≤ 1000) :
    Calls Tryd.prog 288 #[.int .i64 q, rlV l r u, v] w fun e w' => e = .returned (.bool (hasB q n A x)) ∧ w.grownBy w' none := by
  have HC := Lib.hid fun W (hg : w.grownBy W none) => coordinates_any q n u v A x W hf hq (hu.carry hg) (hv.carry hg) hr hx hm hn
  obtain ⟨ua, uc, rfl⟩ := hu.shape
  obtain ⟨va, vc, rfl, _⟩ := hv
  unfold rlV
  generalize hasB q n A x = hb at *
  generalize A.length = la at *
  generalize x.length = lx at *
  have HG := Lib.hid (grownBy_alloc w (.cells #[.int .i64 l, .int .i64 r, .slice ua la uc] 65) none)
  clear hu hx hr hf
  go_enter Tryd.func288, Tryd.ntmps288
  go_wp2_with (
    go_at_call 174
    go_loud (refine (HC.out _ HG.out).mono ?_)
    rintro e w1 ⟨o, rfl, _, g⟩
    have G1 := Lib.hid (HG.out.trans g)
    clear g)
  go_ret
  exact ⟨rfl, G1.out⟩

set_option maxRecDepth 100000 in
set_option maxHeartbeats 1000000 in
theorem missing_any (q n : Nat) [NeZero q] (l r l2 r2 : Int) (u v : Value) (A C : List (List Int)) (w : World) (hf : fldN q = true) (hq : q ≤ 1000) (hu : MatV w u A) (hv : MatV w v C) (hr : IsRed q n A) (hc : IsRed q n C) (hm : A.length ≤ 1000) (hn : n ≤ 1000) :
    Calls Tryd.prog 239 #[.int .i64 q, rlV l r u, rlV l2 r2 v] w fun e w' => ∃ o, e = .returned o ∧ (inclB q n A C = true → o = .slice none 0 0) ∧ (inclB q n A C = false → ∃ a m c, o = .slice (some a) m c) ∧ w.grownBy w' none := by
  have hcl := hc.len_le
  have HP := Lib.hid fun W xv x (hg : w.grownBy W none) (hx : IntsV W xv x) (hok : VecOk q n x) => hasPair_any q n l r u xv A x W hf hq (hu.carry hg) hx hr hok hm hn
  have HV := Lib.hid hv; have HC := Lib.hid hc.1
  have HNO := Lib.hid fun k (hk : k < C.length) (h : hasB q n A (C.getD k []) = false) => incl_no hk h
  have HYES := Lib.hid fun (h : ∀ t, t < C.length → hasB q n A (C.getD t []) = true) => incl_yes h
  obtain ⟨ua, uc, rfl⟩ := hu.shape
  obtain ⟨va, vc, rfl⟩ := hv.shape
  have hro : ∀ k, k < C.length → C.getD k [] ≠ [] := fun k hk h => by
    have h1 := (hc.1 _ (getD_mem hk)).1
    rw [h] at h1
    simp at h1
    omega
  have HRO := Lib.hid hro
  unfold rlV at *
  generalize hib : inclB q n A C = ib at *
  generalize hla : A.length = la at *
  generalize hlc : C.length = lc at *
  have HLC := Lib.hid hlc
  have hlcn : lc ≤ 1000 := by omega
  have HS := Lib.hid (((Sep.start w).box #[.int .i64 l, .int .i64 r, .slice ua la uc] 65).box #[.int .i64 l2, .int .i64 r2, .slice va lc vc] 65)
  have HG := Lib.hid (show w.grownBy _ none from HS.out.tl.tl.hd)
  simp only [show ∀ (W : World) o, (W.alloc o).heap.size = W.heap.size + 1 from fun W o => by simp] at HS
  obtain ⟨y0, y1, y2, _, _, _⟩ := bx3 HS.out.s2.hd
  obtain ⟨z0, z1, z2, _, _, _⟩ := bx3 HS.out.hd
  have HB := Lib.hid fun W (h : World.grownBy _ W none) => And.intro (bx3 (HS.out.grown h).s2.hd).1 (And.intro (bx3 (HS.out.grown h).s2.hd).2.1 (bx3 (HS.out.grown h).s2.hd).2.2.1)
  clear hu hv hr hc hf hcl hro hib hla hlc
  go_enter Tryd.func239, Tryd.ntmps239
  go_wp2_with fail
  generalize ((w.alloc (.cells #[.int .i64 l, .int .i64 r, .slice ua la uc] 65)).alloc (.cells #[.int .i64 l2, .int .i64 r2, .slice va lc vc] 65)) = w0 at *
  clear y0 y1 y2 z0 z1 z2
  go_loopw [12] (fun i wr => ∃ k : Nat, k ≤ lc ∧ i = .int .i64 k ∧ w0.grownBy wr none ∧ ∀ t, t < k → hasB q n A (C.getD t []) = true) (fun i _ => lc - (intOf i).toNat)
  case atStart => exact ⟨0, by omega, rfl, grownBy_refl _ _, fun t ht => absurd ht (by omega)⟩
  case round =>
    obtain ⟨k, hk, rfl, hg, hall⟩ := hrel
    have HGR := Lib.hid hg; have HALL := Lib.hid hall
    obtain ⟨b0, b1, b2⟩ := HB.out wr hg
    clear hall
    by_cases hlt : k < lc
    · have hkC : k < C.length := by rw [HLC.out]; exact hlt
      obtain ⟨bb, bo, bcap, bml, br, brc, he, hcell, hrow⟩ := HV.out.rowK (HG.out.trans hg) hkC
      cases he
      have hok := HC.out _ (getD_mem hkC)
      have HH := Lib.hid (HP.out wr _ _ (HG.out.trans hg) (hrow.carry (HG.out.trans hg)) hok)
      have HNK := Lib.hid (HNO.out k hlt)
      have hnn : ∃ d, br = some d := by
        obtain ⟨a9, c9, he9, hx9⟩ := hrow
        obtain ⟨d, hd, _⟩ := hx9 (HRO.out k hlt)
        cases he9
        exact ⟨d, hd⟩
      obtain ⟨d, rfl⟩ := hnn
      cases hhk : hasB q n A (C.getD k [])
      · rw [hhk] at HH
        have HIB := Lib.hid (HNK.out hhk)
        clear hrow hg hok hkC hhk
        generalize (C.getD k []).length = rl at *
        go_wp2_with (
          go_at_call 288
          go_loud (with_reducible refine HH.out.mono ?_)
          rintro e w1 ⟨rfl, g⟩
          have G1 := Lib.hid (HG.out.trans (HGR.out.trans g))
          clear g)
        go_ret
        exact ⟨_, rfl, (fun h => by rw [HIB.out] at h; cases h), (fun _ => ⟨_, _, _, rfl⟩), G1.out⟩
      · rw [hhk] at HH
        have HK := Lib.hid hhk
        clear hrow hg hok hkC hhk
        generalize (C.getD k []).length = rl at *
        go_wp2_with (
          go_at_call 288
          go_loud (with_reducible refine HH.out.mono ?_)
          rintro e w1 ⟨rfl, g⟩
          have G1 := Lib.hid (HGR.out.trans g)
          clear g)
        go_roundw
        case rel => exact ⟨k + 1, by omega, by go_num, G1.out, fun t ht => by
          rcases Nat.lt_or_ge t k with h | h
          · exact HALL.out t h
          · rw [show t = k by omega]; exact HK.out⟩
        case measure => simp [intOf]; omega
    · have HIB := Lib.hid (HYES.out fun t ht => HALL.out t (by omega))
      clear hg
      go_wp2
      go_ret
      exact ⟨_, rfl, (fun _ => rfl), (fun h => by rw [HIB.out] at h; cases h), HG.out.trans HGR.out⟩

set_option maxRecDepth 100000 in
set_option maxHeartbeats 1000000 in
theorem rlIncludes_any (q n : Nat) [NeZero q] (l r l2 r2 : Int) (u v : Value) (A C : List (List Int)) (w : World) (hf : fldN q = true) (hq : q ≤ 1000) (hu : MatV w u A) (hv : MatV w v C) (hr : IsRed q n A) (hc : IsRed q n C) (hm : A.length ≤ 1000) (hn : n ≤ 1000) :
    Calls Tryd.prog 240 #[.int .i64 q, rlV l r u, rlV l2 r2 v] w fun e w' => e = .returned (.bool (inclB q n A C)) ∧ w.grownBy w' none := by
  have hcl := hc.len_le
  have HP := Lib.hid fun W xv x (hg : w.grownBy W none) (hx : IntsV W xv x) (hok : VecOk q n x) => spHas_any q n u xv A x W hf hq (hu.carry hg) hx hr hok hm hn
  have HV := Lib.hid hv; have HC := Lib.hid hc.1
  have HNO := Lib.hid fun k (hk : k < C.length) (h : hasB q n A (C.getD k []) = false) => incl_no hk h
  have HYES := Lib.hid fun (h : ∀ t, t < C.length → hasB q n A (C.getD t []) = true) => incl_yes h
  obtain ⟨ua, uc, rfl⟩ := hu.shape
  obtain ⟨va, vc, rfl⟩ := hv.shape
  have hro : ∀ k, k < C.length → C.getD k [] ≠ [] := fun k hk h => by
    have h1 := (hc.1 _ (getD_mem hk)).1
    rw [h] at h1
    simp at h1
    omega
  have HRO := Lib.hid hro
  unfold rlV at *
  generalize hib : inclB q n A C = ib at *
  generalize hla : A.length = la at *
  generalize hlc : C.length = lc at *
  have HLC := Lib.hid hlc
  have hlcn : lc ≤ 1000 := by omega
  have HS := Lib.hid (((Sep.start w).box #[.int .i64 l, .int .i64 r, .slice ua la uc] 65).box #[.int .i64 l2, .int .i64 r2, .slice va lc vc] 65)
  have HG := Lib.hid (show w.grownBy _ none from HS.out.tl.tl.hd)
  simp only [show ∀ (W : World) o, (W.alloc o).heap.size = W.heap.size + 1 from fun W o => by simp] at HS
  obtain ⟨y0, y1, y2, _, _, _⟩ := bx3 HS.out.s2.hd
  obtain ⟨z0, z1, z2, _, _, _⟩ := bx3 HS.out.hd
  have HB := Lib.hid fun W (h : World.grownBy _ W none) => And.intro (bx3 (HS.out.grown h).s2.hd).1 (And.intro (bx3 (HS.out.grown h).s2.hd).2.1 (bx3 (HS.out.grown h).s2.hd).2.2.1)
  clear hu hv hr hc hf hcl hro hib hla hlc
  go_enter Tryd.func240, Tryd.ntmps240
  go_wp2_with fail
  generalize ((w.alloc (.cells #[.int .i64 l, .int .i64 r, .slice ua la uc] 65)).alloc (.cells #[.int .i64 l2, .int .i64 r2, .slice va lc vc] 65)) = w0 at *
  clear y0 y1 y2 z0 z1 z2
  go_loopw [12] (fun i wr => ∃ k : Nat, k ≤ lc ∧ i = .int .i64 k ∧ w0.grownBy wr none ∧ ∀ t, t < k → hasB q n A (C.getD t []) = true) (fun i _ => lc - (intOf i).toNat)
  case atStart => exact ⟨0, by omega, rfl, grownBy_refl _ _, fun t ht => absurd ht (by omega)⟩
  case round =>
    obtain ⟨k, hk, rfl, hg, hall⟩ := hrel
    have HGR := Lib.hid hg; have HALL := Lib.hid hall
    obtain ⟨b0, b1, b2⟩ := HB.out wr hg
    clear hall
    by_cases hlt : k < lc
    · have hkC : k < C.length := by rw [HLC.out]; exact hlt
      obtain ⟨bb, bo, bcap, bml, br, brc, he, hcell, hrow⟩ := HV.out.rowK (HG.out.trans hg) hkC
      cases he
      have hok := HC.out _ (getD_mem hkC)
      have HH := Lib.hid (HP.out wr _ _ (HG.out.trans hg) (hrow.carry (HG.out.trans hg)) hok)
      have HNK := Lib.hid (HNO.out k hlt)
      have hnn : ∃ d, br = some d := by
        obtain ⟨a9, c9, he9, hx9⟩ := hrow
        obtain ⟨d, hd, _⟩ := hx9 (HRO.out k hlt)
        cases he9
        exact ⟨d, hd⟩
      obtain ⟨d, rfl⟩ := hnn
      cases hhk : hasB q n A (C.getD k [])
      · rw [hhk] at HH
        have HIB := Lib.hid (HNK.out hhk)
        clear hrow hg hok hkC hhk
        generalize (C.getD k []).length = rl at *
        go_wp2_with (
          go_at_call 200
          go_loud (with_reducible refine HH.out.mono ?_)
          rintro e w1 ⟨rfl, g⟩
          have G1 := Lib.hid (HG.out.trans (HGR.out.trans g))
          clear g)
        go_ret
        exact ⟨by rw [HIB.out]; rfl, G1.out⟩
      · rw [hhk] at HH
        have HK := Lib.hid hhk
        clear hrow hg hok hkC hhk
        generalize (C.getD k []).length = rl at *
        go_wp2_with (
          go_at_call 200
          go_loud (with_reducible refine HH.out.mono ?_)
          rintro e w1 ⟨rfl, g⟩
          have G1 := Lib.hid (HGR.out.trans g)
          clear g)
        go_roundw
        case rel => exact ⟨k + 1, by omega, by go_num, G1.out, fun t ht => by
          rcases Nat.lt_or_ge t k with h | h
          · exact HALL.out t h
          · rw [show t = k by omega]; exact HK.out⟩
        case measure => simp [intOf]; omega
    · have HIB := Lib.hid (HYES.out fun t ht => HALL.out t (by omega))
      clear hg
      go_wp2
      go_ret
      exact ⟨by rw [HIB.out]; rfl, HG.out.trans HGR.out⟩
end Go.Proofs.YtpeaeminjbjlnaaDoor

/-
  Orthogonals and inclusions, refused; inclusions, answered. Conditions: small sizes.
-/
namespace Go.Proofs.YtpeaeminjbjlnaaDoor
open Go.RowKit
set_option linter.unusedVariables false

set_option maxRecDepth 100000 in
theorem orthogonalRelation_no (p l r : Int) (u : Value) (A : List (List Int)) (w : World) (ht : Tab w) (hu : MatV w u A) (ha : A.length ≤ 1000000) (haa : ∀ row ∈ A, row.length ≤ 1000000) (hno : relB p l r A = false) :
    Calls Tryd.prog 95 #[.int .i64 p, rlV l r u] w fun e w' => e = .returned (.tuple #[rlV 0 0 nilS, .bool false]) ∧ w.grownBy w' none := by
  have H1 := fun W (hg : w.grownBy W none) => isRelation_any p l r u A W (ht.grown hg) (hu.carry hg) ha haa
  rw [hno] at H1
  have HA := Lib.hid H1
  obtain ⟨ua, uc, rfl⟩ := hu.shape
  unfold rlV nilS at *
  generalize A.length = la at *
  have HS := Lib.hid ((((Sep.start w).box #[.int .i64 p] 3).box #[.int .i64 l, .int .i64 r, .slice ua la uc] 65).box #[.int .i64 0, .int .i64 0, .slice none 0 0] 65)
  have HG := Lib.hid (show w.grownBy _ none from HS.out.tl.tl.tl.hd)
  simp only [show ∀ (W : World) o, (W.alloc o).heap.size = W.heap.size + 1 from fun W o => by simp] at HS
  obtain ⟨y0, y1, y2, _, _, _⟩ := bx3 HS.out.s2.hd
  have y3 := bx_one HS.out.s3.hd
  clear hu haa H1 hno ht
  go_enter Tryd.func95, Tryd.ntmps95
  go_wp2_with (
    go_at_call 156
    with_reducible refine (HA.out _ HG.out).mono ?_
    rintro e w1 ⟨rfl, g1⟩
    have HS1 := Lib.hid (HS.out.grown g1)
    obtain ⟨x0, x1, x2, x3, x4, x5⟩ := bx3 HS1.out.hd
    have HQ := Lib.hid (((HS1.out.setB 0 (.int .i64 0)).setB 1 (.int .i64 0)).setB 2 (.slice none 0 0))
    clear g1)
  refine bodyPost_ret_by (v := .tuple #[.agg #[.int .i64 0, .int .i64 0, .slice none 0 0], .bool false]) ?_ rfl ?_
  · simp [results, go_sem, *]
  · exact ⟨rfl, HQ.out.tl.tl.tl.hd⟩
set_option maxRecDepth 100000 in
theorem sOrthogonalRelation_no (p l r : Int) (u : Value) (A : List (List Int)) (w : World) (hu : MatV w u A) (ha : A.length ≤ 1000000) (haa : ∀ row ∈ A, row.length ≤ 1000000) (hp0 : -1000 ≤ p) (hp1 : p ≤ 1000) (hno : relB p l r A = false) :
    Calls Tryd.prog 96 #[.int .i64 p, rlV l r u] w fun e w' => e = .returned (.tuple #[rlV 0 0 nilS, .bool false]) ∧ w.grownBy w' none := by
  have H1 := fun W (hg : w.grownBy W none) => rlGood_any p l r u A W (hu.carry hg) ha haa hp0 hp1
  rw [hno] at H1
  have HA := Lib.hid H1
  obtain ⟨ua, uc, rfl⟩ := hu.shape
  unfold rlV nilS at *
  generalize A.length = la at *
  have HS := Lib.hid (((Sep.start w).box #[.int .i64 l, .int .i64 r, .slice ua la uc] 65).box #[.int .i64 0, .int .i64 0, .slice none 0 0] 65)
  have HG := Lib.hid (show w.grownBy _ none from HS.out.tl.tl.hd)
  simp only [show ∀ (W : World) o, (W.alloc o).heap.size = W.heap.size + 1 from fun W o => by simp] at HS
  obtain ⟨y0, y1, y2, _, _, _⟩ := bx3 HS.out.s2.hd
  clear hu haa H1 hno
  go_enter Tryd.func96, Tryd.ntmps96
  go_wp2_with (
    go_at_call 159
    with_reducible refine (HA.out _ HG.out).mono ?_
    rintro e w1 ⟨rfl, g1⟩
    have HS1 := Lib.hid (HS.out.grown g1)
    obtain ⟨x0, x1, x2, x3, x4, x5⟩ := bx3 HS1.out.hd
    have HQ := Lib.hid (((HS1.out.setB 0 (.int .i64 0)).setB 1 (.int .i64 0)).setB 2 (.slice none 0 0))
    clear g1)
  refine bodyPost_ret_by (v := .tuple #[.agg #[.int .i64 0, .int .i64 0, .slice none 0 0], .bool false]) ?_ rfl ?_
  · simp [results, go_sem, *]
  · exact ⟨rfl, HQ.out.tl.tl.hd⟩
/-! ### inclusions -/
def inclRB (p l r : Int) (A : List (List Int)) (l2 r2 : Int) (C : List (List Int)) : Bool := relB p l r A && (relB p l2 r2 C && (l == l2 && r == r2))
theorem inclRB_parts {p l r l2 r2 : Int} {A C : List (List Int)} (h : inclRB p l r A l2 r2 C = true) : ∃ (q : Nat) (_ : NeZero q) (a b : Nat), p = q ∧ l = a ∧ r = b ∧ l2 = a ∧ r2 = b ∧ fldN q = true ∧ q ≤ 97 ∧ a + b ≤ 24 ∧ A.length ≤ a + b ∧ C.length ≤ a + b ∧ IsRed q (a + b) A ∧ IsRed q (a + b) C := by
  unfold inclRB at h
  simp only [Bool.and_eq_true, beq_iff_eq] at h
  obtain ⟨h1, h2, rfl, rfl⟩ := h
  obtain ⟨q, i, a, b, rfl, rfl, rfl, f1, f2, f3, f4, f5, _⟩ := relB_parts h1
  obtain ⟨q', i', a', b', e1, e2, e3, _, _, g3, g4, g5, _⟩ := relB_parts h2
  obtain rfl : q = q' := by omega
  obtain rfl : a = a' := by omega
  obtain rfl : b = b' := by omega
  exact ⟨q, i, a, b, rfl, rfl, rfl, rfl, rfl, f1, f2, f3, f4, g4, f5, g5⟩
set_option maxRecDepth 100000 in
set_option maxHeartbeats 1000000 in
theorem includesRelation_no (p l r l2 r2 : Int) (u v : Value) (A M : List (List Int)) (w : World) (ht : Tab w) (hu : MatV w u A) (hv : MatV w v M) (ha : A.length ≤ 1000000) (haa : ∀ row ∈ A, row.length ≤ 1000000) (hm : M.length ≤ 1000000) (hmm : ∀ row ∈ M, row.length ≤ 1000000) (hno : inclRB p l r A l2 r2 M = false) :
    Calls Tryd.prog 98 #[.int .i64 p, rlV l r u, rlV l2 r2 v] w fun e w' => e = .returned (.tuple #[.bool false, .bool false]) ∧ w.grownBy w' none := by
  have H1 := fun W (hg : w.grownBy W none) => isRelation_any p l r u A W (ht.grown hg) (hu.carry hg) ha haa
  have H2 := fun W (hg : w.grownBy W none) => isRelation_any p l2 r2 v M W (ht.grown hg) (hv.carry hg) hm hmm
  obtain ⟨ua, uc, rfl⟩ := hu.shape
  obtain ⟨va, vc, rfl⟩ := hv.shape
  unfold rlV at *
  unfold inclRB at hno
  generalize A.length = la at *
  generalize M.length = lm at *
  have HS := Lib.hid (((Sep.start w).box #[.int .i64 l, .int .i64 r, .slice ua la uc] 65).box #[.int .i64 l2, .int .i64 r2, .slice va lm vc] 65)
  have HG := Lib.hid (show w.grownBy _ none from HS.out.tl.tl.hd)
  simp only [show ∀ (W : World) o, (W.alloc o).heap.size = W.heap.size + 1 from fun W o => by simp] at HS
  obtain ⟨y0, y1, y2, _, _, _⟩ := bx3 HS.out.s2.hd
  obtain ⟨z0, z1, z2, _, _, _⟩ := bx3 HS.out.hd
  clear hu hv haa hmm
  cases h1 : relB p l r A <;> cases h2 : relB p l2 r2 M <;> by_cases h3 : l = l2 <;> by_cases h4 : r = r2
  all_goals
    rw [h1] at H1
    rw [h2] at H2
    first
      | (exfalso; rw [h1, h2] at hno; simp [h3, h4] at hno; done)
      | (have HA := Lib.hid H1; have HB := Lib.hid H2
         clear H1 H2 h1 h2 hno
         try subst h3
         try subst h4
         go_enter Tryd.func98, Tryd.ntmps98
         go_wp2_with (first
           | (go_at_call 156
              with_reducible refine (HA.out _ HG.out).mono ?_
              rintro e w1 ⟨rfl, g1⟩
              have HS1 := Lib.hid (HS.out.grown g1)
              have HG1 := Lib.hid (HG.out.trans g1)
              obtain ⟨a0, a1, a2, _, _, _⟩ := bx3 HS1.out.s2.hd
              obtain ⟨b0, b1, b2, _, _, _⟩ := bx3 HS1.out.hd
              clear g1)
           | (go_at_call 156
              with_reducible refine (HB.out _ HG1.out).mono ?_
              rintro e w2 ⟨rfl, g2⟩
              have HS2 := Lib.hid (HS1.out.grown g2)
              have HG2 := Lib.hid (HG1.out.trans g2)
              obtain ⟨d0, d1, d2, _, _, _⟩ := bx3 HS2.out.s2.hd
              obtain ⟨e0, e1, e2, _, _, _⟩ := bx3 HS2.out.hd
              clear g2))
         refine bodyPost_ret_by (v := .tuple #[.bool false, .bool false]) ?_ rfl ?_
         · simp [results, go_sem, *]
         · first
             | exact ⟨rfl, HG2.out⟩
             | exact ⟨rfl, HG1.out⟩)
set_option maxRecDepth 100000 in
set_option maxHeartbeats 1000000 in
theorem includesRelation_yes (p l r l2 r2 : Int) (u v : Value) (A M : List (List Int)) (w : World) (ht : Tab w) (hu : MatV w u A) (hv : MatV w v M) (hb : inclRB p l r A l2 r2 M = true) :
    Calls Tryd.prog 98 #[.int .i64 p, rlV l r u, rlV l2 r2 v] w fun e w' => e = .returned (.tuple #[.bool (inclB p (l + r).toNat A M), .bool true]) ∧ w.grownBy w' none := by
  have hb0 := hb
  unfold inclRB at hb0
  simp only [Bool.and_eq_true, beq_iff_eq] at hb0
  obtain ⟨b1, b2, b3, b4⟩ := hb0
  obtain ⟨q, iq, a, b, rfl, rfl, rfl, rfl, rfl, hf, hq, h1, h2, h3, hA, hM⟩ := inclRB_parts hb
  rw [show ((a : Int) + (b : Int)).toNat = a + b by omega]
  have H1 := fun W (hg : w.grownBy W none) => isRelation_any q a b u A W (ht.grown hg) (hu.carry hg) (by omega) (fun row hr => by rw [(hA.1 row hr).1]; omega)
  have H2 := fun W (hg : w.grownBy W none) => isRelation_any q a b v M W (ht.grown hg) (hv.carry hg) (by omega) (fun row hr => by rw [(hM.1 row hr).1]; omega)
  rw [b1] at H1
  rw [b2] at H2
  have HA := Lib.hid H1; have HB := Lib.hid H2
  have H3 := fun W (hg : w.grownBy W none) => missing_any q (a + b) a b a b u v A M W hf (by omega) (hu.carry hg) (hv.carry hg) hA hM (by omega) (by omega)
  obtain ⟨ua, uc, rfl⟩ := hu.shape
  obtain ⟨va, vc, rfl⟩ := hv.shape
  unfold rlV at *
  generalize inclB q (a + b) A M = ib at *
  have HD := Lib.hid H3
  generalize A.length = la at *
  generalize M.length = lm at *
  have HS := Lib.hid (((Sep.start w).box #[.int .i64 a, .int .i64 b, .slice ua la uc] 65).box #[.int .i64 a, .int .i64 b, .slice va lm vc] 65)
  have HG := Lib.hid (show w.grownBy _ none from HS.out.tl.tl.hd)
  simp only [show ∀ (W : World) o, (W.alloc o).heap.size = W.heap.size + 1 from fun W o => by simp] at HS
  obtain ⟨y0, y1, y2, _, _, _⟩ := bx3 HS.out.s2.hd
  obtain ⟨z0, z1, z2, _, _, _⟩ := bx3 HS.out.hd
  clear hu hv hA hM hb b1 b2 b3 b4 H1 H2 H3
  have hnil : ∀ (a' : Option Addr) (n c : Nat) (W : World), (binOp .eql 24 (.slice a' n c) (.slice none 0 0)).run Tryd.prog W = .ok (.bool a'.isNone) W := fun a' n c W => Lib.run_eql_slice_nil W _ _ a' n c 0 0 Tryd.underlying24
  go_enter Tryd.func98, Tryd.ntmps98
  go_wp2_with (first
    | (go_at_call 156
       with_reducible refine (HA.out _ HG.out).mono ?_
       rintro e w1 ⟨rfl, g1⟩
       have HS1 := Lib.hid (HS.out.grown g1)
       have HG1 := Lib.hid (HG.out.trans g1)
       obtain ⟨a0, a1, a2, _, _, _⟩ := bx3 HS1.out.s2.hd
       obtain ⟨b0, b1, b2, _, _, _⟩ := bx3 HS1.out.hd
       clear g1)
    | (go_at_call 156
       with_reducible refine (HB.out _ HG1.out).mono ?_
       rintro e w2 ⟨rfl, g2⟩
       have HS2 := Lib.hid (HS1.out.grown g2)
       have HG2 := Lib.hid (HG1.out.trans g2)
       obtain ⟨e0, e1, e2, _, _, _⟩ := bx3 HS2.out.s2.hd
       obtain ⟨f0, f1, f2, _, _, _⟩ := bx3 HS2.out.hd
       clear g2))
  cases ib
  · go_wp2_with (first
      | (go_at_call 239
         go_loud (with_reducible refine (HD.out _ HG2.out).mono ?_)
         rintro e w4 ⟨o, rfl, _, ho2, g4⟩
         obtain ⟨oa, om, oc, rfl⟩ := ho2 rfl
         have HG4 := Lib.hid (HG2.out.trans g4)
         clear g4 ho2))
    refine bodyPost_ret_by (v := .tuple #[.bool false, .bool true]) ?_ rfl ⟨rfl, HG4.out⟩
    simp [results, go_sem, *]
  · go_wp2_with (first
      | (go_at_call 239
         go_loud (with_reducible refine (HD.out _ HG2.out).mono ?_)
         rintro e w4 ⟨o, rfl, ho1, _, g4⟩
         obtain rfl := ho1 rfl
         have HG4 := Lib.hid (HG2.out.trans g4)
         clear g4 ho1))
    refine bodyPost_ret_by (v := .tuple #[.bool true, .bool true]) ?_ rfl ⟨rfl, HG4.out⟩
    simp [results, go_sem, *]
set_option maxRecDepth 100000 in
set_option maxHeartbeats 1000000 in
theorem sIncludesRelation_no (p l r l2 r2 : Int) (u v : Value) (A M : List (List Int)) (w : World) (hu : MatV w u A) (hv : MatV w v M) (ha : A.length ≤ 1000000) (haa : ∀ row ∈ A, row.length ≤ 1000000) (hm : M.length ≤ 1000000) (hmm : ∀ row ∈ M, row.length ≤ 1000000) (hp0 : -1000 ≤ p) (hp1 : p ≤ 1000) (hno : inclRB p l r A l2 r2 M = false) :
    Calls Tryd.prog 99 #[.int .i64 p, rlV l r u, rlV l2 r2 v] w fun e w' => e = .returned (.tuple #[.bool false, .bool false]) ∧ w.grownBy w' none := by
  have H1 := fun W (hg : w.grownBy W none) => rlGood_any p l r u A W (hu.carry hg) ha haa hp0 hp1
  have H2 := fun W (hg : w.grownBy W none) => rlGood_any p l2 r2 v M W (hv.carry hg) hm hmm hp0 hp1
  obtain ⟨ua, uc, rfl⟩ := hu.shape
  obtain ⟨va, vc, rfl⟩ := hv.shape
  unfold rlV at *
  unfold inclRB at hno
  generalize A.length = la at *
  generalize M.length = lm at *
  have HS := Lib.hid (((Sep.start w).box #[.int .i64 l, .int .i64 r, .slice ua la uc] 65).box #[.int .i64 l2, .int .i64 r2, .slice va lm vc] 65)
  have HG := Lib.hid (show w.grownBy _ none from HS.out.tl.tl.hd)
  simp only [show ∀ (W : World) o, (W.alloc o).heap.size = W.heap.size + 1 from fun W o => by simp] at HS
  obtain ⟨y0, y1, y2, _, _, _⟩ := bx3 HS.out.s2.hd
  obtain ⟨z0, z1, z2, _, _, _⟩ := bx3 HS.out.hd
  clear hu hv haa hmm
  cases h1 : relB p l r A <;> cases h2 : relB p l2 r2 M <;> by_cases h3 : l = l2 <;> by_cases h4 : r = r2
  all_goals
    rw [h1] at H1
    rw [h2] at H2
    first
      | (exfalso; rw [h1, h2] at hno; simp [h3, h4] at hno; done)
      | (have HA := Lib.hid H1; have HB := Lib.hid H2
         clear H1 H2 h1 h2 hno
         try subst h3
         try subst h4
         go_enter Tryd.func99, Tryd.ntmps99
         go_wp2_with (first
           | (go_at_call 159
              with_reducible refine (HA.out _ HG.out).mono ?_
              rintro e w1 ⟨rfl, g1⟩
              have HS1 := Lib.hid (HS.out.grown g1)
              have HG1 := Lib.hid (HG.out.trans g1)
              obtain ⟨a0, a1, a2, _, _, _⟩ := bx3 HS1.out.s2.hd
              obtain ⟨b0, b1, b2, _, _, _⟩ := bx3 HS1.out.hd
              clear g1)
           | (go_at_call 159
              with_reducible refine (HB.out _ HG1.out).mono ?_
              rintro e w2 ⟨rfl, g2⟩
              have HS2 := Lib.hid (HS1.out.grown g2)
              have HG2 := Lib.hid (HG1.out.trans g2)
              obtain ⟨d0, d1, d2, _, _, _⟩ := bx3 HS2.out.s2.hd
              obtain ⟨e0, e1, e2, _, _, _⟩ := bx3 HS2.out.hd
              clear g2))
         refine bodyPost_ret_by (v := .tuple #[.bool false, .bool false]) ?_ rfl ?_
         · simp [results, go_sem, *]
         · first
             | exact ⟨rfl, HG2.out⟩
             | exact ⟨rfl, HG1.out⟩)
set_option maxRecDepth 100000 in
set_option maxHeartbeats 1000000 in
theorem sIncludesRelation_yes (p l r l2 r2 : Int) (u v : Value) (A M : List (List Int)) (w : World) (hu : MatV w u A) (hv : MatV w v M) (hp0 : -1000 ≤ p) (hp1 : p ≤ 1000) (hb : inclRB p l r A l2 r2 M = true) :
    Calls Tryd.prog 99 #[.int .i64 p, rlV l r u, rlV l2 r2 v] w fun e w' => e = .returned (.tuple #[.bool (inclB p (l + r).toNat A M), .bool true]) ∧ w.grownBy w' none := by
  have hb0 := hb
  unfold inclRB at hb0
  simp only [Bool.and_eq_true, beq_iff_eq] at hb0
  obtain ⟨b1, b2, b3, b4⟩ := hb0
  obtain ⟨q, iq, a, b, rfl, rfl, rfl, rfl, rfl, hf, hq, h1, h2, h3, hA, hM⟩ := inclRB_parts hb
  rw [show ((a : Int) + (b : Int)).toNat = a + b by omega]
  have H1 := fun W (hg : w.grownBy W none) => rlGood_any q a b u A W (hu.carry hg) (by omega) (fun row hr => by rw [(hA.1 row hr).1]; omega) hp0 hp1
  have H2 := fun W (hg : w.grownBy W none) => rlGood_any q a b v M W (hv.carry hg) (by omega) (fun row hr => by rw [(hM.1 row hr).1]; omega) hp0 hp1
  rw [b1] at H1
  rw [b2] at H2
  have HA := Lib.hid H1; have HB := Lib.hid H2
  have H3 := fun W (hg : w.grownBy W none) => rlIncludes_any q (a + b) a b a b u v A M W hf (by omega) (hu.carry hg) (hv.carry hg) hA hM (by omega) (by omega)
  obtain ⟨ua, uc, rfl⟩ := hu.shape
  obtain ⟨va, vc, rfl⟩ := hv.shape
  unfold rlV at *
  generalize inclB q (a + b) A M = ib at *
  have HD := Lib.hid H3
  generalize A.length = la at *
  generalize M.length = lm at *
  have HS := Lib.hid (((Sep.start w).box #[.int .i64 a, .int .i64 b, .slice ua la uc] 65).box #[.int .i64 a, .int .i64 b, .slice va lm vc] 65)
  have HG := Lib.hid (show w.grownBy _ none from HS.out.tl.tl.hd)
  simp only [show ∀ (W : World) o, (W.alloc o).heap.size = W.heap.size + 1 from fun W o => by simp] at HS
  obtain ⟨y0, y1, y2, _, _, _⟩ := bx3 HS.out.s2.hd
  obtain ⟨z0, z1, z2, _, _, _⟩ := bx3 HS.out.hd
  clear hu hv hA hM hb b1 b2 b3 b4 H1 H2 H3
  have hnil : ∀ (a' : Option Addr) (n c : Nat) (W : World), (binOp .eql 24 (.slice a' n c) (.slice none 0 0)).run Tryd.prog W = .ok (.bool a'.isNone) W := fun a' n c W => Lib.run_eql_slice_nil W _ _ a' n c 0 0 Tryd.underlying24
  go_enter Tryd.func99, Tryd.ntmps99
  go_wp2_with (first
    | (go_at_call 159
       with_reducible refine (HA.out _ HG.out).mono ?_
       rintro e w1 ⟨rfl, g1⟩
       have HS1 := Lib.hid (HS.out.grown g1)
       have HG1 := Lib.hid (HG.out.trans g1)
       obtain ⟨a0, a1, a2, _, _, _⟩ := bx3 HS1.out.s2.hd
       obtain ⟨b0, b1, b2, _, _, _⟩ := bx3 HS1.out.hd
       clear g1)
    | (go_at_call 159
       with_reducible refine (HB.out _ HG1.out).mono ?_
       rintro e w2 ⟨rfl, g2⟩
       have HS2 := Lib.hid (HS1.out.grown g2)
       have HG2 := Lib.hid (HG1.out.trans g2)
       obtain ⟨e0, e1, e2, _, _, _⟩ := bx3 HS2.out.s2.hd
       obtain ⟨f0, f1, f2, _, _, _⟩ := bx3 HS2.out.hd
       clear g2))
  go_wp2_with (first
    | (go_at_call 240
       go_loud (with_reducible refine (HD.out _ HG2.out).mono ?_)
       rintro e w4 ⟨rfl, g4⟩
       have HG4 := Lib.hid (HG2.out.trans g4)
       clear g4))
  refine bodyPost_ret_by (v := .tuple #[.bool ib, .bool true]) ?_ rfl ⟨rfl, HG4.out⟩
  simp [results, go_sem, *]
end Go.Proofs.YtpeaeminjbjlnaaDoor

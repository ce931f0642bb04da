/-
  What the law of orthogonals asks of the lists. Plain facts. Conditions: small sizes.
-/
import Derived.Test.YtpeaeminjbjlnaaDoorMo01
import Derived.Test.YtpeaeminjbjlnaaDoorMr01
import Derived.Test.YtpeaeminjbjlnaaDoorMl07
import Derived.Test.YtpeaeminjbjlnaaDoorMl06
import Derived.Test.YtpeaeminjbjlnaaDoorMo00
import Derived.Test.YtpeaeminjbjlnaaDoorMv06
import Derived.Test.YtpeaeminjbjlnaaDoorMv08
namespace Go.Proofs.YtpeaeminjbjlnaaDoor
open Go.RowKit La
set_option linter.unusedVariables false

theorem incl_iff {q n : Nat} [NeZero q] {A C : List (List Int)} (hf : fldN q = true) (hA : IsRed q n A) (hC : RowsOk q n C) : inclB q n A C = true ↔ ∀ v, Spn q n C v → Spn q n A v := by
  constructor
  · intro h v hv
    refine In.trans hv fun i hi => ?_
    unfold inclB at h
    rw [List.all_eq_true] at h
    exact (hasB_iff hf hA (hC _ (getD_mem hi))).1 (h _ (getD_mem hi))
  · intro h
    exact incl_yes fun t ht => has_row hf hA hC h ht
theorem incl_turn {q a b : Nat} [NeZero q] {A C : List (List Int)} (hf : fldN q = true) (hA : IsRed q (a + b) A) (hC : IsRed q (a + b) C) : inclB q (a + b) (orthR q a b C) (orthR q a b A) = inclB q (a + b) A C := by
  have h1 := incl_iff hf hA hC.1
  have h2 := incl_iff hf (orthR_red hf hC.1) (orthR_red hf hA.1).1
  have h3 := incl_rev hf hA.1 hC.1
  rw [Bool.eq_iff_iff, h1, h2, h3]

structure OrNo (p l r : Int) (u : Value) (w : World) : Prop where
  h1 : ∀ W, w.grownBy W none → Calls Tryd.prog 95 #[.int .i64 p, rlV l r u] W fun e w' => e = .returned (.tuple #[rlV 0 0 nilS, .bool false]) ∧ W.grownBy w' none
  h2 : ∀ W, w.grownBy W none → Calls Tryd.prog 96 #[.int .i64 p, rlV l r u] W fun e w' => e = .returned (.tuple #[rlV 0 0 nilS, .bool false]) ∧ W.grownBy w' none
def CompNo (p l m m2 r : Int) (u v : Value) (w : World) : Prop :=
  ∀ W, w.grownBy W none → Calls Tryd.prog 45 #[.int .i64 p, rlV l m u, rlV m2 r v] W fun e w' => e = .returned (.tuple #[rlV 0 0 nilS, .bool false]) ∧ W.grownBy w' none
structure OrYes (q l r : Nat) (u : Value) (A X : List (List Int)) (w : World) : Prop where
  h1 : ∀ W, w.grownBy W none → Calls Tryd.prog 95 #[.int .i64 q, rlV l r u] W fun e w' => ∃ o, e = .returned (.tuple #[rlV l r o, .bool true]) ∧ MatC w' o X ∧ W.grownBy w' none
  h2 : ∀ W, w.grownBy W none → Calls Tryd.prog 96 #[.int .i64 q, rlV l r u] W fun e w' => ∃ o, e = .returned (.tuple #[rlV l r o, .bool true]) ∧ MatC w' o X ∧ W.grownBy w' none
  h3 : ∀ W o, w.grownBy W none → MatC W o X → Calls Tryd.prog 95 #[.int .i64 q, rlV l r o] W fun e w' => ∃ o, e = .returned (.tuple #[rlV l r o, .bool true]) ∧ MatC w' o A ∧ W.grownBy w' none
structure OrComp (q a b c : Nat) (u v : Value) (X Y CL Z : List (List Int)) (w : World) : Prop where
  h4 : ∀ W, w.grownBy W none → Calls Tryd.prog 45 #[.int .i64 q, rlV a b u, rlV b c v] W fun e w' => ∃ o, e = .returned (.tuple #[rlV a c o, .bool true]) ∧ MatC w' o CL ∧ W.grownBy w' none
  h5 : ∀ W, w.grownBy W none → Calls Tryd.prog 95 #[.int .i64 q, rlV b c v] W fun e w' => ∃ o, e = .returned (.tuple #[rlV b c o, .bool true]) ∧ MatC w' o Y ∧ W.grownBy w' none
  h6 : ∀ W o o', w.grownBy W none → MatC W o X → MatC W o' Y → Calls Tryd.prog 45 #[.int .i64 q, rlV a b o, rlV b c o'] W fun e w' => ∃ o, e = .returned (.tuple #[rlV a c o, .bool true]) ∧ MatC w' o Z ∧ W.grownBy w' none
  h7 : ∀ W o, w.grownBy W none → MatC W o CL → Calls Tryd.prog 95 #[.int .i64 q, rlV a c o] W fun e w' => ∃ o, e = .returned (.tuple #[rlV a c o, .bool true]) ∧ MatC w' o Z ∧ W.grownBy w' none
theorem or_yes {q a b : Nat} [NeZero q] {u : Value} {A : List (List Int)} {w : World} (ht : Tab w) (hu : MatC w u A) (hf : fldN q = true) (h : a + b ≤ 24) (hA : IsRed q (a + b) A) :
    Calls Tryd.prog 95 #[.int .i64 q, rlV a b u] w fun e w' => ∃ o, e = .returned (.tuple #[rlV a b o, .bool true]) ∧ MatC w' o (orthR q a b A) ∧ w.grownBy w' none := by
  have h := orthogonalRelation_yes q a b u A w ht hu (rel_red hf h hA)
  simp only [Int.toNat_natCast] at h
  exact h.mono fun e w' ⟨o, he, hp, g⟩ => ⟨o, he, hp.readC, g⟩
theorem comp_yes {q a b c : Nat} [NeZero q] {u v : Value} {A C : List (List Int)} {w : World} (ht : Tab w) (hu : MatC w u A) (hv : MatC w v C) (hf : fldN q = true) (h1 : a + b ≤ 24) (h2 : b + c ≤ 24) (h3 : a + c ≤ 24) (hA : IsRed q (a + b) A) (hC : IsRed q (b + c) C) :
    Calls Tryd.prog 45 #[.int .i64 q, rlV a b u, rlV b c v] w fun e w' => ∃ o, e = .returned (.tuple #[rlV a c o, .bool true]) ∧ MatC w' o (compL q a b c A C) ∧ w.grownBy w' none := by
  have h := composeRelations_yes q a b b c u v A C w ht hu hv (compB_of (rel_red hf h1 hA) (rel_red hf h2 hC) h3)
  simp only [Int.toNat_natCast] at h
  exact h.mono fun e w' ⟨o, he, hp, g⟩ => ⟨o, he, hp.readC, g⟩
theorem or1 {p l m m2 r : Int} {u v : Value} {A C : List (List Int)} {w : World} (ht : Tab w) (hu : MatC w u A) (hv : MatC w v C) (ha : Small 1000 A) (hc : Small 1000 C) (hp0 : -1000 ≤ p) (hp1 : p ≤ 1000) :
    (OrNo p l m u w ∧ CompNo p l m m2 r u v w) ∨ ∃ (q a b : Nat) (X : List (List Int)), p = q ∧ l = a ∧ m = b ∧ OrYes q a b u A X w ∧ Small 24 A ∧ Small 24 X ∧
      (CompNo p l m m2 r u v w ∨ ∃ (c : Nat) (Y CL Z : List (List Int)), m2 = b ∧ r = c ∧ OrComp q a b c u v X Y CL Z w ∧ Small 24 Z) := by
  have bA : A.length ≤ 1000000 := Nat.le_trans ha.1 (by decide)
  have bAA : ∀ row ∈ A, row.length ≤ 1000000 := fun row hr => Nat.le_trans (ha.2 row hr) (by decide)
  have bC : C.length ≤ 1000000 := Nat.le_trans hc.1 (by decide)
  have bCC : ∀ row ∈ C, row.length ≤ 1000000 := fun row hr => Nat.le_trans (hc.2 row hr) (by decide)
  have hno : compB p l m A m2 r C = false → CompNo p l m m2 r u v w := fun hb W hg => composeRelations_no p l m m2 r u v A C W (ht.grown hg) (hu.v.carry hg) (hv.v.carry hg) bA bAA bC bCC hb
  cases hr : relB p l m A
  · exact Or.inl ⟨⟨fun W hg => orthogonalRelation_no p l m u A W (ht.grown hg) (hu.v.carry hg) bA bAA hr, fun W hg => sOrthogonalRelation_no p l m u A W (hu.v.carry hg) bA bAA hp0 hp1 hr⟩, hno (by unfold compB; rw [hr]; rfl)⟩
  · have hr' := hr
    obtain ⟨q, iq, a, b, rfl, rfl, rfl, hf, hq, h1, h2, hA, hok⟩ := relB_parts hr'
    have rX := orthR_red (p := q) hf hok
    refine Or.inr ⟨q, a, b, orthR q a b A, rfl, rfl, rfl, ⟨fun W hg => or_yes (ht.grown hg) (hu.carry hg) hf h1 hA, fun W hg => ?_, fun W o hg ho => ?_⟩, hA.small h1, rX.small h1, ?_⟩
    · have h := sOrthogonalRelation_yes q a b u A W (hu.v.carry hg) hp0 hp1 hr
      simp only [Int.toNat_natCast] at h
      exact h.mono fun e w' ⟨o, he, hp, g⟩ => ⟨o, he, hp.readC, g⟩
    · have h := or_yes (ht.grown hg) ho hf h1 rX
      rwa [orthR_orthR hf hA] at h
    · cases hb : compB q a b A m2 r C
      · exact Or.inl (hno hb)
      · obtain ⟨q', iq', a', b', c, e1, e2, e3, e4, rfl, _, _, k1, k2, k3, _, _, _, hC⟩ := compB_parts hb
        obtain rfl : q = q' := by omega
        obtain rfl : a = a' := by omega
        obtain rfl : b = b' := by omega
        subst e4
        have rY := orthR_red (p := q) hf hC.1
        have rC := compL_red (p := q) hf hA.1 hC.1
        refine Or.inr ⟨c, orthR q b c C, compL q a b c A C, orthR q a c (compL q a b c A C), rfl, rfl, ⟨fun W hg => comp_yes (ht.grown hg) (hu.carry hg) (hv.carry hg) hf k1 k2 k3 hA hC, fun W hg => or_yes (ht.grown hg) (hv.carry hg) hf k2 hC, fun W o o' hg ho ho' => ?_, fun W o hg ho => or_yes (ht.grown hg) ho hf k3 rC⟩, (orthR_red (p := q) hf rC.1).small k3⟩
        have h := comp_yes (ht.grown hg) ho ho' hf k1 k2 k3 rX rY
        rwa [orth_comp hf hA.1 hC.1] at h

structure InNo (p l r l2 r2 : Int) (u v : Value) (w : World) : Prop where
  h1 : ∀ W, w.grownBy W none → Calls Tryd.prog 98 #[.int .i64 p, rlV l r u, rlV l2 r2 v] W fun e w' => e = .returned (.tuple #[.bool false, .bool false]) ∧ W.grownBy w' none
  h2 : ∀ W, w.grownBy W none → Calls Tryd.prog 99 #[.int .i64 p, rlV l r u, rlV l2 r2 v] W fun e w' => e = .returned (.tuple #[.bool false, .bool false]) ∧ W.grownBy w' none
structure InYes (q a b : Nat) (u v : Value) (ib : Bool) (U V : List (List Int)) (w : World) : Prop where
  h1 : ∀ W, w.grownBy W none → Calls Tryd.prog 98 #[.int .i64 q, rlV a b u, rlV a b v] W fun e w' => e = .returned (.tuple #[.bool ib, .bool true]) ∧ W.grownBy w' none
  h2 : ∀ W, w.grownBy W none → Calls Tryd.prog 99 #[.int .i64 q, rlV a b u, rlV a b v] W fun e w' => e = .returned (.tuple #[.bool ib, .bool true]) ∧ W.grownBy w' none
  h3 : ∀ W, w.grownBy W none → Calls Tryd.prog 95 #[.int .i64 q, rlV a b u] W fun e w' => ∃ o, e = .returned (.tuple #[rlV a b o, .bool true]) ∧ MatC w' o U ∧ W.grownBy w' none
  h4 : ∀ W, w.grownBy W none → Calls Tryd.prog 95 #[.int .i64 q, rlV a b v] W fun e w' => ∃ o, e = .returned (.tuple #[rlV a b o, .bool true]) ∧ MatC w' o V ∧ W.grownBy w' none
  h5 : ∀ W o o', w.grownBy W none → MatC W o V → MatC W o' U → Calls Tryd.prog 98 #[.int .i64 q, rlV a b o, rlV a b o'] W fun e w' => e = .returned (.tuple #[.bool ib, .bool true]) ∧ W.grownBy w' none
theorem or2 {p l r l2 r2 : Int} {u v : Value} {A C : List (List Int)} {w : World} (ht : Tab w) (hu : MatC w u A) (hv : MatC w v C) (ha : Small 1000 A) (hc : Small 1000 C) (hp0 : -1000 ≤ p) (hp1 : p ≤ 1000) :
    InNo p l r l2 r2 u v w ∨ ∃ (q a b : Nat) (ib : Bool) (U V : List (List Int)), p = q ∧ l = a ∧ r = b ∧ l2 = a ∧ r2 = b ∧ InYes q a b u v ib U V w ∧ Small 24 U ∧ Small 24 V := by
  have bA : A.length ≤ 1000000 := Nat.le_trans ha.1 (by decide)
  have bAA : ∀ row ∈ A, row.length ≤ 1000000 := fun row hr => Nat.le_trans (ha.2 row hr) (by decide)
  have bC : C.length ≤ 1000000 := Nat.le_trans hc.1 (by decide)
  have bCC : ∀ row ∈ C, row.length ≤ 1000000 := fun row hr => Nat.le_trans (hc.2 row hr) (by decide)
  cases hb : inclRB p l r A l2 r2 C
  · exact Or.inl ⟨fun W hg => includesRelation_no p l r l2 r2 u v A C W (ht.grown hg) (hu.v.carry hg) (hv.v.carry hg) bA bAA bC bCC hb, fun W hg => sIncludesRelation_no p l r l2 r2 u v A C W (hu.v.carry hg) (hv.v.carry hg) bA bAA bC bCC hp0 hp1 hb⟩
  · have hb' := hb
    obtain ⟨q, iq, a, b, rfl, rfl, rfl, rfl, rfl, hf, hq, h1, h2, h3, hA, hC⟩ := inclRB_parts hb'
    have hn : ((a : Int) + (b : Int)).toNat = a + b := by omega
    have rU := orthR_red (p := q) hf hA.1
    have rV := orthR_red (p := q) hf hC.1
    refine Or.inr ⟨q, a, b, inclB q (a + b) A C, orthR q a b A, orthR q a b C, rfl, rfl, rfl, rfl, rfl, ⟨fun W hg => ?_, fun W hg => ?_, fun W hg => or_yes (ht.grown hg) (hu.carry hg) hf h1 hA, fun W hg => or_yes (ht.grown hg) (hv.carry hg) hf h1 hC, fun W o o' hg ho ho' => ?_⟩, rU.small h1, rV.small h1⟩
    · have h := includesRelation_yes q a b a b u v A C W (ht.grown hg) (hu.v.carry hg) (hv.v.carry hg) hb
      rwa [hn] at h
    · have h := sIncludesRelation_yes q a b a b u v A C W (hu.v.carry hg) (hv.v.carry hg) hp0 hp1 hb
      rwa [hn] at h
    · have hi : inclRB q a b (orthR q a b C) a b (orthR q a b A) = true := by
        unfold inclRB
        rw [rel_red hf h1 rV, rel_red hf h1 rU]
        simp
      have h := includesRelation_yes q a b a b o o' _ _ W (ht.grown hg) ho.v ho'.v hi
      rw [hn, incl_turn hf hA hC] at h
      exact h
end Go.Proofs.YtpeaeminjbjlnaaDoor

/-
  Products of matrices in the reference. Conditions: small sizes.
-/
namespace Go.Proofs.YtpeaeminjbjlnaaDoor
open Go.RowKit
set_option linter.unusedVariables false

theorem fdAddS_any (p a b : Int) (w : World) (hp : 1 ≤ p) (hp2 : p ≤ 1000) (ha : 0 ≤ a) (ha2 : a ≤ 1000) (hb : 0 ≤ b) (hb2 : b ≤ 1000) : Calls Tryd.prog 248 #[.int .i64 p, .int .i64 a, .int .i64 b] w fun e w' => e = .returned (.int .i64 ((a + b) % p)) ∧ w = w' := by
  have h1 := Int.emod_nonneg (a + b) (show p ≠ 0 by omega)
  have h2 := Int.emod_lt_of_pos (a + b) (show 0 < p by omega)
  have h3 : 0 ≤ a + b := by omega
  go_enter Tryd.func248, Tryd.ntmps248
  go_wp2
  go_ret
  exact ⟨rfl, rfl⟩
theorem add_mod (q a b : Int) : (a + b % q) % q = (a + b) % q := by rw [Int.add_emod, Int.emod_emod, ← Int.add_emod]

set_option maxRecDepth 100000 in
set_option maxHeartbeats 4000000 in
theorem mxRow_any (q c : Nat) [NeZero q] (xv u : Value) (x : List Int) (B : List (List Int)) (w : World) (hq2 : 2 ≤ q) (hq : q ≤ 97) (hx : IntsV w xv x) (hu : MatV w u B) (hxo : VecOk q B.length x) (hB : RowsOk q c B) (hm : B.length ≤ 1000) (hc : c ≤ 1000) :
    Calls Tryd.prog 191 #[.int .i64 q, xv, mxV c u] w fun e w' => ∃ o, e = .returned o ∧ OwnInts w.heap.size w' o (combTo q x B c B.length) ∧ w.grownBy w' none := by
  obtain ⟨i0, hi, hz0, hz1, hz2⟩ := info_parts info_int
  have HI := Lib.hid hi; have HZ0 := Lib.hid hz0; have HZ1 := Lib.hid hz1; have HZ2 := Lib.hid hz2
  have hcl : (combTo q x B c B.length).length = c := (combTo_ok (x := x) (show 1 < q by omega) hB B.length (Nat.le_refl _)).1
  have HCB := Lib.hid fun k (hk : k ≤ B.length) => combTo_ok (x := x) (show 1 < q by omega) hB k hk
  have HU := Lib.hid hu; have HX := Lib.hid hx; have HBO := Lib.hid hB; have HXO := Lib.hid hxo
  obtain ⟨ua, uc, rfl⟩ := hu.shape
  obtain ⟨xa, xc, rfl, _⟩ := hx
  obtain ⟨hxl, hxb⟩ := hxo
  rw [hxl]
  unfold mxV
  generalize hn : B.length = n at *
  have HN := Lib.hid hn
  have HXL := Lib.hid hxl
  have HS0 := Lib.hid ((Sep.start w).box #[.int .i64 c, .slice ua n uc] 39)
  obtain ⟨y0, y1, _, _⟩ := bx HS0.out.hd
  clear hi hz0 hz1 hz2 hu hB hxb hn hxl hcl
  go_enter Tryd.func191, Tryd.ntmps191
  go_wp2_with (
    at_make
    refine wpList_make_full _ rfl _ _ 24 rfl _ 3 i0 (.int .i64 0) 1 Tryd.underlying24 HI.out HZ0.out HZ1.out _ _ _ _ c rfl rfl rfl rfl (by rw [HZ2.out]; omega) (by unfold maxLen; omega) (Nat.le_refl _) ?_
    intro w5 hown' hgr'
    rw [madeCells_int] at hown'
    have hs5 := HS0.out.newI hgr' (show OwnInts _ w5 (.slice (some ⟨(w.alloc (.cells #[.int .i64 c, .slice ua n uc] 39)).heap.size, 0, none⟩) c c) (List.replicate c 0) by unfold OwnInts; rw [List.length_replicate]; exact hown')
    have HS5 := Lib.hid hs5
    clear hown' hgr' hs5)
  clear y0 y1
  have hs1 : (w.alloc (.cells #[.int .i64 c, .slice ua n uc] 39)).heap.size = w.heap.size + 1 := by simp
  rw [hs1] at HS5
  clear hs1
  generalize w.heap.size + 1 = g at *
  go_loopw [16] (fun i wr => ∃ k : Nat, k ≤ n ∧ i = .int .i64 k ∧ Sep wr [OI (.slice (some ⟨g, 0, none⟩) c c) (combTo q x B c k), BxA w.heap.size #[.int .i64 c, .slice ua n uc] 39, KeepA w]) (fun i _ => n - (intOf i).toNat)
  case atStart => exact ⟨0, by omega, rfl, HS5.out⟩
  case round =>
    obtain ⟨k, hk, rfl, hs⟩ := hrel
    have HSX := Lib.hid hs
    have hg : w.grownBy wr none := hs.tl.tl.hd
    clear hs
    by_cases hlt : k < n
    · have hkB : k < B.length := by rw [HN.out]; exact hlt
      have hkx : k < x.length := by rw [HXL.out]; exact hlt
      obtain ⟨d, hd, hsp, hdb, hcx⟩ := (HX.out.carry hg).at hkx
      obtain ⟨db, dof, _⟩ := d
      simp only at hsp hcx
      subst hsp
      cases hd
      have hxb := HXO.out.2 _ (List.getElem_mem hkx)
      rw [← getD_lt hkx] at hcx hxb
      obtain ⟨hal, hab⟩ := HCB.out k hk
      obtain ⟨hrl, hrb⟩ := HBO.out _ (getD_mem hkB)
      have HAD := Lib.hid (show combTo q x B c (k + 1) = addT q (combTo q x B c k) (x.getD k 0) (B.getD k []) from rfl)
      have HAB := Lib.hid (show ∀ t, t < c → 0 ≤ (combTo q x B c k).getD t 0 ∧ (combTo q x B c k).getD t 0 < q from fun t ht => by
        rw [List.getD_eq_getElem?_getD, List.getElem?_eq_getElem (by omega)]
        exact hab _ (List.getElem_mem _))
      have HBB := Lib.hid (show ∀ t, t < c → 0 ≤ (B.getD k []).getD t 0 ∧ (B.getD k []).getD t 0 < q from fun t ht => by
        rw [List.getD_eq_getElem?_getD (l := B.getD k []), List.getElem?_eq_getElem (by omega)]
        exact hrb _ (List.getElem_mem _))
      have HAL := Lib.hid hal; have HRL := Lib.hid hrl
      clear hab hrb hal hrl hdb
      generalize x.getD k 0 = xk at *
      generalize combTo q x B c k = acc at *
      go_wp2_with fail
      go_loopw [23] (fun i wx => ∃ (j : Nat) (zs : List Int), j ≤ c ∧ i = .int .i64 j ∧ zs.length = c ∧ (∀ t, t < j → zs.getD t 0 = (acc.getD t 0 + xk * (B.getD k []).getD t 0) % q) ∧ (∀ t, j ≤ t → zs.getD t 0 = acc.getD t 0) ∧ Sep wx [OI (.slice (some ⟨g, 0, none⟩) c c) zs, BxA w.heap.size #[.int .i64 c, .slice ua n uc] 39, KeepA w]) (fun i _ => c - (intOf i).toNat)
      case atStart => exact ⟨0, acc, by omega, rfl, HAL.out, fun _ h => absurd h (by omega), fun _ _ => rfl, HSX.out⟩
      case round =>
        obtain ⟨j, zs, hj, rfl, hz, h1, h2, hs⟩ := hrel
        have HZ := Lib.hid hz; have H1 := Lib.hid h1; have H2 := Lib.hid h2; have HSY := Lib.hid hs
        clear hz h1 h2 hs
        by_cases hlj : j < c
        · have HD := Lib.hid HSY.out.dr
          have hgd : w.grownBy wr.drew none := HD.out.tl.tl.hd
          have hjz : j < zs.length := by rw [HZ.out]; exact hlj
          have hc0 := HD.out.hd.cell HZ.out.symm hjz
          have hfr := HD.out.hd.free HZ.out.symm j
          have hzk : zs[j]'hjz = acc.getD j 0 := by
            have := H2.out j (Nat.le_refl _)
            rwa [List.getD_eq_getElem?_getD, List.getElem?_eq_getElem hjz, Option.getD_some] at this
          rw [hzk] at hc0
          obtain ⟨b0, b1, _, _⟩ := bx HD.out.s2.hd
          obtain ⟨bb, bo, bcap, bml, br, brc, he, hcell, hrow⟩ := HU.out.rowK hgd hkB
          cases he
          have hjr : j < (B.getD k []).length := by rw [HRL.out]; exact hlj
          obtain ⟨d2, hd2, hsp2, hdb2, hcy⟩ := (hrow.carry hgd).at hjr
          obtain ⟨db2, dof2, _⟩ := d2
          simp only at hsp2 hcy
          subst hsp2
          subst hd2
          rw [← getD_lt hjr] at hcy
          rw [HRL.out] at hcell
          have B1 := HAB.out j hlj; have B2 := HBB.out j hlj
          have HSN := Lib.hid fun v => HD.out.setI HZ.out.symm j v
          have HJZ := Lib.hid hjz
          clear hzk hrow hdb2 hgd hjz hjr
          generalize hak : acc.getD j 0 = ak at *
          generalize hbk : (B.getD k []).getD j 0 = bk at *
          have HAK := Lib.hid hak; have HBK := Lib.hid hbk
          have m0 := Int.emod_nonneg (xk * bk) (show (q : Int) ≠ 0 by omega)
          have m1 := Int.emod_lt_of_pos (xk * bk) (show 0 < (q : Int) by omega)
          have M1 := Lib.hid fun w1 => fdMulS_any q xk bk w1 (by omega) (by omega) hxb.1 (by omega) B2.1 (by omega)
          have m2 := fun w1 => fdAddS_any q ak (xk * bk % q) w1 (by omega) (by omega) B1.1 (by omega) m0 (by omega)
          rw [add_mod] at m2
          have M2 := Lib.hid m2
          clear m0 m1 m2 hak hbk
          go_wp2_with fail
          go_region_law (first
            | (try go_simp
               go_at_call 199
               refine (M1.out _).mono ?_
               rintro e w' ⟨rfl, rfl⟩)
            | (try go_simp
               go_at_call 248
               refine (M2.out _).mono ?_
               rintro e w' ⟨rfl, rfl⟩))
          all_goals
            go_wp2
            go_roundw
            case rel => exact ⟨j + 1, zs.set j ((ak + xk * bk) % q), by omega, by go_num, by rw [List.length_set]; exact HZ.out, fun t ht => by
              rw [getD_setI HJZ.out]
              split
              · next e => rw [e, HAK.out, HBK.out]
              · exact H1.out t (by omega), fun t ht => by
              rw [getD_setI HJZ.out, if_neg (by omega)]
              exact H2.out t (by omega), HSN.out _⟩
            case measure => simp [intOf]; omega
        · have hfin : zs = addT q acc xk (B.getD k []) := ext_getD (by rw [HZ.out]; exact ((addT_ok (p := q) xk HAL.out HRL.out).1).symm) fun t ht => by
            have := HZ.out
            rw [H1.out t (by omega), addT_getD (by rw [HAL.out, HRL.out]) (by rw [HAL.out]; omega)]
          have hsy := HSY.out
          rw [hfin, ← HAD.out] at hsy
          have HSF := Lib.hid hsy
          clear hfin hsy
          go_wp2
          go_roundw
          case rel => exact ⟨k + 1, by omega, by go_num, HSF.out⟩
          case measure => simp [intOf]; omega
    · have hkn : k = n := by omega
      subst hkn
      clear hg
      go_wp2
      go_ret
      exact ⟨_, rfl, HSX.out.drop2.ints, HSX.out.tl.tl.hd⟩

theorem times_snoc {q : Int} {A B : List (List Int)} {c k : Nat} (h : k < A.length) : (timesL q A B c).take (k + 1) = (timesL q A B c).take k ++ [combTo q (A.getD k []) B c B.length] := by
  unfold timesL
  rw [← take_push (show k < (A.map fun row => combTo q row B c B.length).length by simpa using h), List.getElem_map, List.getD_eq_getElem?_getD, List.getElem?_eq_getElem h]
  rfl
theorem Sep.set22 {w : World} {l : List Asrt} {b : Nat} {x y : Value} {t : TypeId} (h : Sep w (BxA b #[x, y] t :: l)) (y' : Value) : Sep (w.setCell ⟨b, 1, none⟩ y') (BxA b #[x, y'] t :: l) := h.setB 1 y'
set_option maxRecDepth 100000 in
set_option maxHeartbeats 2000000 in
theorem mxMul_any (q c : Nat) [NeZero q] (ca : Int) (v u : Value) (A B : List (List Int)) (w : World) (hq2 : 2 ≤ q) (hq : q ≤ 97) (hv : MatV w v A) (hu : MatV w u B) (hA : RowsOk q B.length A) (hB : RowsOk q c B) (ha : A.length ≤ 1000) (hm : B.length ≤ 1000) (hc : c ≤ 1000) :
    Calls Tryd.prog 182 #[.int .i64 q, mxV ca v, mxV c u] w fun e w' => ∃ o vs, e = .returned (mxV c o) ∧ OwnM w.heap.size w' o vs (timesL q A B c) ∧ w.grownBy w' none := by
  have HR := Lib.hid fun W xv x (hg : w.grownBy W none) (hx : IntsV W xv x) (hok : VecOk q B.length x) => mxRow_any q c xv u x B W hq2 hq hx (hu.carry hg) hok hB hm hc
  have HV := Lib.hid hv; have HAO := Lib.hid hA
  have HCL := Lib.hid fun x => (combTo_ok (x := x) (show 1 < q by omega) hB B.length (Nat.le_refl _)).1
  have HTL := Lib.hid (timesL_len q A B c)
  have HSN := Lib.hid fun k (hk : k < A.length) => times_snoc (q := (q : Int)) (B := B) (c := c) hk
  obtain ⟨va, vc, rfl⟩ := hv.shape
  obtain ⟨ua, uc, rfl⟩ := hu.shape
  unfold mxV at *
  generalize hla : A.length = la at *
  generalize hlb : B.length = lb at *
  have HLA := Lib.hid hla
  have HS0 := Lib.hid ((((((Sep.start w).box #[.int .i64 ca, .slice va la vc] 39).box #[.int .i64 c, .slice ua lb uc] 39).box #[.int .i64 0, .slice none 0 0] 39).box #[.int .i64 c, .slice none 0 0] 39).nilM)
  simp only [show ∀ (W : World) o, (W.alloc o).heap.size = W.heap.size + 1 from fun W o => by simp] at HS0
  obtain ⟨y0, y1, _, _⟩ := bx HS0.out.s5.hd
  obtain ⟨y2, y3, _, _⟩ := bx HS0.out.s4.hd
  clear hv hu hA hB hla hlb
  go_enter Tryd.func182, Tryd.ntmps182
  go_wp2_with fail
  clear y0 y1 y2 y3
  go_loopw [16] (fun i wr => ∃ (k : Nat) (oa : Option Addr) (oc : Nat) (vs : List Value), k ≤ la ∧ i = .int .i64 k ∧ Sep wr [OM (.slice oa k oc) vs ((timesL q A B c).take k), BxA (w.heap.size + 1 + 1 + 1) #[.int .i64 c, .slice oa k oc] 39, BxA (w.heap.size + 1 + 1) #[.int .i64 0, .slice none 0 0] 39, BxA (w.heap.size + 1) #[.int .i64 c, .slice ua lb uc] 39, BxA w.heap.size #[.int .i64 ca, .slice va la vc] 39, KeepA w]) (fun i _ => la - (intOf i).toNat)
  case atStart => exact ⟨0, none, 0, [], by omega, rfl, HS0.out⟩
  case round =>
    obtain ⟨k, oa, oc, vs, hk, rfl, hs⟩ := hrel
    have HSX := Lib.hid hs
    have hg : w.grownBy wr none := hs.tl.tl.tl.tl.tl.hd
    clear hs
    by_cases hlt : k < la
    · have hkA : k < A.length := by rw [HLA.out]; exact hlt
      obtain ⟨bb, bo, bcap, bml, br, brc, he, hcell, hrow⟩ := HV.out.rowK hg hkA
      cases he
      have hro := HAO.out _ (getD_mem hkA)
      have HD := Lib.hid HSX.out.dr
      have hgd : w.grownBy wr.drew none := HD.out.tl.tl.tl.tl.tl.hd
      have HRW := Lib.hid (HR.out wr.drew _ _ hgd (hrow.carry hgd) hro)
      have HTS := Lib.hid (HSN.out k hlt)
      have HPL := Lib.hid (show ((timesL q A B c).take k).length = k by rw [List.length_take, HTL.out]; omega)
      have HCK := Lib.hid (HCL.out (A.getD k []))
      obtain ⟨a0, a1, a2, a3⟩ := bx HD.out.s2.hd
      obtain ⟨b0, b1, _, _⟩ := bx HD.out.s4.hd
      clear hro hrow hg hgd hkA
      generalize (A.getD k []).length = rl at *
      generalize combTo q (A.getD k []) B c lb = nz at *
      go_wp2_with fail
      go_region_law (first
        | (try go_simp
           go_at_call 191
           go_loud (refine HRW.out.mono ?_)
           rintro e w2 ⟨o2, rfl, ho, g2⟩
           obtain ⟨oa2, oc2, rfl⟩ := own_shape ho
           rw [HCK.out] at ho ⊢
           have HS2 := Lib.hid (HD.out.newI g2 ho)
           obtain ⟨c0, c1, c2, c3⟩ := bx HS2.out.s3.hd
           have z2 := fun o => cell_alloc c1 o
           clear ho g2)
        | (go_loud (refine step_app_rowS rfl (.tmp 21) (.tmp 26) rfl rfl rfl HS2.out (by rw [HPL.out]; omega) ?_)
           intro g8 c8 w8 h8
           rw [HPL.out] at h8 ⊢
           obtain ⟨x0, x1, x2, x3⟩ := bx h8.s2.hd
           have HS9 := Lib.hid ((h8.s2.set22 (.slice (some ⟨g8, 0, none⟩) (k + 1) c8)).s2)
           clear h8))
      all_goals
        go_wp2
        go_roundw
        case rel => exact ⟨k + 1, _, _, _, by omega, by go_num, by rw [HTS.out]; exact HS9.out⟩
        case measure => simp [intOf]; omega
    · have hkn : k = la := by omega
      subst hkn
      have HALL := Lib.hid (show (timesL q A B c).take k = timesL q A B c from List.take_of_length_le (by rw [HTL.out]; exact Nat.le_refl _))
      obtain ⟨a0, a1, a2, a3⟩ := bx HSX.out.s2.hd
      obtain ⟨b0, b1, b2, b3⟩ := bx HSX.out.s3.hd
      have HQ := Lib.hid ((HSX.out.s3.setB 0 (.int .i64 c)).setB 1 (.slice oa k oc))
      clear hg
      go_wp2
      refine bodyPost_ret_by (v := .agg #[.int .i64 c, .slice oa k oc]) ?_ rfl ?_
      · simp [results, go_sem, *]
      · have h := HQ.out.s2.drop2.drop2.drop2.drop2
        rw [HALL.out] at h
        exact ⟨_, vs, rfl, h.mat, h.s2.hd⟩
end Go.Proofs.YtpeaeminjbjlnaaDoor

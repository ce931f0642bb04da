/-
  What the law of spaces asks of the lists. Plain facts. Conditions: small sizes.
-/
import Derived.Test.YtpeaeminjbjlnaaDoorMv13
import Derived.Test.YtpeaeminjbjlnaaDoorMv12
import Derived.Test.YtpeaeminjbjlnaaDoorMv11
import Derived.Deep.CutRange
namespace Go.Proofs.YtpeaeminjbjlnaaDoor
open Go.RowKit
set_option linter.unusedVariables false

theorem space_red {q m : Nat} [NeZero q] {R : List (List Int)} (hf : fldN q = true) (hm : m ≤ 24) (hr : IsRed q m R) : spaceB q m R = true := by
  have hl := hr.len_le
  unfold spaceB redB
  rw [fldB_nat, hf, rowsB_ok.2 hr.1, Int.toNat_natCast, reducedL_self hf hr]
  simp
  omega
theorem two_of {q k : Nat} {X Y : List (List Int)} (h1 : spaceB q k X = true) (h2 : spaceB q k Y = true) : twoB q k X k Y = true := by
  unfold twoB
  rw [h1, h2]
  simp
theorem row_in {q k : Nat} [NeZero q] {A R : List (List Int)} (hf : fldN q = true) (hm : k ≤ 24) (hA : IsRed q k A) (hR : IsRed q k R) (h : ∀ v, Spn q k R v → Spn q k A v) {row : List Int} (hr : row ∈ R) : vectorB q k A row = true ∧ hasB q k A row = true := by
  obtain ⟨i, hi, rfl⟩ := List.getElem_of_mem hr
  have hok := hR.1 _ (List.getElem_mem hi)
  refine ⟨?_, ?_⟩
  · unfold vectorB
    rw [space_red hf hm hA, vecB_ok.2 hok]
    rfl
  · have := has_row hf hA hR.1 h hi
    rwa [List.getD_eq_getElem?_getD, List.getElem?_eq_getElem hi] at this
/-- a vector of a list that lies in a space is told to be in it -/
theorem hasRow {q k : Nat} [NeZero q] {u r : Value} {A R : List (List Int)} {row : List Int} (W : World) (hf : fldN q = true) (hm : k ≤ 24) (hA : IsRed q k A) (hR : IsRed q k R) (h : ∀ v, Spn q k R v → Spn q k A v) (hr : row ∈ R) (ht : Tab W) (hu : MatV W u A) (hv : IntsV W r row) :
    Calls Tryd.prog 56 #[.int .i64 q, mxV k u, r] W fun e w' => e = .returned (.tuple #[.bool true, .bool true]) ∧ W.grownBy w' none := by
  obtain ⟨h1, h2⟩ := row_in hf hm hA hR h hr
  have hl := hA.len_le
  have h3 := hasVector_yes q k u r A row W ht hu hv (by omega) (fun row hrow => by rw [(hA.1 row hrow).1]; omega) (by rw [(hR.1 row hr).1]; omega) h1
  rw [Int.toNat_natCast, h2] at h3
  exact h3

/-- the answers of the first half, where both spaces are valid -/
structure SpcYes (q k : Nat) (u v : Value) (L M S ME X Y Z : List (List Int)) (w : World) : Prop where
  h1 : ∀ W, w.grownBy W none → Calls Tryd.prog 51 #[.int .i64 q, mxV k u, mxV k v] W fun e w' => ∃ o, e = .returned (.tuple #[mxV k o, .bool true]) ∧ MatV w' o S ∧ W.grownBy w' none
  h2 : ∀ W, w.grownBy W none → Calls Tryd.prog 52 #[.int .i64 q, mxV k u, mxV k v] W fun e w' => ∃ o, e = .returned (.tuple #[mxV k o, .bool true]) ∧ MatV w' o S ∧ W.grownBy w' none
  h3 : ∀ W, w.grownBy W none → Calls Tryd.prog 54 #[.int .i64 q, mxV k u, mxV k v] W fun e w' => ∃ o, e = .returned (.tuple #[mxV k o, .bool true]) ∧ MatV w' o ME ∧ W.grownBy w' none
  h4 : ∀ W, w.grownBy W none → Calls Tryd.prog 55 #[.int .i64 q, mxV k u] W fun e w' => ∃ o, e = .returned (.tuple #[mxV k o, .bool true]) ∧ MatV w' o X ∧ W.grownBy w' none
  h5 : ∀ W, w.grownBy W none → Calls Tryd.prog 55 #[.int .i64 q, mxV k v] W fun e w' => ∃ o, e = .returned (.tuple #[mxV k o, .bool true]) ∧ MatV w' o Y ∧ W.grownBy w' none
  h6 : ∀ W o, w.grownBy W none → MatV W o S → Calls Tryd.prog 55 #[.int .i64 q, mxV k o] W fun e w' => ∃ o, e = .returned (.tuple #[mxV k o, .bool true]) ∧ MatV w' o Z ∧ W.grownBy w' none
  h7 : ∀ W o o', w.grownBy W none → MatV W o X → MatV W o' Y → Calls Tryd.prog 54 #[.int .i64 q, mxV k o, mxV k o'] W fun e w' => ∃ o, e = .returned (.tuple #[mxV k o, .bool true]) ∧ MatV w' o Z ∧ W.grownBy w' none
  h8 : ∀ W o, w.grownBy W none → MatV W o X → Calls Tryd.prog 55 #[.int .i64 q, mxV k o] W fun e w' => ∃ o, e = .returned (.tuple #[mxV k o, .bool true]) ∧ MatV w' o L ∧ W.grownBy w' none
  h9 : ∀ W r row, w.grownBy W none → row ∈ ME → IntsV W r row → Calls Tryd.prog 56 #[.int .i64 q, mxV k u, r] W fun e w' => e = .returned (.tuple #[.bool true, .bool true]) ∧ W.grownBy w' none
  h10 : ∀ W r row, w.grownBy W none → row ∈ ME → IntsV W r row → Calls Tryd.prog 56 #[.int .i64 q, mxV k v, r] W fun e w' => e = .returned (.tuple #[.bool true, .bool true]) ∧ W.grownBy w' none
structure SpcNo (p c d : Int) (u v : Value) (w : World) : Prop where
  h1 : ∀ W, w.grownBy W none → Calls Tryd.prog 51 #[.int .i64 p, mxV c u, mxV d v] W fun e w' => e = .returned (.tuple #[mxV 0 nilS, .bool false]) ∧ W.grownBy w' none
  h2 : ∀ W, w.grownBy W none → Calls Tryd.prog 52 #[.int .i64 p, mxV c u, mxV d v] W fun e w' => e = .returned (.tuple #[mxV 0 nilS, .bool false]) ∧ W.grownBy w' none
/-- short lists of short rows -/
def Small (n : Nat) (L : List (List Int)) : Prop := L.length ≤ n ∧ ∀ row ∈ L, row.length ≤ n
theorem IsRed.small {q k : Nat} [NeZero q] {L : List (List Int)} (h : IsRed q k L) (hk : k ≤ 24) : Small 24 L := ⟨Nat.le_trans h.len_le hk, fun row hr => by rw [(h.1 row hr).1]; exact hk⟩
theorem spc1 {p c d : Int} {u v : Value} {L M : List (List Int)} {w : World} (ht : Tab w) (hu : MatV w u L) (hv : MatV w v M) (hl : L.length ≤ 1000) (hll : ∀ row ∈ L, row.length ≤ 1000) (hm : M.length ≤ 1000) (hmm : ∀ row ∈ M, row.length ≤ 1000) (hp0 : -1000 ≤ p) (hp1 : p ≤ 1000) :
    SpcNo p c d u v w ∨ ∃ (q k : Nat) (S ME X Y Z : List (List Int)), p = q ∧ c = k ∧ d = k ∧ SpcYes q k u v L M S ME X Y Z w ∧ Small 24 S ∧ Small 24 ME ∧ Small 24 Z ∧ Small 24 L ∧ S.length + ME.length = L.length + M.length := by
  have big : ∀ row ∈ L, row.length ≤ 1000000 := fun row hr => Nat.le_trans (hll row hr) (by decide)
  have bl : L.length ≤ 1000000 := Nat.le_trans hl (by decide)
  have big2 : ∀ row ∈ M, row.length ≤ 1000000 := fun row hr => Nat.le_trans (hmm row hr) (by decide)
  have bl2 : M.length ≤ 1000000 := Nat.le_trans hm (by decide)
  cases hb : twoB p c L d M
  · exact Or.inl ⟨fun W hg => sumOf_no p c d u v L M W (ht.grown hg) (hu.carry hg) (hv.carry hg) bl big bl2 big2 hb, fun W hg => sSumOf_no p c d u v L M W (hu.carry hg) (hv.carry hg) bl big bl2 big2 hp0 hp1 hb⟩
  · have hb' := hb
    obtain ⟨q, iq, k, rfl, rfl, rfl, hf, hq, hk, hla, hlm, hR1, hR2, hA, hM⟩ := twoB_nat hb'
    have b1 : spaceB q k L = true := space_red hf hk hR1
    have b2 : spaceB q k M = true := space_red hf hk hR2
    have rS := sum_red hf hA hM
    have rM := meet_red (C := M) hf hA
    have rX := orth_red hf hA
    have rY := orth_red hf hM
    have rZ := orth_red hf rS.1
    refine Or.inr ⟨q, k, sumL q k L M, meetL q k L M, orthL q L k, orthL q M k, orthL q (sumL q k L M) k, rfl, rfl, rfl, ⟨fun W hg => ?_, fun W hg => ?_, fun W hg => ?_, fun W hg => ?_, fun W hg => ?_, fun W o hg ho => ?_, fun W o o' hg ho ho' => ?_, fun W o hg ho => ?_, fun W r row hg hr hv' => ?_, fun W r row hg hr hv' => ?_⟩, rS.small hk, rM.small hk, rZ.small hk, hR1.small hk, dims hf hR1 hR2⟩
    · have h := sumOf_yes q k k u v L M W (ht.grown hg) (hu.carry hg) (hv.carry hg) hb
      rwa [Int.toNat_natCast] at h
    · have h := sSumOf_yes q k k u v L M W (hu.carry hg) (hv.carry hg) hp0 hp1 hb
      rwa [Int.toNat_natCast] at h
    · have h := meetOf_yes q k k u v L M W (ht.grown hg) (hu.carry hg) (hv.carry hg) hb
      rwa [Int.toNat_natCast] at h
    · have h := orthogonalOf_yes q k u L W (ht.grown hg) (hu.carry hg) b1
      rwa [Int.toNat_natCast] at h
    · have h := orthogonalOf_yes q k v M W (ht.grown hg) (hv.carry hg) b2
      rwa [Int.toNat_natCast] at h
    · have h := orthogonalOf_yes q k o _ W (ht.grown hg) ho (space_red hf hk rS)
      rwa [Int.toNat_natCast] at h
    · have h := meetOf_yes q k k o o' _ _ W (ht.grown hg) ho ho' (two_of (space_red hf hk rX) (space_red hf hk rY))
      rw [Int.toNat_natCast, orth_meet hf hA hM] at h
      exact h
    · have h := orthogonalOf_yes q k o _ W (ht.grown hg) ho (space_red hf hk rX)
      rw [Int.toNat_natCast, orth_orth hf hR1] at h
      exact h
    · exact hasRow W hf hk hR1 rM (fun v hv => ((meet_span hf hA hM v).1 hv).1) hr (ht.grown hg) (hu.carry hg) hv'
    · exact hasRow W hf hk hR2 rM (fun v hv => ((meet_span hf hA hM v).1 hv).2) hr (ht.grown hg) (hv.carry hg) hv'

/-- the answers of the second half -/
structure PreYes (q k n : Nat) (u v : Value) (R I : List (List Int)) (w : World) : Prop where
  h1 : ∀ W, w.grownBy W none → Calls Tryd.prog 58 #[.int .i64 q, mxV k u, mxV k v] W fun e w' => ∃ o, e = .returned (.tuple #[mxV n o, .bool true]) ∧ MatV w' o R ∧ W.grownBy w' none
  h2 : ∀ W, w.grownBy W none → Calls Tryd.prog 59 #[.int .i64 q, mxV k u, mxV k v] W fun e w' => ∃ o, e = .returned (.tuple #[mxV n o, .bool true]) ∧ MatV w' o R ∧ W.grownBy w' none
  h3 : ∀ W o, w.grownBy W none → MatV W o R → Calls Tryd.prog 60 #[.int .i64 q, mxV n o, mxV k v] W fun e w' => ∃ o, e = .returned (.tuple #[mxV k o, .bool true]) ∧ MatV w' o I ∧ W.grownBy w' none
  h4 : ∀ W r row, w.grownBy W none → row ∈ I → IntsV W r row → Calls Tryd.prog 56 #[.int .i64 q, mxV k u, r] W fun e w' => e = .returned (.tuple #[.bool true, .bool true]) ∧ W.grownBy w' none
structure PreNot (p c d : Int) (u v : Value) (w : World) : Prop where
  h1 : ∀ W, w.grownBy W none → Calls Tryd.prog 58 #[.int .i64 p, mxV c u, mxV d v] W fun e w' => e = .returned (.tuple #[mxV 0 nilS, .bool false]) ∧ W.grownBy w' none
  h2 : ∀ W, w.grownBy W none → Calls Tryd.prog 59 #[.int .i64 p, mxV c u, mxV d v] W fun e w' => e = .returned (.tuple #[mxV 0 nilS, .bool false]) ∧ W.grownBy w' none
theorem spc2 {p c d : Int} {u v : Value} {L M : List (List Int)} {w : World} (ht : Tab w) (hu : MatV w u L) (hv : MatV w v M) (hl : L.length ≤ 1000) (hll : ∀ row ∈ L, row.length ≤ 1000) (hm : M.length ≤ 1000) (hmm : ∀ row ∈ M, row.length ≤ 1000) (hp0 : -1000 ≤ p) (hp1 : p ≤ 1000) :
    PreNot p c d u v w ∨ ∃ (q k n : Nat) (R I : List (List Int)), p = q ∧ c = k ∧ d = k ∧ PreYes q k n u v R I w ∧ Small 24 R ∧ Small 24 I := by
  have big : ∀ row ∈ L, row.length ≤ 1000000 := fun row hr => Nat.le_trans (hll row hr) (by decide)
  have bl : L.length ≤ 1000000 := Nat.le_trans hl (by decide)
  have big2 : ∀ row ∈ M, row.length ≤ 1000000 := fun row hr => Nat.le_trans (hmm row hr) (by decide)
  have bl2 : M.length ≤ 1000000 := Nat.le_trans hm (by decide)
  cases hb : preB p c L d M
  · exact Or.inl ⟨fun W hg => preimageOf_no p c d u v L M W (ht.grown hg) (hu.carry hg) (hv.carry hg) bl big bl2 big2 hb, fun W hg => sPreimageOf_no p c d u v L M W (hu.carry hg) (hv.carry hg) bl big bl2 big2 hp0 hp1 hb⟩
  · obtain ⟨q, iq, k, rfl, rfl, rfl, hf, hq, hk, hla, hlm, hR, hA, hM, hb1, hb2⟩ := preB_nat hb
    have rR := pre_red hf hM hA
    have rI : IsRed q k (imageL q k (preL q k M L) M) := reducedL_red hf (timesL_ok (lt_p hf) hM)
    refine Or.inr ⟨q, k, M.length, preL q k M L, imageL q k (preL q k M L) M, rfl, rfl, rfl, ⟨fun W hg => ?_, fun W hg => ?_, fun W o hg ho => ?_, fun W r row hg hr hv' => ?_⟩, rR.small hlm, rI.small hk⟩
    · have h := preimageOf_yes q k k u v L M W (ht.grown hg) (hu.carry hg) (hv.carry hg) hb
      rwa [Int.toNat_natCast] at h
    · have h := sPreimageOf_yes q k k u v L M W (hu.carry hg) (hv.carry hg) hp0 hp1 hb
      rwa [Int.toNat_natCast] at h
    · exact imageOf_yes q M.length k o v _ M W (ht.grown hg) ho (hv.carry hg) (space_red hf hlm rR) hb2 rfl
    · exact hasRow W hf hk hR rI (fun v hv => image_in hf hM hR hv) hr (ht.grown hg) (hu.carry hg) hv'
end Go.Proofs.YtpeaeminjbjlnaaDoor

/-
  Drawn vectors for a space. Conditions: small sizes.
-/
namespace Go.Proofs.YtpeaeminjbjlnaaDoor
open Go.RowKit
set_option linter.unusedVariables false

def DVec (N b : Nat) (n : Int) (w : World) (e : Ending) (w' : World) : Prop :=
  ∃ (o : Value) (zs : List Int), e = .returned o ∧ OwnInts w.heap.size w' o zs ∧ zs.length ≤ 1000 ∧ Bd.Cur N w' b n ∧ w.grownBy w' (some b)
theorem fin_vec {N b s : Nat} {m n : Int} {w W : World} {o : Value} {zs : List Int} {cs : Array Value} {t : TypeId} (h : Sep W [OI o zs, CA N b m, BxA s cs t, KeepX w b]) (hm : m ≤ n) (hz : zs.length ≤ 1000) : DVec N b n w (.returned o) W := by
  have h2 := h.s3.tl
  exact ⟨o, zs, rfl, h2.intsX, hz, h2.s2.hd.mono hm, h2.s3.hd⟩
set_option maxRecDepth 100000 in
set_option maxHeartbeats 2000000 in
theorem vectorFor_any {N : Nat} (p : Int) (c : Nat) (o : Value) (vs : List Value) (L : List (List Int)) (b B : Nat) (n : Int) (w : World) (hp : -1000 ≤ p) (hp2 : p ≤ 1000) (hc : Bd.Cur N w b n) (ho : OwnM B w o vs L) (hbB : b < B) (hcs : c ≤ 100) (hl : L.length ≤ 1000) (hll : ∀ row ∈ L, row.length ≤ 1000) (hn : n + 20000000 ≤ 1000000000000) :
    Calls Tryd.prog 279 #[.pointer (some ⟨b, 0, none⟩), .int .i64 p, mxV c o] w (DVec N b (n + 20000000) w) := by
  have HM := Lib.hid fun W (hg : w.grownBy W (some b)) => (ho.only (Only.of_grown (S := (· = b)) hg fun k hk => (Option.some.inj hk).symm) (fun k hk hk' => by have h1 := (ho.lt hk).1; have h2 : k = b := hk'; omega)).read
  obtain ⟨oa, oc, hoe, _, _⟩ := own_form ho
  subst hoe
  have HS := Lib.hid (((Sep.startX hc).box #[.int .i64 c, .slice oa L.length oc] 74).s2)
  have HG := Lib.hid fun w' => fdGood_any p w' hp hp2
  have hmo := fun w1 => l1Most_any 0 (c : Int) w1
  rw [show max 0 (c : Int) = c by omega] at hmo
  have HMO := Lib.hid hmo
  have HR := Lib.hid fun W (hg : w.grownBy W (some b)) => spRows_any p c _ L W (HM.out W hg) (by omega) (fun row hr => by have := hll row hr; omega) hp hp2
  unfold mxV
  clear hc hmo ho hll
  generalize hlen : L.length = l at *
  have HLEN := Lib.hid hlen
  clear hlen
  cases hf : fldB p
  · rw [hf] at HG
    clear hf
    go_enter Tryd.func279, Tryd.ntmps279
    go_wp2_with (first
      | (go_at_call 189; with_reducible refine (HMO.out _).mono ?_; rintro e w' ⟨rfl, rfl⟩)
      | (go_at_call 206; with_reducible refine (HG.out _).mono ?_; rintro e w' ⟨rfl, rfl⟩)
      | (go_at_call 175
         refine (elems_any p c b _ _ HS.out.hd (by omega) (by omega) (by omega) (by omega)).mono ?_
         rintro e w1 ⟨o1, zs, rfl, ho1, hz, hok, c1, g1⟩
         have HS9 := Lib.hid (HS.out.drawI c1 g1 ho1)
         have HZ := Lib.hid (show zs.length = c by omega)
         obtain ⟨oa1, oc1, rfl⟩ := own_shape ho1
         clear ho1 hz hok c1 g1))
    have hzc := HZ.out
    generalize hzl : zs.length = zl at *
    subst hzc
    have HZL := Lib.hid hzl
    clear hzl HZ
    refine (Bd.pick_any 24 b _ _ HS9.out.s2.hd (by omega) (by omega)).mono ?_
    rintro e w3 ⟨x, rfl, ⟨x0, x1⟩, c3, g3⟩
    have HS3 := Lib.hid (HS9.out.s2.draw c3 g3).s2
    clear c3 g3
    by_cases h0 : x = 0
    · subst h0
      go_wp2_with (
        at_builtin
        refine app_intS rfl _ _ rfl rfl rfl HS3.out (by have := HZL.out; omega) ?_
        intro g2 cap2 w8 hs8
        have HS8 := Lib.hid hs8
        clear hs8)
      go_ret
      exact fin_vec HS8.out (by omega) (by have := HZL.out; simp; omega)
    · by_cases h1 : x = 1
      · subst h1
        by_cases hz0 : zl = 0
        · subst hz0
          go_wp2
          go_ret
          exact fin_vec HS3.out (by omega) (by have := HZL.out; omega)
        · have hz1 : (0 : Int) < (zl : Int) := by omega
          obtain ⟨g, gc, hge, _, _, _⟩ := HS3.out.hd.parts (by intro h; have := HZL.out; rw [h] at this; simp at this; omega)
          rw [HZL.out] at hge
          cases hge
          go_wp2_with (first
            | (go_at_call 131
               go_loud (refine (Bd.pick_any zl b _ _ HS3.out.s2.hd (by omega) (by omega)).mono ?_)
               rintro e w5 ⟨k, rfl, ⟨hk0, hk1⟩, c5, g5⟩
               obtain ⟨k, rfl⟩ := Int.eq_ofNat_of_zero_le hk0
               have hkl : k < zl := by omega
               have hki : (k : Int) < (zl : Int) := by omega
               have HS5 := Lib.hid (HS3.out.s2.draw c5 g5)
               clear c5 g5 hk1)
            | (go_at_call 203
               go_loud (refine (Bd.anyElem_any _ b _ _ HS5.out.hd (by omega) (by omega) (by omega)).mono ?_)
               rintro e w7 ⟨z, rfl, hz, c7, g7⟩
               have hs8 := (HS5.out.draw c7 g7).s2
               have hc := hs8.hd.cell HZL.out.symm (show k < zs.length by rw [HZL.out]; exact hkl)
               have hfr := hs8.hd.free HZL.out.symm k
               have HP := Lib.hid (hs8.setI HZL.out.symm k z)
               obtain ⟨old, hold⟩ : ∃ old, old = zs[k]'(by rw [HZL.out]; exact hkl) := ⟨_, rfl⟩
               rw [← hold] at hc
               clear c7 g7 hz hs8 hold))
          go_ret
          exact fin_vec HP.out (by omega) (by have := HZL.out; simp; omega)
      · go_wp2
        go_ret
        exact fin_vec HS3.out (by omega) (by have := HZL.out; omega)
  · obtain ⟨b1, b2⟩ := fldB_bd hf
    obtain ⟨q, rfl⟩ := Int.eq_ofNat_of_zero_le (show 0 ≤ p by omega)
    haveI : NeZero q := ⟨by omega⟩
    rw [hf] at HG
    clear hf
    cases hr : rowsB (q : Int) c L
    · rw [hr] at HR
      clear hr
      go_enter Tryd.func279, Tryd.ntmps279
      go_wp2_with (first
        | (go_at_call 189; with_reducible refine (HMO.out _).mono ?_; rintro e w' ⟨rfl, rfl⟩)
        | (go_at_call 206; with_reducible refine (HG.out _).mono ?_; rintro e w' ⟨rfl, rfl⟩)
        | (go_at_call 207; with_reducible refine (HR.out _ HW.out).mono ?_; rintro e w' ⟨rfl, rfl⟩)
        | (go_at_call 175
           refine (elems_any q c b _ _ HS.out.hd (by omega) (by omega) (by omega) (by omega)).mono ?_
           rintro e w1 ⟨o1, zs, rfl, ho1, hz, hok, c1, g1⟩
           have HS9 := Lib.hid (HS.out.drawI c1 g1 ho1)
           have HZ := Lib.hid (show zs.length = c by omega)
           obtain ⟨oa1, oc1, rfl⟩ := own_shape ho1
           obtain ⟨x0, x1, x2, x3⟩ := bx HS9.out.s3.hd
           have HW := Lib.hid (show w.grownBy w1 (some b) from HS9.out.s4.hd)
           clear ho1 hz hok c1 g1))
      have hzc := HZ.out
      generalize hzl : zs.length = zl at *
      subst hzc
      have HZL := Lib.hid hzl
      clear hzl HZ
      refine (Bd.pick_any 24 b _ _ HS9.out.s2.hd (by omega) (by omega)).mono ?_
      rintro e w3 ⟨x, rfl, ⟨x0, x1⟩, c3, g3⟩
      have HS3 := Lib.hid (HS9.out.s2.draw c3 g3).s2
      clear c3 g3
      by_cases h0 : x = 0
      · subst h0
        go_wp2_with (
          at_builtin
          refine app_intS rfl _ _ rfl rfl rfl HS3.out (by have := HZL.out; omega) ?_
          intro g2 cap2 w8 hs8
          have HS8 := Lib.hid hs8
          clear hs8)
        go_ret
        exact fin_vec HS8.out (by omega) (by have := HZL.out; simp; omega)
      · by_cases h1 : x = 1
        · subst h1
          by_cases hz0 : zl = 0
          · subst hz0
            go_wp2
            go_ret
            exact fin_vec HS3.out (by omega) (by have := HZL.out; omega)
          · have hz1 : (0 : Int) < (zl : Int) := by omega
            obtain ⟨g, gc, hge, _, _, _⟩ := HS3.out.hd.parts (by intro h; have := HZL.out; rw [h] at this; simp at this; omega)
            rw [HZL.out] at hge
            cases hge
            go_wp2_with (first
              | (go_at_call 131
                 go_loud (refine (Bd.pick_any zl b _ _ HS3.out.s2.hd (by omega) (by omega)).mono ?_)
                 rintro e w5 ⟨k, rfl, ⟨hk0, hk1⟩, c5, g5⟩
                 obtain ⟨k, rfl⟩ := Int.eq_ofNat_of_zero_le hk0
                 have hkl : k < zl := by omega
                 have hki : (k : Int) < (zl : Int) := by omega
                 have HS5 := Lib.hid (HS3.out.s2.draw c5 g5)
                 clear c5 g5 hk1)
              | (go_at_call 203
                 go_loud (refine (Bd.anyElem_any _ b _ _ HS5.out.hd (by omega) (by omega) (by omega)).mono ?_)
                 rintro e w7 ⟨z, rfl, hz, c7, g7⟩
                 have hs8 := (HS5.out.draw c7 g7).s2
                 have hc := hs8.hd.cell HZL.out.symm (show k < zs.length by rw [HZL.out]; exact hkl)
                 have hfr := hs8.hd.free HZL.out.symm k
                 have HP := Lib.hid (hs8.setI HZL.out.symm k z)
                 obtain ⟨old, hold⟩ : ∃ old, old = zs[k]'(by rw [HZL.out]; exact hkl) := ⟨_, rfl⟩
                 rw [← hold] at hc
                 clear c7 g7 hz hs8 hold))
            go_ret
            exact fin_vec HP.out (by omega) (by have := HZL.out; simp; omega)
        · go_wp2
          go_ret
          exact fin_vec HS3.out (by omega) (by have := HZL.out; omega)
    · rw [hr] at HR
      have HROK := Lib.hid (rowsB_ok.1 hr)
      clear hr
      go_enter Tryd.func279, Tryd.ntmps279
      go_wp2_with (first
        | (go_at_call 189; with_reducible refine (HMO.out _).mono ?_; rintro e w' ⟨rfl, rfl⟩)
        | (go_at_call 206; with_reducible refine (HG.out _).mono ?_; rintro e w' ⟨rfl, rfl⟩)
        | (go_at_call 207; with_reducible refine (HR.out _ HW.out).mono ?_; rintro e w' ⟨rfl, rfl⟩)
        | (go_at_call 175
           refine (elems_any q c b _ _ HS.out.hd (by omega) (by omega) (by omega) (by omega)).mono ?_
           rintro e w1 ⟨o1, zs, rfl, ho1, hz, hok, c1, g1⟩
           have HS9 := Lib.hid (HS.out.drawI c1 g1 ho1)
           have HZ := Lib.hid (show zs.length = c by omega)
           obtain ⟨oa1, oc1, rfl⟩ := own_shape ho1
           obtain ⟨x0, x1, x2, x3⟩ := bx HS9.out.s3.hd
           have HW := Lib.hid (show w.grownBy w1 (some b) from HS9.out.s4.hd)
           clear ho1 hz hok c1 g1))
      refine (Bd.one_any 2 b _ _ HS9.out.s2.hd (by omega) (by omega)).mono ?_
      rintro e w2 ⟨bv, rfl, c2, g2⟩
      have HS10 := Lib.hid (HS9.out.s2.draw c2 g2).s2
      clear c2 g2 HS9
      cases bv
      · have HS9 := HS10
        clear HS10
        go_wp2_with fail
        have hzc := HZ.out
        generalize hzl : zs.length = zl at *
        subst hzc
        have HZL := Lib.hid hzl
        clear hzl HZ
        refine (Bd.pick_any 24 b _ _ HS9.out.s2.hd (by omega) (by omega)).mono ?_
        rintro e w3 ⟨x, rfl, ⟨x0, x1⟩, c3, g3⟩
        have HS3 := Lib.hid (HS9.out.s2.draw c3 g3).s2
        clear c3 g3
        by_cases h0 : x = 0
        · subst h0
          go_wp2_with (
            at_builtin
            refine app_intS rfl _ _ rfl rfl rfl HS3.out (by have := HZL.out; omega) ?_
            intro g2 cap2 w8 hs8
            have HS8 := Lib.hid hs8
            clear hs8)
          go_ret
          exact fin_vec HS8.out (by omega) (by have := HZL.out; simp; omega)
        · by_cases h1 : x = 1
          · subst h1
            by_cases hz0 : zl = 0
            · subst hz0
              go_wp2
              go_ret
              exact fin_vec HS3.out (by omega) (by have := HZL.out; omega)
            · have hz1 : (0 : Int) < (zl : Int) := by omega
              obtain ⟨g, gc, hge, _, _, _⟩ := HS3.out.hd.parts (by intro h; have := HZL.out; rw [h] at this; simp at this; omega)
              rw [HZL.out] at hge
              cases hge
              go_wp2_with (first
                | (go_at_call 131
                   go_loud (refine (Bd.pick_any zl b _ _ HS3.out.s2.hd (by omega) (by omega)).mono ?_)
                   rintro e w5 ⟨k, rfl, ⟨hk0, hk1⟩, c5, g5⟩
                   obtain ⟨k, rfl⟩ := Int.eq_ofNat_of_zero_le hk0
                   have hkl : k < zl := by omega
                   have hki : (k : Int) < (zl : Int) := by omega
                   have HS5 := Lib.hid (HS3.out.s2.draw c5 g5)
                   clear c5 g5 hk1)
                | (go_at_call 203
                   go_loud (refine (Bd.anyElem_any _ b _ _ HS5.out.hd (by omega) (by omega) (by omega)).mono ?_)
                   rintro e w7 ⟨z, rfl, hz, c7, g7⟩
                   have hs8 := (HS5.out.draw c7 g7).s2
                   have hc := hs8.hd.cell HZL.out.symm (show k < zs.length by rw [HZL.out]; exact hkl)
                   have hfr := hs8.hd.free HZL.out.symm k
                   have HP := Lib.hid (hs8.setI HZL.out.symm k z)
                   obtain ⟨old, hold⟩ : ∃ old, old = zs[k]'(by rw [HZL.out]; exact hkl) := ⟨_, rfl⟩
                   rw [← hold] at hc
                   clear c7 g7 hz hs8 hold))
              go_ret
              exact fin_vec HP.out (by omega) (by have := HZL.out; simp; omega)
          · go_wp2
            go_ret
            exact fin_vec HS3.out (by omega) (by have := HZL.out; omega)
      · clear x0 x1 x2 x3 HW HZ
        have HS10 := Lib.hid HS10.out.tl
        generalize w.heap.size = s at *
        have XF := Lib.hid fun W m (h : Sep W [CA N b m, BxA s #[.int .i64 c, .slice oa l oc] 74, KeepX w b]) => (bx h.s2.hd).2.1
        have X0 := Lib.hid (XF.out _ _ HS10.out.dr)
        have HC := Lib.hid (show Bd.Cur N w2.drew b _ from HS10.out.dr.hd)
        go_wp2_with fail
        go_region_held3 (fun w' => w'.cell? ⟨s, 1, none⟩ = some (.slice oa l oc))
          (first | with_reducible exact X0.out | with_reducible exact X3.out | with_reducible exact X4.out)
          (first
            | (go_at_call 175
               with_reducible refine (elems_any q l b _ _ HC.out (by omega) (by omega) (by omega) (by omega)).mono ?_
               rintro e w3 ⟨o1, zs, rfl, ho1, hz, hok, c1, g1⟩
               have HS3 := Lib.hid (HS10.out.dr.drawI c1 g1 ho1)
               have HZ := Lib.hid (show zs.length = l by omega)
               have X3 := Lib.hid (XF.out _ _ HS3.out.tl)
               have HZB := Lib.hid (show ∀ z ∈ zs, 0 ≤ z ∧ z < (q : Int) from fun z hz => by have := hok z hz; omega)
               have HO := Lib.hid ho1.read
               have HW := Lib.hid (show w.grownBy w3 (some b) from HS3.out.s4.hd)
               clear ho1 hz hok c1 g1)
            | (go_at_call 271
               with_reducible refine (spSum_any q c _ _ L zs _ (by omega) (by omega) (HM.out _ HW.out) HO.out HROK.out (by rw [HZ.out, HLEN.out]) HZB.out (by rw [HLEN.out]; omega) (by omega)).mono ?_
               rintro e w4 ⟨o2, rfl, ho2, g2⟩
               have HS9 := Lib.hid (HS3.out.tl.newI g2 ho2)
               have X4 := Lib.hid (XF.out _ _ HS9.out.tl)
               clear ho2 g2))
        have hcl := (combTo_ok (p := q) (x := zs) (by omega) HROK.out L.length (Nat.le_refl _)).1
        obtain ⟨oa1, oc1, hoe⟩ := own_shape HS9.out.hd
        clear HZ HZB HO HS3 HS10
        subst hoe
        generalize combTo q zs L c L.length = zs at *
        have HZ := Lib.hid hcl
        clear hcl
        go_wp2_with fail
        have hzc := HZ.out
        generalize hzl : zs.length = zl at *
        subst hzc
        have HZL := Lib.hid hzl
        clear hzl HZ
        refine (Bd.pick_any 24 b _ _ HS9.out.s2.hd (by omega) (by omega)).mono ?_
        rintro e w3 ⟨x, rfl, ⟨x0, x1⟩, c3, g3⟩
        have HS3 := Lib.hid (HS9.out.s2.draw c3 g3).s2
        clear c3 g3
        by_cases h0 : x = 0
        · subst h0
          go_wp2_with (
            at_builtin
            refine app_intS rfl _ _ rfl rfl rfl HS3.out (by have := HZL.out; omega) ?_
            intro g2 cap2 w8 hs8
            have HS8 := Lib.hid hs8
            clear hs8)
          go_ret
          exact fin_vec HS8.out (by omega) (by have := HZL.out; simp; omega)
        · by_cases h1 : x = 1
          · subst h1
            by_cases hz0 : zl = 0
            · subst hz0
              go_wp2
              go_ret
              exact fin_vec HS3.out (by omega) (by have := HZL.out; omega)
            · have hz1 : (0 : Int) < (zl : Int) := by omega
              obtain ⟨g, gc, hge, _, _, _⟩ := HS3.out.hd.parts (by intro h; have := HZL.out; rw [h] at this; simp at this; omega)
              rw [HZL.out] at hge
              cases hge
              go_wp2_with (first
                | (go_at_call 131
                   go_loud (refine (Bd.pick_any zl b _ _ HS3.out.s2.hd (by omega) (by omega)).mono ?_)
                   rintro e w5 ⟨k, rfl, ⟨hk0, hk1⟩, c5, g5⟩
                   obtain ⟨k, rfl⟩ := Int.eq_ofNat_of_zero_le hk0
                   have hkl : k < zl := by omega
                   have hki : (k : Int) < (zl : Int) := by omega
                   have HS5 := Lib.hid (HS3.out.s2.draw c5 g5)
                   clear c5 g5 hk1)
                | (go_at_call 203
                   go_loud (refine (Bd.anyElem_any _ b _ _ HS5.out.hd (by omega) (by omega) (by omega)).mono ?_)
                   rintro e w7 ⟨z, rfl, hz, c7, g7⟩
                   have hs8 := (HS5.out.draw c7 g7).s2
                   have hc := hs8.hd.cell HZL.out.symm (show k < zs.length by rw [HZL.out]; exact hkl)
                   have hfr := hs8.hd.free HZL.out.symm k
                   have HP := Lib.hid (hs8.setI HZL.out.symm k z)
                   obtain ⟨old, hold⟩ : ∃ old, old = zs[k]'(by rw [HZL.out]; exact hkl) := ⟨_, rfl⟩
                   rw [← hold] at hc
                   clear c7 g7 hz hs8 hold))
              go_ret
              exact fin_vec HP.out (by omega) (by have := HZL.out; simp; omega)
          · go_wp2
            go_ret
            exact fin_vec HS3.out (by omega) (by have := HZL.out; omega)
end Go.Proofs.YtpeaeminjbjlnaaDoor

/-
  The entries that draw spaces and vectors. Conditions: the code is well laid.
-/
namespace Go.Proofs.YtpeaeminjbjlnaaDoor
open Go.RowKit
set_option linter.unusedVariables false

theorem cur_low {w W : World} {cv : Value} (h : CodeAt w cv) (hg : w.grownBy W none) : Bd.Cur w.heap.size (W.alloc (.cells #[cv, .int .i64 0, .int .u64 0] 140)) W.heap.size 0 := by
  obtain ⟨a, len, cap, rfl, hl, hx⟩ := h
  refine ⟨by have := hg.size; simp; omega, a, len, cap, 0, 0, alloc_heap_new _ _, by omega, by omega, hl, fun k hk => ?_⟩
  obtain ⟨d, x, ha, hs', hsp, hc, x0, x1⟩ := hx k hk
  have hs := hg.size
  exact ⟨d, x, ha, fun e => by omega, hs', hsp, (World.cell?_of_block (w := w) (a := ⟨d.block, d.off + k, none⟩) ((alloc_heap_old _ _ _ (Nat.lt_of_lt_of_le hs' hs)).trans (hg.block _ hs' (by simp)))).trans hc, x0, x1⟩
theorem Sep.cur {w W : World} {cv : Value} {l : List Asrt} (h : Sep W l) (hc : CodeAt w cv) (hg : w.grownBy W none) (hl : ∀ C ∈ l, ∀ k, C.foot k → w.heap.size ≤ k) :
    Sep (W.alloc (.cells #[cv, .int .i64 0, .int .u64 0] 140)) (CA w.heap.size W.heap.size 0 :: l) := by
  refine ⟨cur_low hc hg, fun C hC => ⟨fun k hk hk' => ?_, fun k hk hk' => ?_⟩, h.al _⟩
  · have h1 : k = W.heap.size := hk
    have := C.lt _ _ (h.all C hC) hk'; omega
  · have h1 := hl C hC k hk
    have h2 := C.lt _ _ (h.all C hC) (C.sub k hk)
    rcases hk' with h3 | h3 <;> omega
theorem Sep.startD {w : World} {cv : Value} (hc : CodeAt w cv) : Sep (w.alloc (.cells #[cv, .int .i64 0, .int .u64 0] 140)) [CA w.heap.size w.heap.size 0, KeepA w] :=
  (Sep.start w).cur hc ⟨rfl, rfl, rfl, Nat.le_refl _, fun _ _ _ => rfl⟩ fun C hC k hk => by rw [List.mem_singleton] at hC; subst hC; exact hk.elim
theorem Sep.startDB {w : World} {cv : Value} (hc : CodeAt w cv) (cs : Array Value) (t : TypeId) : Sep ((w.alloc (.cells cs t)).alloc (.cells #[cv, .int .i64 0, .int .u64 0] 140)) [CA w.heap.size (w.heap.size + 1) 0, BxA w.heap.size cs t, KeepA w] := by
  have h := ((Sep.start w).box cs t).cur hc (grownBy_alloc w _ none) fun C hC k hk => by
    rcases List.mem_cons.1 hC with rfl | hC
    · have : k = w.heap.size := hk; omega
    · rw [List.mem_singleton] at hC; subst hC; exact hk.elim
  rw [show (w.alloc (.cells cs t)).heap.size = w.heap.size + 1 by simp] at h
  exact h

/-- a drawn number, space and vector -/
def DSV (w : World) (e : Ending) (w' : World) : Prop :=
  ∃ (p c : Int) (o : Value) (vs : List Value) (L : List (List Int)) (u : Value) (zs : List Int), e = .returned (.tuple #[.int .i64 p, mxV c o, u]) ∧ anyP p ∧ 0 ≤ c ∧ c ≤ 25 ∧ OwnM w.heap.size w' o vs L ∧ L.length ≤ 1000 ∧ (∀ row ∈ L, row.length ≤ 1000) ∧ OwnInts w.heap.size w' u zs ∧ zs.length ≤ 1000 ∧ w.grownBy w' none

set_option maxRecDepth 100000 in
set_option maxHeartbeats 1000000 in
theorem drawHasVector_any (cv : Value) (w : World) (hc : CodeAt w cv) : Calls Tryd.prog 194 #[cv] w (DSV w) := by
  have HS := Lib.hid (Sep.startDB hc #[.int .i64 0, .slice none 0 0] 74)
  have hs0 : (w.alloc (.cells #[.int .i64 0, .slice none 0 0] 74)).heap.size = w.heap.size + 1 := by simp
  obtain ⟨a0, len, cap, rfl, _, _⟩ := hc
  go_enter Tryd.func194, Tryd.ntmps194
  go_wp2_with fail
  generalize (w.alloc (.cells #[.int .i64 0, .slice none 0 0] 74)).alloc (.cells #[.slice a0 len cap, .int .i64 0, .int .u64 0] 140) = w0 at *
  generalize hN : w.heap.size = N at *
  refine (Bd.anyPrime_any _ _ _ HS.out.hd (by omega)).mono ?_
  rintro e w1 ⟨p, rfl, hp, c1, g1⟩
  have hpb := anyP_bd hp
  have HP := Lib.hid hp
  have HS1 := Lib.hid (HS.out.draw c1 g1)
  clear hp c1 g1
  go_wp2_with (first
    | (go_at_call 163
       go_loud (refine (size_any _ _ _ HS1.out.hd (by omega)).mono ?_)
       rintro e w2 ⟨sz, rfl, ⟨hz0, hz1⟩, c2, g2⟩
       obtain ⟨sz, rfl⟩ := Int.eq_ofNat_of_zero_le hz0
       have hsz : sz ≤ 24 := by omega
       have HS2 := Lib.hid (HS1.out.draw c2 g2)
       clear c2 g2 hz0 hz1)
    | (go_at_call 164
       go_loud (refine (anySpace_any p sz _ _ _ (by omega) (by omega) HS2.out.hd hsz (by omega)).mono ?_)
       rintro e w3 ⟨c, o, vs, L, rfl, hc0, hc1, ho, hl, hll, c3, g3⟩
       obtain ⟨c, rfl⟩ := Int.eq_ofNat_of_zero_le hc0
       obtain ⟨oa, oc, hoe, _, _⟩ := own_form ho
       subst hoe
       have HO := Lib.hid ho
       have HS3 := Lib.hid (HS2.out.drawM c3 g3 ho)
       have HL := Lib.hid hl; have HLL := Lib.hid hll
       have hcb : c ≤ 25 := by omega
       unfold mxV
       clear ho hl hll c3 g3 hc0 hc1))
  have HS4 := Lib.hid (HS3.out.box #[.int .i64 c, .slice oa L.length oc] 74)
  have HOW := Lib.hid (show OwnM w2.heap.size (w3.alloc (.cells #[.int .i64 c, .slice oa L.length oc] 74)).drew _ vs L from HS4.out.dr.s2.hd.rebase fun k hk => (HO.out.lt hk).1)
  have hbB : N + 1 < w2.heap.size := HS2.out.hd.lt
  clear HO
  have XF := Lib.hid fun W m (h : Sep W [BxA w3.heap.size #[.int .i64 c, .slice oa L.length oc] 74, OM (.slice oa L.length oc) vs L, CA N (N + 1) m, BxA N #[.int .i64 0, .slice none 0 0] 74, KeepA w]) => And.intro (bx h.hd).1 (bx h.hd).2.1
  generalize w3.heap.size = s at *
  generalize hw4 : w3.alloc (.cells #[.int .i64 c, .slice oa L.length oc] 74) = w4 at *
  clear hw4
  generalize hlen : L.length = l at *
  have HLEN := Lib.hid hlen
  clear hlen
  have X0 := Lib.hid (XF.out _ _ HS4.out.dr)
  have HC := Lib.hid (show Bd.Cur N w4.drew (N + 1) _ from HS4.out.dr.s3.hd)
  go_wp2_with fail
  go_region_held3 (fun w' => w'.cell? ⟨s, 0, none⟩ = some (.int .i64 c) ∧ w'.cell? ⟨s, 1, none⟩ = some (.slice oa l oc))
    (first | with_reducible exact X0.out | with_reducible exact X3.out | with_reducible exact X4.out)
    (first
      | (go_at_call 279
         go_loud (refine (vectorFor_any p c _ vs L (N + 1) _ _ _ (by omega) (by omega) HC.out HOW.out hbB (by omega) (by rw [HLEN.out]; exact HL.out) HLL.out (by omega)).mono ?_)
         rintro e w5 ⟨o5, zs, rfl, ho5, hz, c5, g5⟩
         have HS5 := Lib.hid (HS4.out.dr.s3.drawI c5 g5 ho5)
         have X3 := Lib.hid (XF.out _ _ (HS5.out.tl.s3.s3))
         obtain ⟨d2, d3, e2, e3⟩ := bx (HS5.out.s5.hd)
         have HS6 := Lib.hid (((HS5.out.s5).setB 0 (.int .i64 c)).setB 1 (.slice oa l oc))
         have X4 := Lib.hid (And.intro (bx HS6.out.s4.hd).1 (bx HS6.out.s4.hd).2.1)
         have HZ := Lib.hid hz
         clear ho5 hz c5 g5))
  go_wp2_with fail
  obtain ⟨d4, d5, e4, e5⟩ := bx HS6.out.hd
  generalize (w5.setCell ⟨N, 0, none⟩ (.int .i64 c)).setCell ⟨N, 1, none⟩ (.slice oa l oc) = w6 at *
  refine bodyPost_ret_by (v := .tuple #[.int .i64 p, .agg #[.int .i64 c, .slice oa l oc], o5]) ?_ rfl ?_
  · simp [results, go_sem, *]
  · have h2 := HS6.out.tl.drop2.drop2.drop2
    have h3 := HS6.out.tl.s4.drop2.drop2.drop2
    exact ⟨p, c, _, vs, L, _, zs, rfl, HP.out, by omega, by omega, h3.mat, by rw [HLEN.out]; exact HL.out, HLL.out, h2.ints, HZ.out, h2.tl.hd⟩
end Go.Proofs.YtpeaeminjbjlnaaDoor

/-
  The entry that draws two spaces. Conditions: the code is well laid.
-/
namespace Go.Proofs.YtpeaeminjbjlnaaDoor
open Go.RowKit
set_option linter.unusedVariables false

theorem Sep.startD2 {w : World} {cv : Value} (hc : CodeAt w cv) (cs ds : Array Value) (t t' : TypeId) : Sep (((w.alloc (.cells cs t)).alloc (.cells ds t')).alloc (.cells #[cv, .int .i64 0, .int .u64 0] 140)) [CA w.heap.size (w.heap.size + 1 + 1) 0, BxA (w.heap.size + 1) ds t', BxA w.heap.size cs t, KeepA w] := by
  have h := (((Sep.start w).box cs t).box ds t').cur hc ((grownBy_alloc w _ none).trans (grownBy_alloc _ _ none)) fun C hC k hk => by
    rcases List.mem_cons.1 hC with rfl | hC
    · have : k = (w.alloc (.cells cs t)).heap.size := hk; rw [show (w.alloc (.cells cs t)).heap.size = w.heap.size + 1 by simp] at this; omega
    · rcases List.mem_cons.1 hC with rfl | hC
      · have : k = w.heap.size := hk; omega
      · rw [List.mem_singleton] at hC; subst hC; exact hk.elim
  simp only [show ∀ (W : World) o, (W.alloc o).heap.size = W.heap.size + 1 from fun W o => by simp] at h
  exact h

theorem Sep.s6 {w : World} {A C D E F G : Asrt} {l : List Asrt} (h : Sep w (A :: C :: D :: E :: F :: G :: l)) : Sep w (G :: A :: C :: D :: E :: F :: l) := (h.under Sep.s5 (by simp +contextual)).s2
theorem Sep.s7 {w : World} {A C D E F G H : Asrt} {l : List Asrt} (h : Sep w (A :: C :: D :: E :: F :: G :: H :: l)) : Sep w (H :: A :: C :: D :: E :: F :: G :: l) := (h.under Sep.s6 (by simp +contextual)).s2
/-- a drawn number and two spaces -/
def DSum (w : World) (e : Ending) (w' : World) : Prop :=
  ∃ (p c d : Int) (o : Value) (vs : List Value) (L : List (List Int)) (u : Value) (us : List Value) (M : List (List Int)), e = .returned (.tuple #[.int .i64 p, mxV c o, mxV d u]) ∧ anyP p ∧ 0 ≤ c ∧ c ≤ 25 ∧ 0 ≤ d ∧ d ≤ 25 ∧ OwnM w.heap.size w' o vs L ∧ L.length ≤ 1000 ∧ (∀ row ∈ L, row.length ≤ 1000) ∧ OwnM w.heap.size w' u us M ∧ M.length ≤ 1000 ∧ (∀ row ∈ M, row.length ≤ 1000) ∧ w.grownBy w' none

set_option maxRecDepth 100000 in
set_option maxHeartbeats 2000000 in
theorem drawSumOf_any (cv : Value) (w : World) (hc : CodeAt w cv) : Calls Tryd.prog 50 #[cv] w (DSum w) := by
  have HS := Lib.hid (Sep.startD2 hc #[.int .i64 0, .slice none 0 0] #[.int .i64 0, .slice none 0 0] 74 74)
  have hs0 : ((w.alloc (.cells #[.int .i64 0, .slice none 0 0] 74)).alloc (.cells #[.int .i64 0, .slice none 0 0] 74)).heap.size = w.heap.size + 1 + 1 := by simp
  have hs00 : (w.alloc (.cells #[.int .i64 0, .slice none 0 0] 74)).heap.size = w.heap.size + 1 := by simp
  obtain ⟨a0, len, cap, rfl, _, _⟩ := hc
  go_enter Tryd.func50, Tryd.ntmps50
  go_wp2_with fail
  generalize ((w.alloc (.cells #[.int .i64 0, .slice none 0 0] 74)).alloc (.cells #[.int .i64 0, .slice none 0 0] 74)).alloc (.cells #[.slice a0 len cap, .int .i64 0, .int .u64 0] 140) = w0 at *
  generalize hN : w.heap.size = N at *
  refine (Bd.anyPrime_any _ _ _ HS.out.hd (by omega)).mono ?_
  rintro e w1 ⟨p, rfl, hp, c1, g1⟩
  have hpb := anyP_bd hp
  have HP := Lib.hid hp
  have HS1 := Lib.hid (HS.out.draw c1 g1)
  clear hp c1 g1
  go_wp2_with (first
    | (go_at_call 163
       go_loud (refine (size_any _ _ _ HS1.out.hd (by omega)).mono ?_)
       rintro e w2 ⟨sz, rfl, ⟨hz0, hz1⟩, c2, g2⟩
       obtain ⟨sz, rfl⟩ := Int.eq_ofNat_of_zero_le hz0
       have hsz : sz ≤ 24 := by omega
       have HS2 := Lib.hid (HS1.out.draw c2 g2)
       clear c2 g2 hz0 hz1)
    | (go_at_call 164
       go_loud (refine (anySpace_any p sz _ _ _ (by omega) (by omega) HS2.out.hd hsz (by omega)).mono ?_)
       rintro e w3 ⟨c, o, vs, L, rfl, hc0, hc1, ho, hl, hll, c3, g3⟩
       obtain ⟨c, rfl⟩ := Int.eq_ofNat_of_zero_le hc0
       obtain ⟨oa, oc, hoe, _, _⟩ := own_form ho
       subst hoe
       have HS3 := Lib.hid (HS2.out.drawM c3 g3 ho)
       have HL := Lib.hid hl; have HLL := Lib.hid hll
       have hcb : c ≤ 25 := by omega
       unfold mxV
       clear ho hl hll c3 g3 hc0 hc1))
  have HS4 := Lib.hid (HS3.out.box #[.int .i64 c, .slice oa L.length oc] 74)
  have XF := Lib.hid fun W m (h : Sep W [CA N (N + 1 + 1) m, BxA w3.heap.size #[.int .i64 c, .slice oa L.length oc] 74, OM (.slice oa L.length oc) vs L, BxA (N + 1) #[.int .i64 0, .slice none 0 0] 74, BxA N #[.int .i64 0, .slice none 0 0] 74, KeepA w]) => And.intro (bx h.s2.hd).1 (bx h.s2.hd).2.1
  generalize w3.heap.size = s at *
  generalize hw4 : w3.alloc (.cells #[.int .i64 c, .slice oa L.length oc] 74) = w4 at *
  clear hw4
  generalize hlen : L.length = l at *
  have HLEN := Lib.hid hlen
  clear hlen
  have HS5 := Lib.hid HS4.out.s3
  clear HS4
  refine (Bd.one_any 16 _ _ _ HS5.out.hd (by omega) (by omega)).mono ?_
  rintro e w5 ⟨bv, rfl, c5, g5⟩
  have HS6 := Lib.hid (HS5.out.draw c5 g5)
  clear c5 g5
  cases bv
  · have HS7 := Lib.hid HS6.out
    have HD := Lib.hid HS7.out.dr
    have X0 := Lib.hid (XF.out _ _ HD.out)
    go_wp2_with fail
    go_region_held3 (fun w' => w'.cell? ⟨s, 0, none⟩ = some (.int .i64 c) ∧ w'.cell? ⟨s, 1, none⟩ = some (.slice oa l oc))
      (first | with_reducible exact X0.out | with_reducible exact X3.out | with_reducible exact X4.out | with_reducible exact X5.out)
      (first
        | (go_at_call 164
           go_loud (refine (anySpace_any p sz _ _ _ (by omega) (by omega) HD.out.hd (by omega) (by omega)).mono ?_)
           rintro e w8 ⟨d, o5, us, M, rfl, hd0, hd1, ho5, hl5, hll5, c8, g8⟩
           obtain ⟨oa5, oc5, hoe5, _, _⟩ := own_form ho5
           subst hoe5
           have HS8 := Lib.hid (HD.out.drawM c8 g8 ho5)
           have X3 := Lib.hid (And.intro (bx HS8.out.s3.hd).1 (bx HS8.out.s3.hd).2.1)
           obtain ⟨k0, k1, k2, k3⟩ := bx HS8.out.s6.hd
           obtain ⟨n0, n1, n2, n3⟩ := bx HS8.out.s5.hd
           have HS9 := Lib.hid ((HS8.out.s6.setB 0 (.int .i64 c)).setB 1 (.slice oa l oc))
           have X4 := Lib.hid (And.intro (bx HS9.out.s4.hd).1 (bx HS9.out.s4.hd).2.1)
           obtain ⟨m0, m1, m2, m3⟩ := bx HS9.out.s6.hd
           have HS10 := Lib.hid ((HS9.out.s6.setB 0 (.int .i64 d)).setB 1 (.slice oa5 M.length oc5))
           have X5 := Lib.hid (And.intro (bx HS10.out.s5.hd).1 (bx HS10.out.s5.hd).2.1)
           have HM5 := Lib.hid hl5; have HMM5 := Lib.hid hll5
           try unfold mxV
           clear ho5 hl5 hll5 c8 g8))
    go_wp2_with fail
    obtain ⟨v0, v1, v2, v3⟩ := bx HS10.out.hd
    obtain ⟨v4, v5, v6, v7⟩ := bx HS10.out.s2.hd
    have HF := Lib.hid (And.intro HS10.out.tl.tl.drop2.drop2.drop2.mat (And.intro (HS10.out.tl.tl.tl.tl.tl.mat) (show w.grownBy _ none from HS10.out.tl.tl.tl.tl.tl.tl.hd)))
    generalize (((w8.setCell ⟨N, 0, none⟩ (.int .i64 c)).setCell ⟨N, 1, none⟩ (.slice oa l oc)).setCell ⟨N + 1, 0, none⟩ (.int .i64 d)).setCell ⟨N + 1, 1, none⟩ (.slice oa5 M.length oc5) = w11 at *
    generalize hml : M.length = ml at *
    have HML := Lib.hid hml
    clear hml
    refine bodyPost_ret_by (v := .tuple #[.int .i64 p, .agg #[.int .i64 c, .slice oa l oc], .agg #[.int .i64 d, .slice oa5 ml oc5]]) ?_ rfl ?_
    · simp [results, go_sem, *]
    · exact ⟨p, c, d, _, vs, L, _, us, M, rfl, HP.out, by omega, by omega, hd0, by omega, HF.out.2.1, by rw [HLEN.out]; exact HL.out, HLL.out, HF.out.1, by rw [HML.out]; exact HM5.out, HMM5.out, HF.out.2.2⟩
  · go_wp2_with (
      go_at_call 163
      go_loud (refine (size_any _ _ _ HS6.out.hd (by omega)).mono ?_)
      rintro e w6 ⟨sy, rfl, ⟨hz0, hz1⟩, c2, g2⟩
      obtain ⟨sy, rfl⟩ := Int.eq_ofNat_of_zero_le hz0
      have hsy : sy ≤ 24 := by omega
      have HS7 := Lib.hid (HS6.out.draw c2 g2)
      clear c2 g2 hz0 hz1)
    have HD := Lib.hid HS7.out.dr
    have X0 := Lib.hid (XF.out _ _ HD.out)
    go_wp2_with fail
    go_region_held3 (fun w' => w'.cell? ⟨s, 0, none⟩ = some (.int .i64 c) ∧ w'.cell? ⟨s, 1, none⟩ = some (.slice oa l oc))
      (first | with_reducible exact X0.out | with_reducible exact X3.out | with_reducible exact X4.out | with_reducible exact X5.out)
      (first
        | (go_at_call 164
           go_loud (refine (anySpace_any p sy _ _ _ (by omega) (by omega) HD.out.hd (by omega) (by omega)).mono ?_)
           rintro e w8 ⟨d, o5, us, M, rfl, hd0, hd1, ho5, hl5, hll5, c8, g8⟩
           obtain ⟨oa5, oc5, hoe5, _, _⟩ := own_form ho5
           subst hoe5
           have HS8 := Lib.hid (HD.out.drawM c8 g8 ho5)
           have X3 := Lib.hid (And.intro (bx HS8.out.s3.hd).1 (bx HS8.out.s3.hd).2.1)
           obtain ⟨k0, k1, k2, k3⟩ := bx HS8.out.s6.hd
           obtain ⟨n0, n1, n2, n3⟩ := bx HS8.out.s5.hd
           have HS9 := Lib.hid ((HS8.out.s6.setB 0 (.int .i64 c)).setB 1 (.slice oa l oc))
           have X4 := Lib.hid (And.intro (bx HS9.out.s4.hd).1 (bx HS9.out.s4.hd).2.1)
           obtain ⟨m0, m1, m2, m3⟩ := bx HS9.out.s6.hd
           have HS10 := Lib.hid ((HS9.out.s6.setB 0 (.int .i64 d)).setB 1 (.slice oa5 M.length oc5))
           have X5 := Lib.hid (And.intro (bx HS10.out.s5.hd).1 (bx HS10.out.s5.hd).2.1)
           have HM5 := Lib.hid hl5; have HMM5 := Lib.hid hll5
           try unfold mxV
           clear ho5 hl5 hll5 c8 g8))
    go_wp2_with fail
    obtain ⟨v0, v1, v2, v3⟩ := bx HS10.out.hd
    obtain ⟨v4, v5, v6, v7⟩ := bx HS10.out.s2.hd
    have HF := Lib.hid (And.intro HS10.out.tl.tl.drop2.drop2.drop2.mat (And.intro (HS10.out.tl.tl.tl.tl.tl.mat) (show w.grownBy _ none from HS10.out.tl.tl.tl.tl.tl.tl.hd)))
    generalize (((w8.setCell ⟨N, 0, none⟩ (.int .i64 c)).setCell ⟨N, 1, none⟩ (.slice oa l oc)).setCell ⟨N + 1, 0, none⟩ (.int .i64 d)).setCell ⟨N + 1, 1, none⟩ (.slice oa5 M.length oc5) = w11 at *
    generalize hml : M.length = ml at *
    have HML := Lib.hid hml
    clear hml
    refine bodyPost_ret_by (v := .tuple #[.int .i64 p, .agg #[.int .i64 c, .slice oa l oc], .agg #[.int .i64 d, .slice oa5 ml oc5]]) ?_ rfl ?_
    · simp [results, go_sem, *]
    · exact ⟨p, c, d, _, vs, L, _, us, M, rfl, HP.out, by omega, by omega, hd0, by omega, HF.out.2.1, by rw [HLEN.out]; exact HL.out, HLL.out, HF.out.1, by rw [HML.out]; exact HM5.out, HMM5.out, HF.out.2.2⟩
end Go.Proofs.YtpeaeminjbjlnaaDoor

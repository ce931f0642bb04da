/-
  Rows of the call's own: a multiple added in place; new rows. Conditions: the elements are small.
-/
import Derived.Test.YtghfifpicklonaaDoorYu02
namespace Go.Proofs.YtghfifpicklonaaDoor
open Go.RowKit
set_option linter.unusedVariables false

theorem addT_getD {p k : Int} {x y : List Int} (hl : x.length = y.length) {j : Nat} (hj : j < x.length) : (addT p x k y).getD j 0 = (x.getD j 0 + k * y.getD j 0) % p := by
  unfold addT
  simp only [List.getD_eq_getElem?_getD]
  rw [List.getElem?_zipWith, List.getElem?_eq_getElem hj, List.getElem?_eq_getElem (show j < y.length by omega)]
  simp
theorem getD_set_self {zs : List Int} {j : Nat} (hj : j < zs.length) (x : Int) : (zs.set j x).getD j 0 = x := by
  rw [List.getD_eq_getElem?_getD, List.getElem?_set_self hj]; rfl
theorem getD_set_ne {zs : List Int} {i j : Nat} (h : i ≠ j) (x : Int) : (zs.set i x).getD j 0 = zs.getD j 0 := by
  rw [List.getD_eq_getElem?_getD, List.getElem?_set_ne h, ← List.getD_eq_getElem?_getD]
theorem list_ext_getD {x y : List Int} (hl : x.length = y.length) (h : ∀ j, j < x.length → x.getD j 0 = y.getD j 0) : x = y := by
  refine List.ext_getElem hl fun j h1 h2 => ?_
  have := h j h1
  simpa [List.getD_eq_getElem?_getD, h1, h2] using this
theorem getD_ltL {x : List Int} {j : Nat} (h : j < x.length) : x.getD j 0 = x[j] := by simp [List.getD_eq_getElem?_getD, h]
theorem mul_bd2 {a b A B : Int} (ha : -A ≤ a ∧ a ≤ A) (hb : 0 ≤ b ∧ b ≤ B) (hA : 0 ≤ A) (hB : 0 ≤ B) : -(A * B) ≤ a * b ∧ a * b ≤ A * B := by
  have h1 : a * b ≤ A * b := Int.mul_le_mul_of_nonneg_right ha.2 hb.1
  have h2 : A * b ≤ A * B := Int.mul_le_mul_of_nonneg_left hb.2 hA
  have h3 : -A * b ≤ a * b := Int.mul_le_mul_of_nonneg_right ha.1 hb.1
  rw [Int.neg_mul] at h3
  omega
theorem addTimes_any (p by' : Int) (v u : Value) (x y : List Int) (B : Nat) (w : World) (hv : OwnInts B w v x) (hu : IntsV w u y) (hap : x ≠ [] → ∀ k, Hits v k → Value.blk' u ≠ some k) (hl : x.length = y.length) (hlm : x.length ≤ 1000000)
    (hp : 2 ≤ p) (hp2 : p ≤ 1000) (hb0 : -1000 ≤ by') (hb1 : by' ≤ 1000) (hx : ∀ z ∈ x, 0 ≤ z ∧ z ≤ 1000) (hy : ∀ z ∈ y, 0 ≤ z ∧ z ≤ 1000) :
    Calls Tryd.prog 131 #[.int .i64 p, v, .int .i64 by', u] w fun e w' => e = .returned (.tuple #[]) ∧ OwnInts B w' v (addT p x by' y) ∧ Only (Hits v) w w' := by
  have HX := Lib.hid hx; have HY := Lib.hid hy; have HU := Lib.hid hu; have HV := Lib.hid hv; have HAP := Lib.hid hap; have HL := Lib.hid hl
  obtain ⟨ua, ucap, rfl, ui⟩ := hu
  clear ui hv hx hy hap
  rw [← hl]
  generalize hlen : x.length = l at *
  have HLX := Lib.hid hlen
  clear hlen hl
  go_enter Tryd.func131, Tryd.ntmps131
  go_wp2
  go_loopw [12] (fun i wr => ∃ (k : Nat) (zs : List Int), k ≤ l ∧ i = .int .i64 k ∧ zs.length = x.length ∧ (∀ j, j < k → zs.getD j 0 = (x.getD j 0 + by' * y.getD j 0) % p) ∧ (∀ j, k ≤ j → zs.getD j 0 = x.getD j 0) ∧ OwnInts B wr v zs ∧ Only (Hits v) w wr) (fun i _ => l - (intOf i).toNat)
  case atStart => exact ⟨0, x, by omega, rfl, rfl, fun _ h => absurd h (by omega), fun _ _ => rfl, HV.out, Only.refl _ _⟩
  case round =>
    obtain ⟨k, zs, hk, rfl, hz, h1, h2, ho, hon⟩ := hrel
    have HZ := Lib.hid hz; have H1 := Lib.hid h1; have H2 := Lib.hid h2; have HO := Lib.hid ho; have HON := Lib.hid hon
    clear hz h1 h2 ho hon
    by_cases hlt : k < l
    · have hkx : k < x.length := by rw [HLX.out]; exact hlt
      have hky : k < y.length := by rw [← HL.out]; exact hlt
      have hkz : k < zs.length := by rw [HZ.out]; exact hkx
      have hu' := (HU.out.only HON.out fun g hg hh => HAP.out (by intro h; rw [h] at hkx; simp at hkx) g hh hg).at hky
      obtain ⟨d, rfl, hs, hd, hc⟩ := hu'
      obtain ⟨db, dof, _⟩ := d
      simp only at hs hc
      subst hs
      obtain ⟨g, cap, hve, hg0, hg1, hhit⟩ := HO.out.parts (by intro h; rw [h] at hkz; simp at hkz)
      have hzl : zs.length = l := by rw [HZ.out, HLX.out]
      rw [hzl] at hve
      subst hve
      have hcell := HO.out.cell hzl.symm hkz
      have hfree := HO.out.free hzl.symm k
      have hput := fun n => HO.out.put hzl.symm k n
      have HP := Lib.hid hput
      have e1 : zs[k] = x.getD k 0 := by rw [← getD_ltL hkz]; exact H2.out k (Nat.le_refl _)
      have e2 : y[k] = y.getD k 0 := (getD_ltL hky).symm
      have b1 := HX.out _ (List.getElem_mem hkx)
      rw [← getD_ltL hkx] at b1
      have b2 := HY.out _ (List.getElem_mem hky)
      rw [e2] at b2 hc
      rw [e1] at hcell
      clear hput e1 e2 hd hg0 hg1 hhit
      generalize hxk : x.getD k 0 = xk at *
      generalize hyk : y.getD k 0 = yk at *
      have HXK := Lib.hid hxk; have HYK := Lib.hid hyk; have HZL := Lib.hid hzl
      clear hxk hyk hzl hkx hky hkz
      have b3 := mul_bd2 (A := 1000) (B := 1000) ⟨hb0, hb1⟩ b2 (by omega) (by omega)
      go_wp2_with (go_at_call 151; refine (mod_all p (xk + by' * yk) (by omega) hp2 (by omega) (by omega) _).mono ?_; rintro e w' ⟨rfl, rfl⟩)
      go_roundw
      case rel =>
        have hkz : k < zs.length := by rw [HZL.out]; exact hlt
        refine ⟨k + 1, zs.set k ((xk + by' * yk) % p), by omega, by go_num, by rw [List.length_set]; exact HZ.out, fun j hj => ?_, fun j hj => ?_, (HP.out _).1, HON.out.trans ((HP.out _).2.mono fun g hg => by rw [hg]; rfl)⟩
        · by_cases hjk : k = j
          · subst hjk
            rw [getD_set_self hkz, HXK.out, HYK.out]
          · rw [getD_set_ne hjk]
            exact H1.out j (by omega)
        · rw [getD_set_ne (by omega)]
          exact H2.out j (by omega)
      case measure => simp [intOf]; omega
    · have hfin : zs = addT p x by' y := by
        refine list_ext_getD (by rw [HZ.out]; have h1 := HL.out; have h2 := HLX.out; simp [addT]; omega) fun j hj => ?_
        have hjx : j < x.length := by rw [← HZ.out]; exact hj
        rw [addT_getD (HLX.out.trans HL.out) hjx]
        exact H1.out j (by have := HLX.out; omega)
      have HF := Lib.hid hfin
      clear hfin
      go_wp2
      go_end0
      exact ⟨rfl, by rw [← HF.out]; exact HO.out, HON.out⟩
end Go.Proofs.YtghfifpicklonaaDoor

/-
  New rows and new lists of rows: copies, zeros, units, appended rows. Conditions: lengths are small.
-/
namespace Go.Proofs.YtghfifpicklonaaDoor
open Go.RowKit
set_option linter.unusedVariables false

theorem clone_any (u : Value) (ys : List Int) (w : World) (hu : IntsV w u ys) (hl : ys.length ≤ 1000000) :
    Calls Tryd.prog 126 #[u] w fun e w' => ∃ v, e = .returned v ∧ OwnInts w.heap.size w' v ys ∧ w.grownBy w' none := by
  have HU := Lib.hid hu
  obtain ⟨ua, ucap, rfl, hx⟩ := hu
  clear hx
  go_enter Tryd.func126, Tryd.ntmps126
  go_wp2_with (at_builtin; go_loud (refine app_ints rfl _ _ rfl rfl rfl (HU.out.carry (grownBy_alloc _ _ _)) (OwnInts.empty (Nat.le_refl _) rfl) (by simp) (by simp; omega) ?_); intro v' w1 hown' hbel')
  have H1 := Lib.hid hown'; have H2 := Lib.hid hbel'
  clear hown' hbel'
  go_wp2
  go_ret
  exact ⟨v', rfl, by have := H1.out; simpa using this, grown_of_below (((Below.refl _ _).alloc (Nat.le_refl _) _).trans H2.out)⟩
theorem unit_any (n i : Nat) (w : World) (hl : n ≤ 1000000) (hi : i < n) :
    Calls Tryd.prog 127 #[.int .i64 n, .int .i64 i] w fun e w' => ∃ v, e = .returned v ∧ OwnInts w.heap.size w' v (unitL n i) ∧ w.grownBy w' none := by
  go_enter Tryd.func127, Tryd.ntmps127
  have hlen : (List.replicate n (0 : Int)).length = n := List.length_replicate
  have HLEN := Lib.hid hlen
  clear hlen
  go_wp2_with (
    go_at_call 130
    refine (zeros_any n w hl).mono ?_
    rintro e w1 ⟨v, rfl, hv, hg⟩
    have HG := Lib.hid hg
    obtain ⟨g, cap, hve, hg0, hg1, hhit⟩ := hv.parts (by intro h; have := HLEN.out; rw [h] at this; simp at this; omega)
    rw [HLEN.out] at hve
    subst hve
    have hcell := hv.cell HLEN.out.symm (j := i) (by rw [HLEN.out]; exact hi)
    have hfree := hv.free HLEN.out.symm i
    have HP := Lib.hid (hv.put HLEN.out.symm i 1)
    have HV := Lib.hid hv
    rw [List.getElem_replicate] at hcell
    clear hv hg hg0 hg1 hhit)
  go_ret
  exact ⟨_, rfl, HP.out.1, Only.grown ((Only.of_grown (S := fun k => w.heap.size ≤ k) HG.out (by simp)).trans (HP.out.2.mono fun k hk => by rw [hk]; exact (HV.out.lt _ rfl).1) |> fun h => ⟨h.os, h.tape, h.output, h.size, fun k hk _ => h.block k hk (by simp; omega)⟩)⟩
end Go.Proofs.YtghfifpicklonaaDoor

/-
  Lists of rows that are the call's own: the list's cells and the rows, no two in one block. Copies of lists of rows, and units. Conditions: lengths are small.
-/
namespace Go.Proofs.YtghfifpicklonaaDoor
open Go.RowKit
set_option linter.unusedVariables false

/-- The list v of the rows vs, holding L. -/
structure OwnM (B : Nat) (w : World) (v : Value) (vs : List Value) (L : List (List Int)) : Prop where
  len : vs.length = L.length
  out : w.ownsRow B 27 1 v vs.length vs
  row : ∀ i, OwnInts B w (vs.getD i nilS) (L.getD i [])
  ap : ∀ i j, i ≠ j → Apart (vs.getD i nilS) (vs.getD j nilS)
/-- The blocks that a list of rows takes. -/
def Foot (v : Value) (vs : List Value) (k : Nat) : Prop := Hits v k ∨ ∃ x ∈ vs, Hits x k
theorem Foot.at {v : Value} {vs : List Value} {i k : Nat} (h : Hits (vs.getD i nilS) k) : Foot v vs k := by
  rcases Nat.lt_or_ge i vs.length with hi | hi
  · rw [List.getD_eq_getElem?_getD, List.getElem?_eq_getElem hi] at h
    exact Or.inr ⟨_, List.getElem_mem hi, h⟩
  · rw [List.getD_eq_getElem?_getD, List.getElem?_eq_none hi] at h
    exact absurd h nil_hits
theorem own_block {B : Nat} {w : World} {e : TypeId} {n : Nat} {v : Value} {xs : List Value} (h : w.ownsRow B e 1 v n xs) {k : Nat} (hk : Hits v k) : ∃ cur, w.heap[k]? = some (.cells cur e (0, 0)) := by
  rcases h.2 with ⟨rfl, _⟩ | ⟨g, cap, cur, rfl, _, hh, _⟩
  · exact absurd hk nil_hits
  · simp only [Hits, Value.ownBlock, Option.some.injEq] at hk
    subst hk
    exact ⟨cur, hh⟩
/-- Rows and lists of rows never share a block: their elements' types differ. -/
theorem apart_types {B B' : Nat} {w : World} {e e' : TypeId} {n n' : Nat} {v v' : Value} {xs xs' : List Value} (h : w.ownsRow B e 1 v n xs) (h' : w.ownsRow B' e' 1 v' n' xs') (hne : e ≠ e') : Apart v v' := by
  intro k hk hk'
  obtain ⟨c1, e1⟩ := own_block h hk
  obtain ⟨c2, e2⟩ := own_block h' hk'
  rw [e1] at e2
  simp only [Option.some.injEq, Obj.cells.injEq] at e2
  exact hne e2.2.1
theorem OwnM.lt {B : Nat} {w : World} {v : Value} {vs : List Value} {L : List (List Int)} (h : OwnM B w v vs L) {k : Nat} (hk : Foot v vs k) : B ≤ k ∧ k < w.heap.size := by
  rcases hk with hk | ⟨x, hx, hk⟩
  · exact World.ownsRow.lt h.out k hk
  · obtain ⟨i, hi, rfl⟩ := List.getElem_of_mem hx
    have := h.row i
    rw [List.getD_eq_getElem?_getD, List.getElem?_eq_getElem hi] at this
    exact this.lt k hk
theorem owns_only {B : Nat} {w w' : World} {e : TypeId} {n : Nat} {v : Value} {xs : List Value} {S : Nat → Prop} (h : w.ownsRow B e 1 v n xs) (ho : Only S w w') (hs : ∀ k, Hits v k → ¬ S k) : w'.ownsRow B e 1 v n xs := by
  obtain ⟨h1, h2⟩ := h
  refine ⟨h1, ?_⟩
  rcases h2 with h2 | ⟨g, cap, cur, hv, hg, hh, r⟩
  · exact Or.inl h2
  · have hlt : g < w.heap.size := by
      rcases Nat.lt_or_ge g w.heap.size with h | h
      · exact h
      · rw [Array.getElem?_eq_none h] at hh; cases hh
    exact Or.inr ⟨g, cap, cur, hv, hg, (ho.block g hlt (hs g (by rw [hv]; rfl))).trans hh, r⟩
theorem OwnM.only {B : Nat} {S : Nat → Prop} {w w' : World} {v : Value} {vs : List Value} {L : List (List Int)} (h : OwnM B w v vs L) (ho : Only S w w') (hs : ∀ k, Foot v vs k → ¬ S k) : OwnM B w' v vs L :=
  ⟨h.len, owns_only h.out ho fun k hk => hs k (Or.inl hk), fun i => (h.row i).only ho fun k hk => hs k (Foot.at hk), h.ap⟩
theorem OwnM.carry {B : Nat} {w w' : World} {v : Value} {vs : List Value} {L : List (List Int)} (h : OwnM B w v vs L) (hg : w.grownBy w' none) : OwnM B w' v vs L :=
  h.only (Only.of_grown (S := fun _ => False) hg (by simp)) fun _ _ hf => hf
theorem OwnM.base {B B' : Nat} {w : World} {v : Value} {vs : List Value} {L : List (List Int)} (h : OwnM B w v vs L) (hB : B' ≤ B) : OwnM B' w v vs L := by
  refine ⟨h.len, ?_, fun i => (h.row i).base hB, h.ap⟩
  obtain ⟨h1, h2⟩ := h.out
  refine ⟨h1, ?_⟩
  rcases h2 with h2 | ⟨g, cap, cur, hv, hg, r⟩
  · exact Or.inl h2
  · exact Or.inr ⟨g, cap, cur, hv, Nat.le_trans hB hg, r⟩
theorem OwnM.start {B : Nat} {w : World} {v : Value} (h : w.ownsRow B 27 1 v 0 []) : OwnM B w v [] [] :=
  ⟨rfl, h, fun i => by simp only [List.getD_nil]; exact OwnInts.nil B w, fun i j _ k hk => absurd hk (by simp only [List.getD_nil]; exact nil_hits)⟩
/-- a fresh row joins -/
theorem OwnM.join {B : Nat} {w : World} {v' u : Value} {vs : List Value} {L : List (List Int)} {zs : List Int} (hl : vs.length = L.length) (hrow : ∀ i, OwnInts B w (vs.getD i nilS) (L.getD i []))
    (hap : ∀ i j, i ≠ j → Apart (vs.getD i nilS) (vs.getD j nilS)) (hu : OwnInts B w u zs) (hua : ∀ i, Apart (vs.getD i nilS) u) (hv : w.ownsRow B 27 1 v' (vs ++ [u]).length (vs ++ [u])) : OwnM B w v' (vs ++ [u]) (L ++ [zs]) := by
  have g1 : ∀ i, (vs ++ [u]).getD i nilS = if i < vs.length then vs.getD i nilS else if i = vs.length then u else nilS := by
    intro i
    simp only [List.getD_eq_getElem?_getD, List.getElem?_append]
    split
    · rfl
    · next h1 =>
      split
      · next h2 => subst h2; simp
      · next h2 => rw [List.getElem?_eq_none (by simp; omega)]; rfl
  have g2 : ∀ i, (L ++ [zs]).getD i [] = if i < vs.length then L.getD i [] else if i = vs.length then zs else [] := by
    intro i
    rw [hl]
    simp only [List.getD_eq_getElem?_getD, List.getElem?_append]
    split
    · rfl
    · next h1 =>
      split
      · next h2 => subst h2; simp
      · next h2 => rw [List.getElem?_eq_none (by simp; omega)]; rfl
  refine ⟨by simp [hl], hv, fun i => ?_, fun i j hij => ?_⟩
  · rw [g1, g2]
    by_cases h1 : i < vs.length
    · rw [if_pos h1, if_pos h1]; exact hrow i
    · rw [if_neg h1, if_neg h1]
      by_cases h2 : i = vs.length
      · rw [if_pos h2, if_pos h2]; exact hu
      · rw [if_neg h2, if_neg h2]; exact OwnInts.nil B w
  · rw [g1, g1]
    by_cases h1 : i < vs.length
    · rw [if_pos h1]
      by_cases h3 : j < vs.length
      · rw [if_pos h3]; exact hap i j hij
      · rw [if_neg h3]
        by_cases h4 : j = vs.length
        · rw [if_pos h4]; exact hua i
        · rw [if_neg h4]; exact fun k _ h => nil_hits h
    · rw [if_neg h1]
      by_cases h2 : i = vs.length
      · rw [if_pos h2]
        by_cases h3 : j < vs.length
        · rw [if_pos h3]; exact (hua j).symm
        · rw [if_neg h3, if_neg (by omega)]; exact fun k _ h => nil_hits h
      · rw [if_neg h2]; exact fun k h => absurd h nil_hits
theorem OwnM.read {B : Nat} {w : World} {v : Value} {vs : List Value} {L : List (List Int)} (h : OwnM B w v vs L) : MatV w v L := by
  obtain ⟨h1, h2⟩ := h.out
  rcases h2 with ⟨rfl, h0⟩ | ⟨g, cap, cur, rfl, hg, hh, hc, hm, hs, ht⟩
  · refine ⟨none, 0, by rw [← h.len, h0], fun hz => absurd (List.eq_nil_of_length_eq_zero (by rw [← h.len, h0])) hz⟩
  · refine ⟨some ⟨g, 0, none⟩, cap, by rw [← h.len], fun _ => ⟨⟨g, 0, none⟩, rfl, rfl, ?_, fun i hi => ?_⟩⟩
    · rcases Nat.lt_or_ge g w.heap.size with h | h
      · exact h
      · rw [Array.getElem?_eq_none h] at hh; cases hh
    · have hi' : i < vs.length := by rw [h.len]; exact hi
      refine ⟨vs[i], ?_, ?_⟩
      · have hc := World.ownsRow.cellAt h.out i (by omega)
        simp only [Nat.zero_add]
        rw [hc]
        exact List.getElem?_eq_getElem hi'
      · have := (h.row i).read
        rw [List.getD_eq_getElem?_getD, List.getElem?_eq_getElem hi', List.getD_eq_getElem?_getD, List.getElem?_eq_getElem hi] at this
        exact this
theorem ints_one {B : Nat} {w : World} {v : Value} {zs : List Int} (h : OwnInts B w v zs) : v.oneCell' = true := by
  rcases h.2 with ⟨rfl, _⟩ | ⟨g, cap, cur, rfl, _⟩ <;> rfl
/-- 'out = append(out, row)', the row the call's own and apart from all. -/
theorem app_row {ops : Array Oper} {rest : List Oper} {o : Oper} {a : Act} {Q : Exit → Act → World → Prop} (hgd : o.guard = none) (s x : Operand)
    (ho : o.op = .call { callee := .builtin .append, args := #[s, x], argTypes := #[22, 22] })
    {B : Nat} {w : World} {v u : Value} {vs : List Value} {L : List (List Int)} {zs : List Int} (hs : a.eval s = v) (hx : a.eval x = .slice (some ⟨w.heap.size, 0, none⟩) 1 1)
    (hown : OwnM B w v vs L) (hu : OwnInts B w u zs) (hua : ∀ i, Apart (vs.getD i nilS) u) (hB : B ≤ w.heap.size) (hl : L.length ≤ 1000000)
    (h : ∀ v' w', OwnM B w' v' (vs ++ [u]) (L ++ [zs]) → Only (Hits v) w w' → wpList Tryd.prog ops Q rest (a.put o.dst v') w') :
    wpList Tryd.prog ops Q (o :: rest) a (w.alloc (.cells #[u] 27)) := by
  obtain ⟨i0, hi, hz0, hz1, hz2⟩ := info_parts info_ints
  have hlen := hown.len
  have hgr := grownBy_alloc w (.cells #[u] 27) none
  have hown1 := hown.carry hgr
  have hu1 : OwnInts B (w.alloc (.cells #[u] 27)) u zs := hu.alloc _
  refine wpList_append_own _ hgd s x 22 ho B 27 i0 (.slice none 0 0) 1 24 Tryd.underlying22 hi hz0 hz1 hz2 rfl (by decide) v vs.length vs hs hown1.out
    ⟨w.heap.size, 0, none⟩ 1 1 [u] hx rfl ?_ ?_ (by unfold maxLen; omega) (by omega) (by simp; omega) ?_
  · intro j u' hj
    match j, hj with
    | 0, hj =>
      simp at hj
      subst hj
      simp only [Addr.add, if_true, World.cell?]
      rw [alloc_heap_new]
      rfl
    | j + 1, hj => simp at hj
  · intro u' hu'
    simp at hu'
    subst hu'
    exact ints_one hu
  · intro v' w1 hown' hgrow hnil
    have hon : Only (Hits v) (w.alloc (.cells #[u] 27)) w1 := Only.of_grown hgrow fun k hk => hk
    refine h v' w1 (OwnM.join hlen (fun i => (hown1.row i).only hon fun k hk hk' => ?_) hown.ap (hu1.only hon fun k hk hk' => ?_) hua (by simpa using hown')) ?_
    · exact apart_types hown1.out (hown1.row i) (by decide) k hk' hk
    · exact apart_types hown1.out hu1 (by decide) k hk' hk
    · exact (Only.of_grown (S := Hits v) hgr (by simp)).trans hon
theorem fresh_apart {B : Nat} {w w1 : World} {v u : Value} {vs : List Value} {L : List (List Int)} {zs : List Int} (h : OwnM B w v vs L) (hu : OwnInts w.heap.size w1 u zs) (i : Nat) : Apart (vs.getD i nilS) u := by
  intro k hk hk'
  have h1 := ((h.row i).lt k hk).2
  have h2 := (hu.lt k hk').1
  omega
theorem take_push {L : List (List Int)} {k : Nat} (h : k < L.length) : L.take k ++ [L[k]] = L.take (k + 1) := by simp
theorem Only.below' {B : Nat} {w w' : World} {v : Value} {vs : List Value} {L : List (List Int)} (h : OwnM B w v vs L) (ho : Only (Hits v) w w') (hB : B ≤ w.heap.size) : Below B w w' :=
  ho.below hB fun k hk => (h.lt (Or.inl hk)).1
theorem after_row {B : Nat} {wr w2 : World} {v u : Value} {vs : List Value} {L : List (List Int)} {zs : List Int} (h : OwnM B wr v vs L) (hB : B ≤ wr.heap.size) (hu : OwnInts wr.heap.size w2 u zs) (hg : wr.grownBy w2 none) :
    OwnM B w2 v vs L ∧ OwnInts B w2 u zs ∧ (∀ i, Apart (vs.getD i nilS) u) ∧ B ≤ w2.heap.size :=
  ⟨h.carry hg, hu.base hB, fun i => fresh_apart h hu i, Nat.le_trans hB hg.size⟩
theorem clones_any (u : Value) (L : List (List Int)) (w : World) (hu : MatV w u L) (hl : L.length ≤ 1000000) (hll : ∀ row ∈ L, row.length ≤ 1000000) :
    Calls Tryd.prog 92 #[u] w fun e w' => ∃ v vs, e = .returned v ∧ OwnM w.heap.size w' v vs L ∧ w.grownBy w' none := by
  obtain ⟨i0, hi, hz0, hz1, hz2⟩ := info_parts info_ints
  have HI := Lib.hid hi; have HZ0 := Lib.hid hz0; have HZ1 := Lib.hid hz1; have HZ2 := Lib.hid hz2
  have HU := Lib.hid hu; have HLL := Lib.hid hll
  obtain ⟨ua, ucap, rfl, hx⟩ := hu
  clear hi hz0 hz1 hz2 hx hll
  generalize hlen : L.length = l at *
  have HLEN := Lib.hid hlen
  clear hlen
  go_enter Tryd.func92, Tryd.ntmps92
  go_wp2_with (
    at_make
    refine wpList_make_own _ rfl _ _ 22 rfl w.heap.size 27 i0 (.slice none 0 0) 1 Tryd.underlying22 HI.out HZ0.out HZ1.out _ _ _ l rfl rfl rfl (by rw [HZ2.out]; omega) (by unfold maxLen; omega) (Nat.le_refl _) ?_
    intro w1 hown' hgr'
    have H1 := Lib.hid (OwnM.start hown'); have H2 := Lib.hid hgr'
    clear hown' hgr')
  go_loopw [3, 11] (fun v i wr => ∃ (k : Nat) (vs : List Value), k ≤ l ∧ i = .int .i64 k ∧ OwnM w.heap.size wr v vs (L.take k) ∧ Below w.heap.size w wr) (fun _ i _ => l - (intOf i).toNat)
  case atStart => exact ⟨0, [], by omega, rfl, H1.out, Below.grown (Below.refl _ _) H2.out (Nat.le_refl _) (by simp)⟩
  case round =>
    obtain ⟨k, vs, hk, rfl, hown, hbel⟩ := hrel
    have HO := Lib.hid hown; have HB := Lib.hid hbel
    have hsize := hbel.size
    clear hown hbel
    by_cases hlt : k < l
    · have hkl : k < L.length := by rw [HLEN.out]; exact hlt
      have hrow := (HU.out.carry (grown_of_below HB.out)).row hkl
      obtain ⟨d, r, c, rfl, hs, hd, hcell, hrow⟩ := hrow
      obtain ⟨db, dof, _⟩ := d
      simp only at hs hcell
      subst hs
      have hrl := HLL.out _ (List.getElem_mem hkl)
      have HR := Lib.hid hrow
      have HTP := Lib.hid (take_push hkl)
      generalize L[k] = z at *
      generalize hzl : z.length = zl at *
      have HZL := Lib.hid hzl
      clear hzl
      have A5 := Lib.hid (show (List.take k L).length ≤ 1000000 by rw [List.length_take]; omega)
      go_wp2_with (first
        | (go_at_call 126
           refine (clone_any _ z wr HR.out (by rw [HZL.out]; exact hrl)).mono ?_
           rintro e w2 ⟨uu, rfl, hu, hg⟩
           obtain ⟨ua2, uc2, rfl⟩ := own_shape hu
           have A := Lib.hid (after_row HO.out hsize hu hg)
           have HG2 := Lib.hid hg
           clear hu hg)
        | (at_builtin
           refine app_row rfl _ _ rfl rfl rfl A.out.1 A.out.2.1 A.out.2.2.1 A.out.2.2.2 A5.out ?_
           intro v' w3 hown' hon'
           have HO3 := Lib.hid hown'; have HN3 := Lib.hid (Only.below' A.out.1 hon' A.out.2.2.2)
           clear hown' hon'))
      go_roundw
      case rel => exact ⟨k + 1, _, by omega, by go_num, by have := HO3.out; rw [HTP.out] at this; exact this, (HB.out.grown HG2.out hsize (by simp)).trans HN3.out⟩
      case measure => simp [intOf]; omega
    · have hkl : L.take k = L := List.take_of_length_le (by have := HLEN.out; omega)
      have HK := Lib.hid hkl
      clear hkl
      go_wp2
      go_ret
      exact ⟨_, _, rfl, by have := HO.out; rw [HK.out] at this; exact this, grown_of_below HB.out⟩
theorem identityRows_any (n : Nat) (w : World) (hl : n ≤ 1000000) :
    Calls Tryd.prog 93 #[.int .i64 n] w fun e w' => ∃ v vs, e = .returned v ∧ OwnM w.heap.size w' v vs (idL n) ∧ w.grownBy w' none := by
  go_enter Tryd.func93, Tryd.ntmps93
  go_wp2
  go_loopw [3, 7] (fun v i wr => ∃ (k : Nat) (vs : List Value), k ≤ n ∧ i = .int .i64 k ∧ OwnM w.heap.size wr v vs ((idL n).take k) ∧ Below w.heap.size w wr) (fun _ i _ => n - (intOf i).toNat)
  case atStart => exact ⟨0, [], by omega, rfl, OwnM.start (World.ownsRow_made w #[] 0 (Nat.le_refl _) (by unfold maxLen; omega) rfl), (Below.refl _ _).alloc (Nat.le_refl _) _⟩
  case round =>
    obtain ⟨k, vs, hk, rfl, hown, hbel⟩ := hrel
    have HO := Lib.hid hown; have HB := Lib.hid hbel
    have hsize := hbel.size
    clear hown hbel
    by_cases hlt : k < n
    · have hkl : k < (idL n).length := by rw [idL_len]; exact hlt
      have HTP := Lib.hid (take_push hkl)
      have hz : (idL n)[k] = unitL n k := by simp [idL]
      have HZ := Lib.hid hz
      clear hz
      have A5 := Lib.hid (show (List.take k (idL n)).length ≤ 1000000 by rw [List.length_take, idL_len]; omega)
      go_wp2_with (first
        | (go_at_call 127
           refine (unit_any n k wr hl hlt).mono ?_
           rintro e w2 ⟨uu, rfl, hu, hg⟩
           obtain ⟨ua2, uc2, rfl⟩ := own_shape hu
           have A := Lib.hid (after_row HO.out hsize hu hg)
           have HG2 := Lib.hid hg
           clear hu hg)
        | (at_builtin
           refine app_row rfl _ _ rfl rfl rfl A.out.1 A.out.2.1 A.out.2.2.1 A.out.2.2.2 A5.out ?_
           intro v' w3 hown' hon'
           have HO3 := Lib.hid hown'; have HN3 := Lib.hid (Only.below' A.out.1 hon' A.out.2.2.2)
           clear hown' hon'))
      go_roundw
      case rel => exact ⟨k + 1, _, by omega, by go_num, by have := HO3.out; rw [← HZ.out, HTP.out] at this; exact this, (HB.out.grown HG2.out hsize (by simp)).trans HN3.out⟩
      case measure => simp [intOf]; omega
    · have hkl : (idL n).take k = idL n := List.take_of_length_le (by rw [idL_len]; omega)
      have HK := Lib.hid hkl
      clear hkl
      go_wp2
      go_ret
      exact ⟨_, _, rfl, by have := HO.out; rw [HK.out] at this; exact this, grown_of_below HB.out⟩
end Go.Proofs.YtghfifpicklonaaDoor

/-
  Lists of rows in both ways of speaking: read and own. Conditions: as each says.
-/
namespace Go.Proofs.YtghfifpicklonaaDoor
open Go.RowKit
set_option linter.unusedVariables false
set_option maxRecDepth 100000

theorem RdS.mat {w : World} {v : Value} {L : List (List Int)} (h : RdS w v L) : MatV w v L := by
  obtain ⟨a, c, rfl⟩ := h.shape
  refine ⟨a, c, rfl, fun hz => ?_⟩
  have h0 : 0 < L.length := List.length_pos_iff.2 hz
  obtain ⟨b, o, rv, ha, hb, hc, hr⟩ := h.at h0
  refine ⟨⟨b, o, none⟩, ha, rfl, hb, fun i hi => ?_⟩
  obtain ⟨b', o', rv', ha', _, hc', hr'⟩ := h.at hi
  rw [ha] at ha'
  injection ha' with ha'
  injection ha' with hb' ho' _
  subst hb' ho'
  rw [List.getD_eq_getElem?_getD, List.getElem?_eq_getElem hi] at hr'
  exact ⟨rv', hc', hr'⟩
theorem ch_lt {α : Type} {P : Nat → α → Prop} [Inhabited α] {n : Nat} (h : ∀ i, i < n → ∃ g, P i g) : ∃ G : Nat → α, ∀ i, i < n → P i (G i) := by
  refine ⟨fun i => if hi : i < n then (h i hi).choose else default, fun i hi => ?_⟩
  simp only [hi, dif_pos]
  exact (h i hi).choose_spec
theorem MatV.rds {w : World} {v : Value} {L : List (List Int)} (h : MatV w v L) : RdS w v L := by
  obtain ⟨a, c, rfl, hx⟩ := h
  by_cases hz : L = []
  · subst hz
    exact ⟨[], rfl, ⟨a, c, rfl, fun hne => absurd rfl hne⟩, by simp⟩
  · obtain ⟨d, ha, hs, hd, hi⟩ := hx hz
    obtain ⟨b, o, sp⟩ := d
    simp only at hs hd hi
    subst hs ha
    haveI : Inhabited XR := ⟨xr0⟩
    obtain ⟨G, hG⟩ := ch_lt (n := L.length) (P := fun i (g : XR) => g.zs = L.getD i [] ∧ w.cell? ⟨b, o + i, none⟩ = some g.v ∧ IntsV w g.v g.zs) fun i hl => by
      obtain ⟨u, h1, h2⟩ := hi i hl
      refine ⟨⟨u, L.getD i []⟩, rfl, h1, ?_⟩
      rw [List.getD_eq_getElem?_getD, List.getElem?_eq_getElem hl]
      exact h2
    refine ⟨(List.range L.length).map G, ?_, ⟨some ⟨b, o, none⟩, c, by simp, fun _ => ⟨⟨b, o, none⟩, rfl, rfl, hd, fun i hl j hj => ?_⟩⟩, fun x hx => ?_⟩
    · refine List.ext_getElem (by simp [rws]) fun i h1 h2 => ?_
      have := (hG i h2).1
      rw [List.getD_eq_getElem?_getD, List.getElem?_eq_getElem h2] at this
      simpa [rws] using this
    · have hl' : i < L.length := by simpa using hl
      have hj0 : j = 0 := by simp only [rowE] at hj; omega
      subst hj0
      have := (hG i hl').2.1
      simp only [rowE, Nat.mul_one, Nat.add_zero, List.getElem_map, List.getElem_range]
      exact this
    · obtain ⟨i, hl, rfl⟩ := List.mem_map.1 hx
      exact (hG i (List.mem_range.1 hl)).2.2
theorem sep_of {w : World} : ∀ {l : List Asrt}, (∀ A ∈ l, A.holds w) → l.Pairwise Apt → Sep w l
  | [], _, _ => trivial
  | A :: l, h, hp => by
    obtain ⟨h1, h2⟩ := List.pairwise_cons.1 hp
    exact ⟨h A (by simp), h1, sep_of (fun B hB => h B (List.mem_cons_of_mem _ hB)) h2⟩
def xsOf (vs : List Value) (L : List (List Int)) : List XR := (List.range L.length).map fun i => ⟨vs.getD i nilS, L.getD i []⟩
theorem xsOf_rws (vs : List Value) (L : List (List Int)) : rws (xsOf vs L) = L := by
  refine List.ext_getElem (by simp [rws, xsOf]) fun i h1 h2 => ?_
  simp only [rws, xsOf, List.map_map, List.getElem_map, List.getElem_range, Function.comp]
  rw [List.getD_eq_getElem?_getD, List.getElem?_eq_getElem h2]
  rfl
theorem xsOf_len (vs : List Value) (L : List (List Int)) : (xsOf vs L).length = L.length := by simp [xsOf]
theorem xsOf_cs {vs : List Value} {L : List (List Int)} (h : vs.length = L.length) : (xsOf vs L).flatMap rowE.cs = vs := by
  have e : (xsOf vs L).flatMap rowE.cs = (xsOf vs L).map RX.v := by
    generalize xsOf vs L = xs
    induction xs with
    | nil => rfl
    | cons x xs ih => rw [List.flatMap_cons, ih]; rfl
  rw [e]
  refine List.ext_getElem (by rw [List.length_map, xsOf_len, h]) fun i h1 h2 => ?_
  simp only [xsOf, List.map_map, List.getElem_map, List.getElem_range, Function.comp]
  rw [List.getD_eq_getElem?_getD, List.getElem?_eq_getElem h2]
  rfl
theorem rowsS_xsOf (vs : List Value) (L : List (List Int)) : rowsS (xsOf vs L) = (List.range L.length).map fun i => OI (vs.getD i nilS) (L.getD i []) := by
  unfold rowsS xsOf
  generalize List.range L.length = r
  induction r with
  | nil => rfl
  | cons i r ih => rw [List.map_cons, List.flatMap_cons, ih, List.map_cons]; rfl
theorem OwnM.sep {w0 w' : World} {v : Value} {vs : List Value} {L : List (List Int)} {l : List Asrt} (h : OwnM w0.heap.size w' v vs L) (hg : w0.grownBy w' none) (hs : Sep w0 l) : ∃ xs, rws xs = L ∧ Sep w' (OS v xs :: l) := by
  refine ⟨xsOf vs L, xsOf_rws vs L, hs.new hg ?_ ?_⟩
  · show Sep w' (OR rowE v (xsOf vs L) :: rowsS (xsOf vs L))
    rw [rowsS_xsOf]
    refine sep_of (fun A hA => ?_) (List.pairwise_cons.2 ⟨fun A hA => ?_, ?_⟩)
    · rcases List.mem_cons.1 hA with rfl | hA
      · show OwnR rowE 0 w' v (xsOf vs L)
        have ho : OwnR rowE w0.heap.size w' v (xsOf vs L) := by
          unfold OwnR
          rw [xsOf_cs h.len, xsOf_len, ← h.len]
          exact h.out
        exact ho.rebase fun _ _ => Nat.zero_le _
      · obtain ⟨i, _, rfl⟩ := List.mem_map.1 hA
        exact (h.row i).rebase fun _ _ => Nat.zero_le _
    · obtain ⟨i, _, rfl⟩ := List.mem_map.1 hA
      have ha : Apart v (vs.getD i nilS) := apart_types h.out (h.row i) (by decide)
      exact ⟨ha, ha.symm⟩
    · refine List.pairwise_map.2 (List.pairwise_lt_range.imp fun {i j} hij => ?_)
      exact ⟨h.ap i j (by omega), h.ap j i (by omega)⟩
  · rintro k ⟨A, hA, hk⟩
    rw [rowsS_xsOf] at hA
    rcases List.mem_cons.1 hA with rfl | hA
    · exact (h.lt (Or.inl hk)).1
    · obtain ⟨i, _, rfl⟩ := List.mem_map.1 hA
      exact ((h.row i).lt k hk).1
end Go.Proofs.YtghfifpicklonaaDoor

/-
  A row operation on a list of rows of the call's own. Conditions: the elements are small, the indices within.
-/
namespace Go.Proofs.YtghfifpicklonaaDoor
open Go.RowKit
set_option linter.unusedVariables false

def opV (kind row other by' : Int) : Value := .agg #[.int .i64 kind, .int .i64 row, .int .i64 other, .int .i64 by']
theorem OwnM.head {B : Nat} {w : World} {v : Value} {vs : List Value} {L : List (List Int)} (h : OwnM B w v vs L) (hz : L ≠ []) : ∃ g cap, v = .slice (some ⟨g, 0, none⟩) L.length cap ∧ B ≤ g ∧ g < w.heap.size ∧ Hits v g := by
  obtain ⟨h1, h2⟩ := h.out
  rcases h2 with ⟨_, h0⟩ | ⟨g, cap, cur, rfl, hg, hh, _⟩
  · exact absurd (List.eq_nil_of_length_eq_zero (by rw [← h.len]; exact h0)) hz
  · refine ⟨g, cap, by rw [h.len], hg, ?_, rfl⟩
    rcases Nat.lt_or_ge g w.heap.size with h | h
    · exact h
    · rw [Array.getElem?_eq_none h] at hh; cases hh
theorem OwnM.cell {B g n cap : Nat} {w : World} {vs : List Value} {L : List (List Int)} (h : OwnM B w (.slice (some ⟨g, 0, none⟩) n cap) vs L) (hn : n = L.length) {j : Nat} (hj : j < L.length) : w.cell? ⟨g, j, none⟩ = some (vs.getD j nilS) := by
  subst hn
  have h1 := h.len
  have h2 := h.out
  rw [h1] at h2
  rw [World.ownsRow.cellAt h2 j (by omega), List.getD_eq_getElem?_getD, List.getElem?_eq_getElem (show j < vs.length by omega)]
  rfl
theorem OwnM.free {B g n cap : Nat} {w : World} {vs : List Value} {L : List (List Int)} (h : OwnM B w (.slice (some ⟨g, 0, none⟩) n cap) vs L) (hn : n = L.length) (j : Nat) : w.frozen? ⟨g, j, none⟩ = false := by
  subst hn
  have h2 := h.out
  rw [h.len] at h2
  exact World.ownsRow.frozenAt h2 j
theorem ownInts_nil_row {B : Nat} {w : World} : OwnInts B w nilS [] := OwnInts.nil B w
/-- two rows of the list exchanged -/
theorem OwnM.swap {B g n cap : Nat} {w : World} {vs : List Value} {L : List (List Int)} (h : OwnM B w (.slice (some ⟨g, 0, none⟩) n cap) vs L) (hn : n = L.length) {r k : Nat} (hr : r < L.length) (hk : k < L.length) (hne : r ≠ k) :
    OwnM B ((w.setCell ⟨g, r, none⟩ (vs.getD k nilS)).setCell ⟨g, k, none⟩ (vs.getD r nilS)) (.slice (some ⟨g, 0, none⟩) n cap) ((vs.set r (vs.getD k nilS)).set k (vs.getD r nilS)) (swapL L r k) ∧
      (∀ x ∈ (vs.set r (vs.getD k nilS)).set k (vs.getD r nilS), x ∈ vs) ∧ Only (Hits (.slice (some ⟨g, 0, none⟩) n cap)) w ((w.setCell ⟨g, r, none⟩ (vs.getD k nilS)).setCell ⟨g, k, none⟩ (vs.getD r nilS)) := by
  subst hn
  have hlen := h.len
  have h2 := h.out
  have hne' := hne
  rw [hlen] at h2
  have s1 := World.ownsRow.stored h2 r (vs.getD k nilS)
  have s2 := World.ownsRow.stored s1.1 k (vs.getD r nilS)
  have hon : Only (Hits (.slice (some ⟨g, 0, none⟩) L.length cap)) w ((w.setCell ⟨g, r, none⟩ (vs.getD k nilS)).setCell ⟨g, k, none⟩ (vs.getD r nilS)) :=
    (Only.of_grown s1.2 fun k hk => hk).trans (Only.of_grown s2.2 fun k hk => hk)
  have gv : ∀ i, ((vs.set r (vs.getD k nilS)).set k (vs.getD r nilS)).getD i nilS = vs.getD (La.tw r k i) nilS := by
    intro i
    unfold La.tw
    simp only [List.getD_eq_getElem?_getD, List.getElem?_set, List.length_set]
    by_cases h1 : k = i
    · subst h1
      have : ¬ k = r := Ne.symm hne
      simp [this, show k < vs.length by omega]
    · by_cases h2 : r = i
      · subst h2; simp [h1, show r < vs.length by omega]
      · simp [h1, h2, Ne.symm h1, Ne.symm h2]
  have tinj : ∀ i j, i ≠ j → La.tw r k i ≠ La.tw r k j := by
    intro i j hij
    unfold La.tw
    split <;> split <;> (try split) <;> (try split) <;> omega
  refine ⟨⟨by simp [swapL, hlen], ?_, fun i => ?_, fun i j hij => ?_⟩, fun x hx => ?_, hon⟩
  · have e : ((vs.set r (vs.getD k nilS)).set k (vs.getD r nilS)).length = L.length := by simp [hlen]
    rw [e]
    exact s2.1
  · rw [gv, swapL_get hr hk]
    exact (h.row _).only hon fun q hq hq' => apart_types h.out (h.row _) (by decide) q hq' hq
  · rw [gv, gv]
    exact h.ap _ _ (tinj i j hij)
  · rcases List.mem_or_eq_of_mem_set hx with h1 | h1
    · rcases List.mem_or_eq_of_mem_set h1 with h3 | h3
      · exact h3
      · rw [h3, List.getD_eq_getElem?_getD, List.getElem?_eq_getElem (show k < vs.length by omega)]; exact List.getElem_mem _
    · rw [h1, List.getD_eq_getElem?_getD, List.getElem?_eq_getElem (show r < vs.length by omega)]; exact List.getElem_mem _
theorem row_slice {B : Nat} {w : World} {v : Value} {vs : List Value} {L : List (List Int)} (h : OwnM B w v vs L) (i : Nat) : ∃ a c, vs.getD i nilS = .slice a (L.getD i []).length c := own_shape (h.row i)
theorem box_cell (w : World) (cs : Array Value) (t : TypeId) (j : Nat) : (w.alloc (.cells cs t)).cell? ⟨w.heap.size, j, none⟩ = cs[j]? := by
  unfold World.cell?
  simp only
  rw [alloc_heap_new]
  simp
set_option maxHeartbeats 1000000 in
theorem swap_any (p : Int) (r k : Nat) (by' : Int) (v : Value) (vs : List Value) (L : List (List Int)) (B : Nat) (w : World) (hv : OwnM B w v vs L) (hr : r < L.length) (hk : k < L.length) (hne : r ≠ k) (hl : L.length ≤ 1000000) :
    Calls Tryd.prog 129 #[opV 0 r k by', .int .i64 p, v] w fun e w' => e = .returned (.tuple #[]) ∧ ∃ vs', OwnM B w' v vs' (swapL L r k) ∧ (∀ x ∈ vs', x ∈ vs) ∧ Only (Foot v vs) w w' := by
  have HV := Lib.hid hv
  obtain ⟨g, cap, rfl, hg0, hg1, hhit⟩ := hv.head (by intro h; rw [h] at hr; simp at hr)
  clear hv hhit hg0
  generalize hlen : L.length = l at *
  have HL := Lib.hid hlen
  unfold opV
  go_enter Tryd.func129, Tryd.ntmps129
  go_wp2_with fail
  have hgr := grownBy_alloc w (.cells #[.int .i64 0, .int .i64 r, .int .i64 k, .int .i64 by'] 154) none
  have hv1 := HV.out.carry hgr
  have b1 : (w.alloc (.cells #[.int .i64 0, .int .i64 r, .int .i64 k, .int .i64 by'] 154)).cell? ⟨w.heap.size, 1, none⟩ = some (.int .i64 r) := box_cell _ _ _ _
  have b2 : (w.alloc (.cells #[.int .i64 0, .int .i64 r, .int .i64 k, .int .i64 by'] 154)).cell? ⟨w.heap.size, 2, none⟩ = some (.int .i64 k) := box_cell _ _ _ _
  generalize w.alloc (.cells #[.int .i64 0, .int .i64 r, .int .i64 k, .int .i64 by'] 154) = w1 at *
  have HGR := Lib.hid hgr
  have hcr := hv1.cell hlen.symm (by omega : r < L.length)
  have hck := hv1.cell hlen.symm (by omega : k < L.length)
  have hfr := hv1.free hlen.symm r
  have hfk := hv1.free hlen.symm k
  have HSW := Lib.hid (hv1.swap hlen.symm (by omega : r < L.length) (by omega : k < L.length) hne)
  clear hv1 hgr hlen
  obtain ⟨ax, cx, hx⟩ := row_slice HV.out r
  obtain ⟨ay, cy, hy⟩ := row_slice HV.out k
  rw [hx] at hcr HSW
  rw [hy] at hck HSW
  clear hx hy
  generalize (L.getD r []).length = nx at *
  generalize (L.getD k []).length = ny at *
  generalize w.heap.size = b at *
  have hbg : b ≠ g := by omega
  have hgb : g ≠ b := by omega
  have hne' : k ≠ r := Ne.symm hne
  go_region
  go_end0
  refine ⟨rfl, _, HSW.out.1.only (Only.drew (fun _ => False) _) (fun _ _ h => h), HSW.out.2.1, ?_⟩
  exact (((Only.of_grown (S := fun _ => False) HGR.out (by simp)).mono (fun _ h => h.elim)).trans (HSW.out.2.2.mono fun k hk => Or.inl hk)).trans (Only.drew _ _)
/-- one row written anew -/
theorem OwnM.setRow {B : Nat} {w w' : World} {v : Value} {vs : List Value} {L : List (List Int)} {zs : List Int} (h : OwnM B w v vs L) {r : Nat} (hr : r < L.length) (ho : Only (Hits (vs.getD r nilS)) w w') (hz : OwnInts B w' (vs.getD r nilS) zs) : OwnM B w' v vs (L.set r zs) := by
  refine ⟨by rw [List.length_set]; exact h.len, owns_only h.out ho fun k hk hk' => ?_, fun i => ?_, h.ap⟩
  · exact apart_types h.out (h.row r) (by decide) k hk hk'
  · by_cases hi : i = r
    · subst hi
      rw [List.getD_eq_getElem?_getD (l := L.set i zs), List.getElem?_set_self hr]
      exact hz
    · rw [List.getD_eq_getElem?_getD (l := L.set r zs), List.getElem?_set_ne (Ne.symm hi), ← List.getD_eq_getElem?_getD]
      exact (h.row i).only ho fun k hk hk' => h.ap i r hi k hk hk'
theorem scale_getD {p y : Int} {x : List Int} {j : Nat} (hj : j < x.length) : (scaleV p x y).getD j 0 = x.getD j 0 * y % p := by
  unfold scaleV
  simp only [List.getD_eq_getElem?_getD]
  rw [List.getElem?_map, List.getElem?_eq_getElem hj]
  simp
theorem invI_bd (p a : Int) (hp : 2 ≤ p) (ha : 0 ≤ a) (hp2 : p ≤ 1000) (ha2 : a ≤ 1000) : 0 ≤ invI p a ∧ invI p a ≤ 1000 := by
  unfold invI
  have h1 := Int.emod_nonneg (a ^ (p.toNat - 2 + if p = 2 then 1 else 0)) (show p ≠ 0 by omega)
  have h2 := Int.emod_lt_of_pos (a ^ (p.toNat - 2 + if p = 2 then 1 else 0)) (show 0 < p by omega)
  omega
set_option maxRecDepth 100000 in
set_option maxHeartbeats 1000000 in
theorem divide_any (p : Int) (r : Nat) (by' : Int) (v : Value) (vs : List Value) (L : List (List Int)) (B : Nat) (w : World) (hv : OwnM B w v vs L) (hr : r < L.length) (hl : L.length ≤ 1000000) (hll : ∀ row ∈ L, row.length ≤ 1000000)
    (hp : 2 ≤ p) (hp2 : p ≤ 1000) (hb0 : 0 ≤ by') (hb1 : by' ≤ 1000) (he : ∀ row ∈ L, ∀ z ∈ row, 0 ≤ z ∧ z ≤ 1000) :
    Calls Tryd.prog 129 #[opV 1 r 0 by', .int .i64 p, v] w fun e w' => e = .returned (.tuple #[]) ∧ OwnM B w' v vs (divL p L r (invI p by')) ∧ Only (Foot v vs) w w' := by
  have HV := Lib.hid hv
  obtain ⟨g, cap, rfl, hg0, hg1, hhit⟩ := hv.head (by intro h; rw [h] at hr; simp at hr)
  have hnl := hll _ (getD_memL hr)
  have HE := Lib.hid (he _ (getD_memL hr))
  have HBND := Lib.hid (invI_bd p by' hp hb0 hp2 hb1)
  have hbnd := HBND.out
  obtain ⟨ax, cx, hx⟩ := row_slice hv r
  generalize hnx : (L.getD r []).length = nx at *
  have HNX := Lib.hid hnx
  clear hnx
  have HX := Lib.hid hx
  clear hv hhit hg0 hll he hx
  generalize hlen : L.length = l at *
  have HL := Lib.hid hlen
  unfold opV
  go_enter Tryd.func129, Tryd.ntmps129
  go_wp2_with (
    go_at_call 150
    have hgr := grownBy_alloc w (.cells #[.int .i64 1, .int .i64 r, .int .i64 0, .int .i64 by'] 154) none
    have hbs : w.heap.size < (w.alloc (.cells #[.int .i64 1, .int .i64 r, .int .i64 0, .int .i64 by'] 154)).heap.size := by simp
    have hv1 := HV.out.carry hgr
    have b1 : (w.alloc (.cells #[.int .i64 1, .int .i64 r, .int .i64 0, .int .i64 by'] 154)).cell? ⟨w.heap.size, 1, none⟩ = some (.int .i64 r) := box_cell _ _ _ _
    generalize w.alloc (.cells #[.int .i64 1, .int .i64 r, .int .i64 0, .int .i64 by'] 154) = w1 at *
    have HGR := Lib.hid hgr; have HV1 := Lib.hid hv1; have HB1 := Lib.hid b1
    have hcr := hv1.cell hlen.symm (by omega : r < L.length)
    rw [HX.out] at hcr
    have HCR := Lib.hid hcr
    clear hgr hv1 hlen
    refine (inverse_any p by' _ hp hp2 hb0 hb1).mono ?_
    rintro e w' ⟨rfl, rfl⟩)
  generalize hy : invI p by' = y at *
  have HY := Lib.hid hy
  clear hy
  clear b1 hcr
  generalize hb : w.heap.size = b at *
  have HBE := Lib.hid hb
  clear hb
  go_loopw [43] (fun i wr => ∃ (k : Nat) (zs : List Int), k ≤ nx ∧ i = .int .i64 k ∧ zs.length = nx ∧ (∀ j, j < k → zs.getD j 0 = (L.getD r []).getD j 0 * y % p) ∧ (∀ j, k ≤ j → zs.getD j 0 = (L.getD r []).getD j 0) ∧ OwnInts B wr (.slice ax nx cx) zs ∧ Only (Hits (.slice ax nx cx)) w1 wr) (fun i _ => nx - (intOf i).toNat)
  case atStart => exact ⟨0, L.getD r [], by omega, rfl, HNX.out, fun _ h => absurd h (by omega), fun _ _ => rfl, by have := HV1.out.row r; rw [HX.out] at this; exact this, Only.refl _ _⟩
  case round =>
    obtain ⟨k, zs, hk, rfl, hz, h1, h2, ho, hon⟩ := hrel
    have HZ := Lib.hid hz; have H1 := Lib.hid h1; have H2 := Lib.hid h2; have HO := Lib.hid ho; have HON := Lib.hid hon
    clear hz h1 h2 ho hon
    by_cases hlt : k < nx
    · have hkx : k < (L.getD r []).length := by rw [HNX.out]; exact hlt
      have hkz : k < zs.length := by rw [HZ.out]; exact hlt
      obtain ⟨gx, cap', hve, hg0', hg1', hhit⟩ := HO.out.parts (by intro h; rw [h] at hkz; simp at hkz)
      simp only [Value.slice.injEq] at hve
      obtain ⟨rfl, _, rfl⟩ := hve
      have hgx : gx < b := by rw [← HBE.out]; exact (World.ownsRow.lt (by have := HV.out.row r; rw [HX.out] at this; exact this) gx rfl).2
      have hgne : g ≠ gx := by
        intro h
        refine apart_types HV1.out.out (HV1.out.row r) (by decide) g rfl ?_
        rw [HX.out, h]; rfl
      have b1 := (World.cell?_of_block (a := ⟨b, 1, none⟩) (HON.out.block b hbs (by simp [Hits, Value.ownBlock]; omega))).trans HB1.out
      have hcr := (World.cell?_of_block (a := ⟨g, r, none⟩) (HON.out.block g (by omega) (by simp [Hits, Value.ownBlock]; omega))).trans HCR.out
      have hcell := HO.out.cell HZ.out.symm hkz
      have hfree := HO.out.free HZ.out.symm k
      have hput := fun n => HO.out.put HZ.out.symm k n
      have HP := Lib.hid hput
      have e1 : zs[k] = (L.getD r []).getD k 0 := by rw [← getD_ltL hkz]; exact H2.out k (Nat.le_refl _)
      have bb := HE.out _ (List.getElem_mem hkx)
      rw [← getD_ltL hkx] at bb
      rw [e1] at hcell
      clear hput e1 hg0' hg1' hhit
      generalize hxk : (L.getD r []).getD k 0 = xk at *
      have HXK := Lib.hid hxk
      clear hxk hkx hkz
      have b3 := mul_bd bb.1 bb.2 hbnd.1 hbnd.2
      have b4 := Int.emod_nonneg (xk * y) (show p ≠ 0 by omega)
      have b5 := Int.emod_lt_of_pos (xk * y) (show 0 < p by omega)
      go_wp2
      go_region
      go_wp2
      go_roundw
      case rel =>
        have hkz : k < zs.length := by rw [HZ.out]; exact hlt
        refine ⟨k + 1, zs.set k (xk * y % p), by omega, by go_num, by rw [List.length_set]; exact HZ.out, fun j hj => ?_, fun j hj => ?_, (HP.out _).1.only (Only.drew (fun _ => False) _) (fun _ _ h => h), (HON.out.trans ((HP.out _).2.mono fun g hg => by rw [hg]; rfl)).trans (Only.drew _ _)⟩
        · by_cases hjk : k = j
          · subst hjk
            rw [getD_set_self hkz, HXK.out]
          · rw [getD_set_ne hjk]
            exact H1.out j (by omega)
        · rw [getD_set_ne (by omega)]
          exact H2.out j (by omega)
      case measure => simp [intOf]; omega
    · have hfin : zs = scaleV p (L.getD r []) y := by
        refine list_ext_getD (by rw [HZ.out]; unfold scaleV; rw [List.length_map]; exact HNX.out.symm) fun j hj => ?_
        have hjx : j < (L.getD r []).length := by rw [HNX.out, ← HZ.out]; exact hj
        rw [scale_getD hjx]
        exact H1.out j (by have := HZ.out; omega)
      have HF := Lib.hid hfin
      clear hfin
      go_wp2
      go_end0
      have hon : Only (Hits (vs.getD r nilS)) w1 wr := by rw [HX.out]; exact HON.out
      refine ⟨rfl, ?_, ?_⟩
      · have hz := HO.out
        rw [HF.out, ← HX.out] at hz
        rw [HY.out]
        exact HV1.out.setRow (by rw [HL.out]; exact hr) hon hz
      · exact ((Only.of_grown (S := fun _ => False) HGR.out (by simp)).mono (fun _ h => h.elim)).trans (hon.mono fun k hk => Foot.at hk)
set_option maxRecDepth 100000 in
set_option maxHeartbeats 1000000 in
/-- subtract: of row r, by' times row k -/
theorem subtract_any (p : Int) (r k : Nat) (by' : Int) (v : Value) (vs : List Value) (L : List (List Int)) (B n : Nat) (w : World) (hv : OwnM B w v vs L) (hr : r < L.length) (hk : k < L.length) (hne : r ≠ k) (hl : L.length ≤ 1000000) (hn : n ≤ 1000000) (hll : ∀ row ∈ L, row.length = n)
    (hp : 2 ≤ p) (hp2 : p ≤ 1000) (hb0 : 0 ≤ by') (hb1 : by' ≤ 1000) (he : ∀ row ∈ L, ∀ z ∈ row, 0 ≤ z ∧ z ≤ 1000) :
    Calls Tryd.prog 129 #[opV 2 r k by', .int .i64 p, v] w fun e w' => e = .returned (.tuple #[]) ∧ OwnM B w' v vs (L.set r (addT p (L.getD r []) (-by') (L.getD k []))) ∧ Only (Foot v vs) w w' := by
  have HV := Lib.hid hv
  obtain ⟨g, cap, rfl, hg0, hg1, hhit⟩ := hv.head (by intro h; rw [h] at hr; simp at hr)
  have hnr := Lib.hid (hll _ (getD_memL hr))
  have hnk := Lib.hid (hll _ (getD_memL hk))
  have HE := Lib.hid (he _ (getD_memL hr))
  have HEK := Lib.hid (he _ (getD_memL hk))
  obtain ⟨ax, cx, hx⟩ := row_slice hv r
  obtain ⟨ay, cy, hy⟩ := row_slice hv k
  rw [hnr.out] at hx
  rw [hnk.out] at hy
  have HX := Lib.hid hx
  have HY := Lib.hid hy
  clear hv hhit hg0 hll he hx hy
  generalize hlen : L.length = l at *
  have HL := Lib.hid hlen
  unfold opV
  go_enter Tryd.func129, Tryd.ntmps129
  go_wp2_with fail
  have hgr := grownBy_alloc w (.cells #[.int .i64 2, .int .i64 r, .int .i64 k, .int .i64 by'] 154) none
  have hv1 := HV.out.carry hgr
  have b1 : (w.alloc (.cells #[.int .i64 2, .int .i64 r, .int .i64 k, .int .i64 by'] 154)).cell? ⟨w.heap.size, 1, none⟩ = some (.int .i64 r) := box_cell _ _ _ _
  have b2 : (w.alloc (.cells #[.int .i64 2, .int .i64 r, .int .i64 k, .int .i64 by'] 154)).cell? ⟨w.heap.size, 2, none⟩ = some (.int .i64 k) := box_cell _ _ _ _
  have b3 : (w.alloc (.cells #[.int .i64 2, .int .i64 r, .int .i64 k, .int .i64 by'] 154)).cell? ⟨w.heap.size, 3, none⟩ = some (.int .i64 by') := box_cell _ _ _ _
  generalize w.alloc (.cells #[.int .i64 2, .int .i64 r, .int .i64 k, .int .i64 by'] 154) = w1 at *
  have HGR := Lib.hid hgr; have HV1 := Lib.hid hv1
  have hcr := hv1.cell hlen.symm (by omega : r < L.length)
  have hck := hv1.cell hlen.symm (by omega : k < L.length)
  rw [HX.out] at hcr
  rw [HY.out] at hck
  clear hgr hv1 hlen
  have A1 : OwnInts B w1.drew (.slice ax n cx) (L.getD r []) := by
    have := (HV1.out.row r).only (Only.drew (fun _ => False) w1) (fun _ _ h => h)
    rwa [HX.out] at this
  have A2 : IntsV w1.drew (.slice ay n cy) (L.getD k []) := by
    have := ((HV1.out.row k).only (Only.drew (fun _ => False) w1) (fun _ _ h => h)).read
    rwa [HY.out] at this
  have A3 : ∀ q, Hits (.slice ax n cx) q → Value.blk' (.slice ay n cy) ≠ some q := by
    intro q h1 h2
    have hb := (HV1.out.row k).blk
    rw [HY.out] at hb
    refine HV1.out.ap r k hne q (by rw [HX.out]; exact h1) ?_
    rw [HY.out]
    exact hb.symm.trans h2
  have A := Lib.hid (addTimes_any p (-by') _ _ _ _ B w1.drew A1 A2 (fun _ => A3) (by rw [hnr.out, hnk.out]) (by rw [hnr.out]; exact hn) hp hp2 (by omega) (by omega) HE.out HEK.out)
  clear A1 A2 A3
  go_still_tail 14, (by kernel_rfl)
  go_wp2_with (go_at_call 131; refine A.out.mono ?_; rintro e w' ⟨rfl, h1, h2⟩; have H1 := Lib.hid h1; have H2 := Lib.hid h2; clear h1 h2)
  go_end0
  have hon : Only (Hits (vs.getD r nilS)) w1 w' := by rw [HX.out]; exact (Only.drew _ _).trans H2.out
  refine ⟨rfl, HV1.out.setRow (by rw [HL.out]; exact hr) hon (by rw [HX.out]; exact H1.out), ?_⟩
  exact ((Only.of_grown (S := fun _ => False) HGR.out (by simp)).mono (fun _ h => h.elim)).trans (hon.mono fun k hk => Foot.at hk)
end Go.Proofs.YtghfifpicklonaaDoor

/-
  One step of the reduction on two lists of rows at once (the closure of impl.reduction). Conditions: the elements are small, the indices within.
-/
namespace Go.Proofs.YtghfifpicklonaaDoor
open Go.RowKit
set_option linter.unusedVariables false

structure Two (B : Nat) (w : World) (v : Value) (vs : List Value) (u : Value) (us : List Value) (R T : List (List Int)) : Prop where
  mR : OwnM B w v vs R
  mT : OwnM B w u us T
  ap : ∀ k, Foot v vs k → ¬ Foot u us k
def Feet (v : Value) (vs : List Value) (u : Value) (us : List Value) (k : Nat) : Prop := Foot v vs k ∨ Foot u us k
theorem Foot.mono {v : Value} {vs vs' : List Value} (h : ∀ x ∈ vs', x ∈ vs) {k : Nat} (hk : Foot v vs' k) : Foot v vs k := by
  rcases hk with hk | ⟨x, hx, hk⟩
  · exact Or.inl hk
  · exact Or.inr ⟨x, h x hx, hk⟩
/-- the captured variables -/
structure Caps (w : World) (N bp br ba : Nat) (p : Int) (v u : Value) : Prop where
  cp : w.cell? ⟨bp, 0, none⟩ = some (.int .i64 p)
  cr : w.cell? ⟨br, 0, none⟩ = some v
  ca : w.cell? ⟨ba, 0, none⟩ = some u
  np : N ≤ bp
  nr : N ≤ br
  na : N ≤ ba
  lp : bp < w.heap.size
  lr : br < w.heap.size
  la : ba < w.heap.size
theorem Caps.only {S : Nat → Prop} {w w' : World} {N bp br ba : Nat} {p : Int} {v u : Value} (h : Caps w N bp br ba p v u) (ho : Only S w w') (hs : ∀ k, S k → k < N) : Caps w' N bp br ba p v u := by
  have h1 := h.np; have h2 := h.nr; have h3 := h.na
  refine ⟨(World.cell?_of_block (w := w) (a := ⟨bp, 0, none⟩) (ho.block bp h.lp fun h' => ?_)).trans h.cp, (World.cell?_of_block (w := w) (a := ⟨br, 0, none⟩) (ho.block br h.lr fun h' => ?_)).trans h.cr,
    (World.cell?_of_block (w := w) (a := ⟨ba, 0, none⟩) (ho.block ba h.la fun h' => ?_)).trans h.ca, h1, h2, h3, Nat.lt_of_lt_of_le h.lp ho.size, Nat.lt_of_lt_of_le h.lr ho.size, Nat.lt_of_lt_of_le h.la ho.size⟩
  all_goals have := hs _ h'; omega
/-- equal rows: nothing is done -/
theorem step_same (p : Int) (r : Nat) (v u : Value) (N bp br ba : Nat) (w : World) (hc : Caps w N bp br ba p v u) :
    Calls Tryd.prog 128 #[opV 0 r r 0, .pointer (some ⟨bp, 0, none⟩), .pointer (some ⟨br, 0, none⟩), .pointer (some ⟨ba, 0, none⟩)] w fun e w' => e = .returned (.tuple #[]) ∧ Only (fun _ => False) w w' := by
  unfold opV
  clear hc
  go_enter Tryd.func128, Tryd.ntmps128
  go_wp2
  refine bodyPost_ret (results_none rfl _ _ _) rfl ?_
  exact ⟨rfl, Only.of_grown (grownBy_alloc _ _ none) (by simp)⟩
set_option maxRecDepth 100000 in
set_option maxHeartbeats 1000000 in
theorem step_do (p : Int) (kind : Int) (r k : Nat) (by' : Int) (v u : Value) (vs us : List Value) (R T R' T' : List (List Int)) (B N bp br ba : Nat) (w : World) (hc : Caps w N bp br ba p v u) (h2 : Two B w v vs u us R T) (hN : ∀ k, Feet v vs u us k → k < N)
    (hk : kind = 1 ∨ kind = 2 ∨ (kind = 0 ∧ (r : Int) ≠ k))
    (hA : ∀ w1, OwnM B w1 v vs R → Calls Tryd.prog 129 #[opV kind r k by', .int .i64 p, v] w1 fun e w' => e = .returned (.tuple #[]) ∧ ∃ vs', OwnM B w' v vs' R' ∧ (∀ x ∈ vs', x ∈ vs) ∧ Only (Foot v vs) w1 w')
    (hB : ∀ w1, OwnM B w1 u us T → Calls Tryd.prog 129 #[opV kind r k by', .int .i64 p, u] w1 fun e w' => e = .returned (.tuple #[]) ∧ ∃ us', OwnM B w' u us' T' ∧ (∀ x ∈ us', x ∈ us) ∧ Only (Foot u us) w1 w') :
    Calls Tryd.prog 128 #[opV kind r k by', .pointer (some ⟨bp, 0, none⟩), .pointer (some ⟨br, 0, none⟩), .pointer (some ⟨ba, 0, none⟩)] w fun e w' => e = .returned (.tuple #[]) ∧
      ∃ vs' us', Two B w' v vs' u us' R' T' ∧ (∀ x ∈ vs', x ∈ vs) ∧ (∀ x ∈ us', x ∈ us) ∧ Only (Feet v vs u us) w w' := by
  have HC := Lib.hid hc; have H2 := Lib.hid h2; have HN := Lib.hid hN; have HA := Lib.hid hA; have HB := Lib.hid hB
  clear hc h2 hN hA hB
  unfold opV at *
  have fin : ∀ w1 w2 w3 vs' us', Only (fun _ => False) w w1 → OwnM B w2 v vs' R' ∧ (∀ x ∈ vs', x ∈ vs) ∧ Only (Foot v vs) w1 w2 → OwnM B w3 u us' T' ∧ (∀ x ∈ us', x ∈ us) ∧ Only (Foot u us) w2 w3 →
      Two B w3 v vs' u us' R' T' ∧ (∀ x ∈ vs', x ∈ vs) ∧ (∀ x ∈ us', x ∈ us) ∧ Only (Feet v vs u us) w w3 := by
    intro w1 w2 w3 vs' us' o1 ⟨m1, s1, o2⟩ ⟨m2, s2, o3⟩
    refine ⟨⟨m1.only o3 fun k hk hk' => H2.out.ap k (hk.mono s1) hk', m2, fun k hk hk' => H2.out.ap k (hk.mono s1) (hk'.mono s2)⟩, s1, s2, ?_⟩
    exact ((o1.mono fun _ h => h.elim).trans (o2.mono fun k hk => Or.inl hk)).trans (o3.mono fun k hk => Or.inr hk)
  have FIN := Lib.hid fin
  clear fin
  have cp := HC.out.cp
  have cr := HC.out.cr
  have ca := HC.out.ca
  have lp := HC.out.lp
  have lr := HC.out.lr
  have la := HC.out.la
  have HA1 := Lib.hid fun o => HA.out (w.alloc o) (H2.out.mR.carry (grownBy_alloc w o none))
  have HB1 := Lib.hid fun o w2 (ho : Only (Foot v vs) (w.alloc o) w2) => HB.out w2 ((H2.out.mT.carry (grownBy_alloc w o none)).only ho fun k hk hk' => H2.out.ap k hk' hk)
  have FIN1 := Lib.hid fun o w2 w3 vs' us' h1 h2 => FIN.out (w.alloc o) w2 w3 vs' us' (Only.of_grown (grownBy_alloc w o none) (by simp)) h1 h2
  have after : ∀ w1 w2, Only (fun _ => False) w w1 → (∀ j (h : j < 4), w1.cell? ⟨w.heap.size, j, none⟩ = (#[Value.int .i64 kind, .int .i64 r, .int .i64 k, .int .i64 by'])[j]?) → Only (Foot v vs) w1 w2 → w.heap.size < w1.heap.size →
      (w2.cell? ⟨w.heap.size, 0, none⟩ = some (.int .i64 kind) ∧ w2.cell? ⟨w.heap.size, 1, none⟩ = some (.int .i64 r) ∧ w2.cell? ⟨w.heap.size, 2, none⟩ = some (.int .i64 k) ∧ w2.cell? ⟨w.heap.size, 3, none⟩ = some (.int .i64 by')) ∧
      w2.cell? ⟨bp, 0, none⟩ = some (.int .i64 p) ∧ w2.cell? ⟨br, 0, none⟩ = some v ∧ w2.cell? ⟨ba, 0, none⟩ = some u := by
    intro w1 w2 o1 hb o2 hlt
    have c1 := (HC.out.only o1 (fun _ h => h.elim)).only o2 fun k hk => HN.out k (Or.inl hk)
    have hn : ¬ Foot v vs w.heap.size := by
      intro h
      have h1 := HN.out _ (Or.inl h)
      have h2 := HC.out.np
      omega
    have hcell : ∀ j, w2.cell? ⟨w.heap.size, j, none⟩ = w1.cell? ⟨w.heap.size, j, none⟩ := fun j => World.cell?_of_block (a := ⟨w.heap.size, j, none⟩) (o2.block w.heap.size hlt hn)
    refine ⟨⟨?_, ?_, ?_, ?_⟩, c1.cp, c1.cr, c1.ca⟩
    · rw [hcell, hb 0 (by omega)]; rfl
    · rw [hcell, hb 1 (by omega)]; rfl
    · rw [hcell, hb 2 (by omega)]; rfl
    · rw [hcell, hb 3 (by omega)]; rfl
  have AFTER := Lib.hid fun w2 => after (w.alloc (.cells #[Value.int .i64 kind, .int .i64 r, .int .i64 k, .int .i64 by'] 154)) w2 (Only.of_grown (grownBy_alloc w _ none) (by simp)) (fun j _ => box_cell w _ _ j) |> fun h a => h a (by simp)
  clear after
  rcases hk with rfl | rfl | ⟨rfl, hne⟩
  all_goals
    go_enter Tryd.func128, Tryd.ntmps128
    go_wp2_with (
      go_at_call 129
      first
        | (with_reducible refine (HA1.out _).mono ?_
           rintro e w2 ⟨rfl, vs', a1, a2, a3⟩
           obtain ⟨⟨d0, d1, d2, d3⟩, e1, e2, e3⟩ := AFTER.out _ a3
           have A1 := Lib.hid a1; have A2 := Lib.hid a2; have A3 := Lib.hid a3
           clear a1 a2 a3)
        | (with_reducible refine (HB1.out _ _ A3.out).mono ?_
           rintro e w3 ⟨rfl, us', a1, a2, a3⟩
           have A4 := Lib.hid a1; have A5 := Lib.hid a2; have A6 := Lib.hid a3
           clear a1 a2 a3))
    go_end0
    exact ⟨rfl, vs', us', FIN1.out _ _ _ _ _ ⟨A1.out, A2.out, A3.out⟩ ⟨A4.out, A5.out, A6.out⟩⟩
end Go.Proofs.YtghfifpicklonaaDoor

/-
  What elimination gives: reduced lists, their uniqueness, ranks, kernels, inverses; on lists of lists of integers. Plain mathematics. Conditions: the number of elements is a field of the program's kind; rows of one length.
-/
namespace Go.Proofs.YtghfifpicklonaaDoor
open La
set_option linter.unusedVariables false
variable {p : Nat} [NeZero p]

theorem one_ne (hf : fldN p = true) : (1 : Fin p) ≠ 0 := by
  have h2 := (of_decide_eq_true hf).1
  rw [← toF_one]
  exact toF_ne (by omega) (by omega) (by omega)
omit [NeZero p] in
theorem lt_p (hf : fldN p = true) : 1 < p := (of_decide_eq_true hf).1
/-! ### one round -/
theorem pivAt_none {R : List (List Int)} {c r : Nat} (hr : r ≤ R.length) (h : pivAt R c r = none) : ∀ k, r ≤ k → k < R.length → at2 R k c = 0 := by
  intro k hk hm
  have := firstFrom_none h k hk (by omega)
  simpa using this
theorem pivAt_some {R : List (List Int)} {c r k : Nat} (hr : r ≤ R.length) (h : pivAt R c r = some k) : r ≤ k ∧ k < R.length ∧ at2 R k c ≠ 0 := by
  obtain ⟨h1, h2, h3, _⟩ := firstFrom_some h
  exact ⟨h2, by omega, by simpa using h1⟩
structure GInv (p m n m' c : Nat) [NeZero p] (s : St) : Prop where
  lenR : s.R.length = m
  lenT : s.T.length = m
  okR : RowsOk p n s.R
  okT : RowsOk p m' s.T
  elim : ∃ piv, Elim m n c s.r piv (mx p s.R)
theorem stepWith_R {m n m' c k : Nat} {s : St} {piv : Nat → Nat} (hf : fldN p = true) (h : GInv p m n m' c s) (hc : c < n) (hk : s.r ≤ k) (hkm : k < m) (hy : at2 s.R k c ≠ 0)
    (he : Elim m n c s.r piv (mx p s.R)) :
    GInv p m n m' (c + 1) (stepWith p c k s) ∧ ∀ M T0 : Mx p, Inv m n M (mx p s.R) (mx p s.T) → Inv m n M (mx p (stepWith p c k s).R) (mx p (stepWith p c k s).T) := by
  have hrm : s.r < m := by omega
  have lR := h.lenR
  have lT := h.lenT
  have l1 := swapL_len s.R s.r k
  have l2 := swapL_len s.T s.r k
  have o1 := swapL_ok h.okR (a := s.r) (b := k) (by omega) (by omega)
  have o2 := swapL_ok h.okT (a := s.r) (b := k) (by omega) (by omega)
  generalize hy' : invI p (at2 (swapL s.R s.r k) s.r c) = y
  have hat : at2 (swapL s.R s.r k) s.r c = at2 s.R k c := by
    unfold at2
    rw [swapL_get (by omega) (by omega)]
    simp [tw]
  have hinv : mx p s.R k c * toF p y = 1 := by
    have hb := at2_ok (i := k) (c := c) h.okR
    rw [mx_at2, ← hy', hat]
    exact toF_inv hf (by omega) hb.2
  have l3 := divL_len (p := p) (swapL s.R s.r k) s.r y
  have l4 := divL_len (p := p) (swapL s.T s.r k) s.r y
  have o3 := divL_ok o1 (r := s.r) (by omega) y
  have o4 := divL_ok o2 (r := s.r) (by omega) y
  have e : stepWith p c k s = ⟨clearL p (divL p (swapL s.R s.r k) s.r y) c s.r (divL p (swapL s.R s.r k) s.r y), clearL p (divL p (swapL s.R s.r k) s.r y) c s.r (divL p (swapL s.T s.r k) s.r y), s.r + 1⟩ := by
    unfold stepWith
    simp only [hy']
  have eR : ∀ i j, mx p (divL p (swapL s.R s.r k) s.r y) i j = scale s.r (toF p y) (fun i => mx p s.R (tw s.r k i)) i j := by
    intro i j
    rw [mx_divL (by omega)]
    unfold La.scale
    rw [mx_swapL (by omega) (by omega)]
  have eT : ∀ i j, mx p (divL p (swapL s.T s.r k) s.r y) i j = scale s.r (toF p y) (fun i => mx p s.T (tw s.r k i)) i j := by
    intro i j
    rw [mx_divL (by omega)]
    unfold La.scale
    rw [mx_swapL (by omega) (by omega)]
  have fR : ∀ i, i < m → ∀ j, mx p (stepWith p c k s).R i j = clear m s.r c (scale s.r (toF p y) fun i => mx p s.R (tw s.r k i)) (scale s.r (toF p y) fun i => mx p s.R (tw s.r k i)) i j := by
    intro i hi j
    rw [e]
    rw [mx_clearL o3 (by omega) hrm i hi]
    unfold La.clear
    simp only [eR]
  have fT : ∀ i, i < m → ∀ j, mx p (stepWith p c k s).T i j = clear m s.r c (scale s.r (toF p y) fun i => mx p s.R (tw s.r k i)) (scale s.r (toF p y) fun i => mx p s.T (tw s.r k i)) i j := by
    intro i hi j
    rw [e]
    rw [mx_clearL o4 (by omega) hrm i hi]
    unfold La.clear
    simp only [eR, eT]
  refine ⟨⟨?_, ?_, ?_, ?_, ?_⟩, fun M T0 hI => ?_⟩
  · rw [e]; simp only [clearL_len]; omega
  · rw [e]; simp only [clearL_len]; omega
  · rw [e]; exact clearL_ok o3 (by omega)
  · rw [e]; exact clearL_ok o4 (by omega)
  · refine ⟨fun i => if i = s.r then c else piv i, ?_⟩
    have := he.some hc hk hkm hinv
    have hr : (stepWith (p : Int) c k s).r = s.r + 1 := rfl
    rw [hr]
    exact this.congr fun i hi j => (fR i hi j).symm
  · have h1 := (hI.swap (a := s.r) (b := k) hrm hkm).scale hrm (k := toF p y) (k' := mx p s.R k c) (by rw [← hinv]; grind)
    have h2 := h1.clear (c := c) hrm m (Nat.le_refl _)
    exact h2.congr (fun i hi j => (fR i hi j).symm) (fun i hi j => (fT i hi j).symm)
theorem step_inv {m n m' c : Nat} {s : St} (hf : fldN p = true) (h : GInv p m n m' c s) (hc : c < n) :
    GInv p m n m' (c + 1) (stepL p c s) ∧ ∀ M : Mx p, Inv m n M (mx p s.R) (mx p s.T) → Inv m n M (mx p (stepL p c s).R) (mx p (stepL p c s).T) := by
  obtain ⟨piv, he⟩ := h.elim
  have hrm := he.rm
  have lR := h.lenR
  unfold stepL
  cases hp : pivAt s.R c s.r with
  | none =>
    have h0 := pivAt_none (by omega) hp
    refine ⟨⟨h.lenR, h.lenT, h.okR, h.okT, piv, he.none hc fun k hk hm => ?_⟩, fun M hI => hI⟩
    rw [mx_at2, h0 k hk (by omega), toF_zero]
  | some k =>
    obtain ⟨h1, h2, h3⟩ := pivAt_some (by omega) hp
    have := stepWith_R hf h hc h1 (by omega) h3 he
    exact ⟨this.1, fun M hI => this.2 M M hI⟩
theorem red_inv {m n m' : Nat} {R T : List (List Int)} (hf : fldN p = true) (hR : RowsOk p n R) (hT : RowsOk p m' T) (lR : R.length = m) (lT : T.length = m) :
    ∀ c, c ≤ n → GInv p m n m' c (redTo p R T c) ∧ ∀ M : Mx p, Inv m n M (mx p R) (mx p T) → Inv m n M (mx p (redTo p R T c).R) (mx p (redTo p R T c).T) := by
  intro c
  induction c with
  | zero => intro _; exact ⟨⟨lR, lT, hR, hT, fun _ => 0, Elim.start _ _ _ _⟩, fun M h => h⟩
  | succ c ih =>
    intro hc
    obtain ⟨h1, h2⟩ := ih (by omega)
    have := step_inv hf h1 (by omega)
    exact ⟨this.1, fun M hI => this.2 M (h2 M hI)⟩
omit [NeZero p] in
/-- What is reduced does not hang on what is made beside it. -/
theorem redTo_R (q : Int) (R T T' : List (List Int)) : ∀ c, (redTo q R T c).R = (redTo q R T' c).R ∧ (redTo q R T c).r = (redTo q R T' c).r := by
  intro c
  induction c with
  | zero => exact ⟨rfl, rfl⟩
  | succ c ih =>
    obtain ⟨h1, h2⟩ := ih
    simp only [redTo]
    generalize redTo q R T c = s at h1 h2
    generalize redTo q R T' c = s' at h1 h2
    obtain ⟨sR, sT, sr⟩ := s
    obtain ⟨sR', sT', sr'⟩ := s'
    simp only at h1 h2
    subst h1 h2
    unfold stepL
    simp only
    cases pivAt sR c sr with
    | none => exact ⟨rfl, rfl⟩
    | some k => exact ⟨rfl, rfl⟩
/-! ### reduced lists -/
def IsRed (p n : Nat) [NeZero p] (L : List (List Int)) : Prop := RowsOk p n L ∧ ∃ piv, RR L.length n (mx p L) piv
def Spn (p n : Nat) [NeZero p] (L : List (List Int)) (v : Vec p) : Prop := In L.length n (mx p L) v
theorem red_unique {n : Nat} {L L' : List (List Int)} (hf : fldN p = true) (h : IsRed p n L) (h' : IsRed p n L') (hs : ∀ v, Spn p n L v ↔ Spn p n L' v) : L = L' := by
  obtain ⟨o, piv, hr⟩ := h
  obtain ⟨o', piv', hr'⟩ := h'
  obtain ⟨h1, _, h3⟩ := hr.unique hr' (one_ne hf) hs
  exact rows_ext o o' rfl h1.symm h3
def reducedL (p : Int) (n : Nat) (M : List (List Int)) : List (List Int) :=
  let s := redTo p M (List.replicate M.length []) n
  s.R.take s.r
def rankL (p : Int) (n : Nat) (M : List (List Int)) : Nat := (redTo p M (List.replicate M.length []) n).r
def kernelL (p : Int) (n : Nat) (M : List (List Int)) : List (List Int) :=
  let s := redTo p M (idL M.length) n
  reducedL p M.length (s.T.drop s.r)
theorem id_inv {m n : Nat} (M : Mx p) : Inv m n M M (mx p (idL m)) :=
  ⟨fun i hi j hj => by
      rw [(Inv.start m n M).made i hi j hj]
      exact S_congr fun t ht => by rw [mx_idL hi ht],
    fun x hx => (Inv.start m n M).indep x fun j hj => by
      refine Eq.trans ?_ (hx j hj)
      exact S_congr fun t ht => by rw [mx_idL ht hj],
    fun v => Iff.rfl⟩
/-- All that elimination with the identity beside it gives. -/
structure Ge (p m n : Nat) [NeZero p] (M : List (List Int)) (s : St) : Prop where
  lenR : s.R.length = m
  lenT : s.T.length = m
  okR : RowsOk p n s.R
  okT : RowsOk p m s.T
  rm : s.r ≤ m
  rr : ∃ piv, RR s.r n (mx p s.R) piv ∧ ∀ i k, i < s.r → k < m → k ≠ i → mx p s.R k (piv i) = 0
  low : ∀ k j, s.r ≤ k → k < m → j < n → mx p s.R k j = 0
  inv : Inv m n (mx p M) (mx p s.R) (mx p s.T)
theorem ge {m n : Nat} {M : List (List Int)} (hf : fldN p = true) (hM : RowsOk p n M) (hm : M.length = m) : Ge p m n M (redTo p M (idL m) n) := by
  obtain ⟨h, hI⟩ := red_inv hf hM (idL_ok (lt_p hf)) hm (idL_len m) n (Nat.le_refl _)
  obtain ⟨piv, he⟩ := h.elim
  exact ⟨h.lenR, h.lenT, h.okR, h.okT, he.rm, ⟨piv, he.rr, he.col⟩, he.low, hI _ (id_inv _)⟩
omit [NeZero p] in
theorem take_ok {n k : Nat} {L : List (List Int)} (h : RowsOk p n L) : RowsOk p n (L.take k) := fun row hr => h row (List.mem_of_mem_take hr)
omit [NeZero p] in
theorem drop_ok {n k : Nat} {L : List (List Int)} (h : RowsOk p n L) : RowsOk p n (L.drop k) := fun row hr => h row (List.mem_of_mem_drop hr)
theorem mx_take {L : List (List Int)} {k i : Nat} (hi : i < k) : mx p (L.take k) i = mx p L i := by
  unfold mx
  simp only [List.getD_eq_getElem?_getD]
  rw [List.getElem?_take, if_pos hi]
theorem mx_drop {L : List (List Int)} {k : Nat} (i : Nat) : mx p (L.drop k) i = mx p L (k + i) := by
  unfold mx
  simp only [List.getD_eq_getElem?_getD]
  rw [List.getElem?_drop]
theorem La.RR.congr' {r n : Nat} {A B : Mx p} {piv : Nat → Nat} (h : RR r n A piv) (e : ∀ i, i < r → A i = B i) : RR r n B piv :=
  ⟨h.lt, h.inc, fun i hi => by rw [← e i hi]; exact h.one i hi, fun i k hi hk hn => by rw [← e k hk]; exact h.col i k hi hk hn, fun i j hi hj => by rw [← e i hi]; exact h.left i j hi hj⟩
theorem reducedL_eq (q : Int) (n : Nat) (M T : List (List Int)) : reducedL q n M = (redTo q M T n).R.take (redTo q M T n).r := by
  unfold reducedL
  obtain ⟨h1, h2⟩ := redTo_R q M (List.replicate M.length []) T n
  simp only [h1, h2]
theorem rankL_eq (q : Int) (n : Nat) (M T : List (List Int)) : rankL q n M = (redTo q M T n).r := (redTo_R q M (List.replicate M.length []) T n).2
theorem reducedL_len {n : Nat} {M : List (List Int)} (hf : fldN p = true) (hM : RowsOk p n M) : (reducedL p n M).length = rankL p n M := by
  have g := ge hf hM rfl
  rw [reducedL_eq _ _ _ (idL M.length), rankL_eq _ _ _ (idL M.length), List.length_take, g.lenR]
  have := g.rm
  omega
theorem rank_le {n : Nat} {M : List (List Int)} (hf : fldN p = true) (hM : RowsOk p n M) : rankL p n M ≤ M.length := by
  rw [rankL_eq _ _ _ (idL M.length)]
  exact (ge hf hM rfl).rm
theorem reducedL_red {n : Nat} {M : List (List Int)} (hf : fldN p = true) (hM : RowsOk p n M) : IsRed p n (reducedL p n M) := by
  have g := ge hf hM rfl
  have hl := reducedL_len hf hM
  rw [rankL_eq _ _ _ (idL M.length)] at hl
  refine ⟨?_, ?_⟩
  · rw [reducedL_eq _ _ _ (idL M.length)]; exact take_ok g.okR
  · obtain ⟨piv, hr, _⟩ := g.rr
    refine ⟨piv, ?_⟩
    rw [hl]
    refine hr.congr' fun i hi => ?_
    rw [reducedL_eq _ _ _ (idL M.length), mx_take hi]
theorem reducedL_span {n : Nat} {M : List (List Int)} (hf : fldN p = true) (hM : RowsOk p n M) (v : Vec p) : Spn p n (reducedL p n M) v ↔ Spn p n M v := by
  have g := ge hf hM rfl
  have hl := reducedL_len hf hM
  rw [rankL_eq _ _ _ (idL M.length)] at hl
  unfold Spn
  rw [hl, ← g.inv.span, In_low g.rm g.low]
  constructor
  · intro h
    exact h.rows fun i hi j _ => by rw [reducedL_eq _ _ _ (idL M.length), mx_take hi]
  · intro h
    exact h.rows fun i hi j _ => by rw [reducedL_eq _ _ _ (idL M.length), mx_take hi]
theorem reducedL_self {n : Nat} {L : List (List Int)} (hf : fldN p = true) (h : IsRed p n L) : reducedL p n L = L :=
  red_unique hf (reducedL_red hf h.1) h fun v => reducedL_span hf h.1 v
/-! ### independent rows -/
theorem indep_rank {m n : Nat} {A : List (List Int)} (hf : fldN p = true) (hA : RowsOk p n A) (hl : A.length = m) (hi : Indep m n (mx p A)) : rankL p n A = m := by
  have g := ge hf hA hl
  rw [rankL_eq _ _ _ (idL m)]
  have hrm := g.rm
  rcases Nat.lt_or_ge (redTo p A (idL m) n).r m with h | h
  · exfalso
    generalize redTo (p : Int) A (idL m) n = s at g hrm h
    have h0 : ∀ j, j < m → mx p s.T s.r j = 0 := by
      refine hi (mx p s.T s.r) fun j hj => ?_
      rw [← g.inv.made s.r h j hj]
      exact g.low s.r j (Nat.le_refl _) h hj
    have h1 := g.inv.indep (fun i => if i = s.r then 1 else 0) (fun j hj => by
      unfold comb
      rw [S_one h (fun k _ hk => by simp [hk, f0m])]
      simp only [if_true, f1m]
      exact h0 j hj) s.r h
    simp only [if_true] at h1
    exact one_ne hf h1
  · omega
theorem red_indep {n : Nat} {L : List (List Int)} (h : IsRed p n L) : Indep L.length n (mx p L) := by
  obtain ⟨_, piv, hr⟩ := h
  exact hr.indep
/-! ### kernels -/
theorem kernelL_red {n : Nat} {M : List (List Int)} (hf : fldN p = true) (hM : RowsOk p n M) : IsRed p M.length (kernelL p n M) :=
  reducedL_red hf (drop_ok (ge hf hM rfl).okT)
theorem kernel_tail {m n : Nat} {M : List (List Int)} {s : St} (g : Ge p m n M s) : Indep (m - s.r) m (mx p (s.T.drop s.r)) := by
  intro x hx i hi
  have hrm := g.rm
  have := g.inv.indep (fun k => if k < s.r then 0 else x (k - s.r)) (fun j hj => by
    refine Eq.trans ?_ (hx j hj)
    unfold comb
    rw [show m = s.r + (m - s.r) from by omega, S_append, S_zero' (n := s.r) (fun i hi => by simp [hi, f0m]), show s.r + (m - s.r) - s.r = m - s.r from by omega, f0a]
    refine S_congr fun i _ => ?_
    have h1 : ¬ s.r + i < s.r := by omega
    simp only [h1, if_false, show s.r + i - s.r = i from by omega]
    rw [mx_drop]) (s.r + i) (by omega)
  have h1 : ¬ s.r + i < s.r := by omega
  simpa [h1, show s.r + i - s.r = i from by omega] using this
theorem kernelL_len {n : Nat} {M : List (List Int)} (hf : fldN p = true) (hM : RowsOk p n M) : (kernelL p n M).length = M.length - rankL p n M := by
  have g := ge hf hM rfl
  unfold kernelL
  simp only
  rw [reducedL_len hf (drop_ok g.okT)]
  have hl : ((redTo p M (idL M.length) n).T.drop (redTo p M (idL M.length) n).r).length = M.length - (redTo p M (idL M.length) n).r := by rw [List.length_drop, g.lenT]
  rw [indep_rank hf (drop_ok g.okT) hl (kernel_tail g), ← rankL_eq _ _ _ (idL M.length)]
/-- Square independent rows have an inverse at their left. -/
theorem left_inverse {m : Nat} {A : List (List Int)} (hf : fldN p = true) (hA : RowsOk p m A) (hl : A.length = m) (hi : Indep m m (mx p A)) :
    (∀ i, i < m → ∀ j, j < m → comb m (mx p (redTo p A (idL m) m).T i) (mx p A) j = if i = j then 1 else 0) ∧ rankL p m A = m := by
  have hr := indep_rank hf hA hl hi
  refine ⟨fun i hi' j hj => ?_, hr⟩
  have g := ge hf hA hl
  rw [rankL_eq _ _ _ (idL m)] at hr
  generalize redTo (p : Int) A (idL m) m = s at g hr
  obtain ⟨piv, h, hcol⟩ := g.rr
  rw [← g.inv.made i hi' j hj]
  rw [hr] at h hcol
  have hp : ∀ i, i < m → piv i = i := by
    have hge : ∀ i, i < m → i ≤ piv i := by
      intro i
      induction i with
      | zero => intro _; omega
      | succ i ih =>
        intro hi
        have h1 := ih (by omega)
        have h2 := h.inc i (i + 1) (by omega) hi
        omega
    have hle : ∀ d i, i + d + 1 = m → piv i ≤ i := by
      intro d
      induction d with
      | zero => intro i hi; have := h.lt i (by omega); omega
      | succ d ih =>
        intro i hi
        have h1 := ih (i + 1) (by omega)
        have h2 := h.inc i (i + 1) (by omega) (by omega)
        omega
    intro i hi
    have h1 := hge i hi
    have h2 := hle (m - i - 1) i (by omega)
    omega
  by_cases e : i = j
  · subst e
    have := h.one i hi'
    rw [hp i hi'] at this
    simp [this]
  · have := hcol j i hj hi' e
    rw [hp j hj] at this
    simp [this, e]
/-- x with x M = 0: the span of the kernel. -/
theorem kernelL_span {n : Nat} {M : List (List Int)} (hf : fldN p = true) (hM : RowsOk p n M) (x : Vec p) :
    Spn p M.length (kernelL p n M) x ↔ ∀ j, j < n → comb M.length x (mx p M) j = 0 := by
  have g := ge hf hM rfl
  have hsp := reducedL_span hf (drop_ok (k := (redTo p M (idL M.length) n).r) g.okT) x
  have hli := left_inverse hf g.okT g.lenT g.inv.indep
  have e0 : kernelL p n M = reducedL p M.length ((redTo p M (idL M.length) n).T.drop (redTo p M (idL M.length) n).r) := rfl
  rw [e0, hsp]
  generalize redTo (p : Int) M (idL M.length) n = s at *
  have hrm := g.rm
  unfold Spn
  rw [List.length_drop, g.lenT]
  have low : ∀ i, i < M.length - s.r → ∀ j, j < n → comb M.length (mx p (s.T.drop s.r) i) (mx p M) j = 0 := by
    intro i hi j hj
    rw [mx_drop, ← g.inv.made (s.r + i) (by omega) j hj]
    exact g.low _ j (by omega) (by omega) hj
  constructor
  · rintro ⟨y, hy⟩ j hj
    have e1 : comb M.length x (mx p M) j = S M.length (fun t => S (M.length - s.r) (fun i => y i * (mx p (s.T.drop s.r) i t * mx p M t j))) := by
      unfold comb
      refine S_congr fun t ht => ?_
      rw [hy t ht]
      unfold comb
      rw [← S_mulr]
      exact S_congr fun i _ => by grind
    rw [e1, S_comm]
    refine S_zero' fun i hi => ?_
    rw [S_mul]
    have := low i hi j hj
    unfold comb at this
    rw [this, fm0]
  · intro h0
    -- x = (x C) T with C the inverse of T
    let C := mx p (redTo p s.T (idL M.length) M.length).T
    let y : Vec p := fun t => S M.length (fun i => x i * C i t)
    have hx : ∀ j, j < M.length → x j = comb M.length y (mx p s.T) j := by
      intro j hj
      have e1 : comb M.length y (mx p s.T) j = S M.length (fun i => x i * comb M.length (C i) (mx p s.T) j) := by
        unfold comb
        have e2 : ∀ t, y t * mx p s.T t j = S M.length (fun i => x i * (C i t * mx p s.T t j)) := by
          intro t
          show S M.length (fun i => x i * C i t) * mx p s.T t j = _
          rw [← S_mulr]
          exact S_congr fun i _ => by grind
        simp only [e2]
        rw [S_comm]
        exact S_congr fun i _ => by rw [S_mul]
      rw [e1, S_one hj (fun i hi hn => by rw [hli.1 i hi j hj]; simp [hn, fm0]), hli.1 j hj j hj]
      simp [fm1]
    have hyR : ∀ j, j < n → comb M.length y (mx p s.R) j = 0 := by
      intro j hj
      rw [← h0 j hj]
      have e1 : comb M.length x (mx p M) j = S M.length (fun t => S M.length (fun i => y i * (mx p s.T i t * mx p M t j))) := by
        unfold comb
        refine S_congr fun t ht => ?_
        rw [hx t ht]
        unfold comb
        rw [← S_mulr]
        exact S_congr fun i _ => by grind
      rw [e1, S_comm]
      unfold comb
      refine S_congr fun i hi => ?_
      rw [S_mul, g.inv.made i hi j hj]
      rfl
    obtain ⟨piv, hr, hcol⟩ := g.rr
    have hy0 : ∀ i, i < s.r → y i = 0 := by
      intro i hi
      have h1 := hyR (piv i) (hr.lt i hi)
      unfold comb at h1
      rw [S_one (show i < M.length by omega) (fun k hk hn => by rw [hcol i k hi hk hn, fm0]), hr.one i hi, fm1] at h1
      exact h1
    refine ⟨fun i => y (s.r + i), fun j hj => ?_⟩
    rw [hx j hj]
    unfold comb
    have : ∀ k, k = M.length - s.r → S M.length (fun i => y i * mx p s.T i j) = S k (fun i => y (s.r + i) * mx p (s.T.drop s.r) i j) := by
      intro k hk
      rw [show M.length = s.r + k from by omega, S_append, S_zero' (n := s.r) (fun i hi => by rw [hy0 i hi, f0m]), f0a]
      exact S_congr fun i _ => by rw [mx_drop]
    exact this _ rfl
end Go.Proofs.YtghfifpicklonaaDoor

/-
  The steps of the reduction over a state that is kept. Plain laws of the rows that are cleared one by one. Conditions: the elements are small.
-/
namespace Go.Proofs.YtghfifpicklonaaDoor
open Go.RowKit
set_option linter.unusedVariables false

structure Fit (p : Int) (m n n' : Nat) (R T : List (List Int)) : Prop where
  lR : R.length = m
  lT : T.length = m
  oR : RowsOk p n R
  oT : RowsOk p n' T
structure Mid (B N bp br ba : Nat) (p : Int) (v u : Value) (vs0 us0 : List Value) (w0 : World) (R T : List (List Int)) (w : World) : Prop where
  ex : ∃ vs us, Two B w v vs u us R T ∧ (∀ x ∈ vs, x ∈ vs0) ∧ (∀ x ∈ us, x ∈ us0)
  on : Only (Feet v vs0 u us0) w0 w
  cap : Caps w N bp br ba p v u
theorem Feet.mono {v u : Value} {vs vs' us us' : List Value} (h1 : ∀ x ∈ vs', x ∈ vs) (h2 : ∀ x ∈ us', x ∈ us) {k : Nat} (hk : Feet v vs' u us' k) : Feet v vs u us k := by
  rcases hk with hk | hk
  · exact Or.inl (hk.mono h1)
  · exact Or.inr (hk.mono h2)
section
variable {B N bp br ba : Nat} {p : Int} {v u : Value} {vs0 us0 : List Value} {w0 : World} {R T : List (List Int)} {w : World}
theorem Mid.next {vs us vs' us' : List Value} {R' T' : List (List Int)} {w' : World} (h : Mid B N bp br ba p v u vs0 us0 w0 R T w) (h1 : ∀ x ∈ vs, x ∈ vs0) (h2 : ∀ x ∈ us, x ∈ us0) (hN : ∀ k, Feet v vs0 u us0 k → k < N)
    (hp : Two B w' v vs' u us' R' T' ∧ (∀ x ∈ vs', x ∈ vs) ∧ (∀ x ∈ us', x ∈ us) ∧ Only (Feet v vs u us) w w') : Mid B N bp br ba p v u vs0 us0 w0 R' T' w' := by
  obtain ⟨t, s1, s2, o⟩ := hp
  have o' := o.mono (S' := Feet v vs0 u us0) fun k hk => hk.mono h1 h2
  exact ⟨⟨vs', us', t, fun x hx => h1 x (s1 x hx), fun x hx => h2 x (s2 x hx)⟩, h.on.trans o', h.cap.only o' hN⟩
theorem ok_small {n : Nat} {L : List (List Int)} (h : RowsOk p n L) (hp2 : p ≤ 1000) : ∀ row ∈ L, ∀ z ∈ row, 0 ≤ z ∧ z ≤ 1000 := by
  intro row hrow z hz
  have := (h row hrow).2 z hz
  omega
theorem swapL_self {L : List (List Int)} {r : Nat} (hr : r < L.length) : swapL L r r = L := by
  unfold swapL
  rw [List.set_set]
  rw [List.getD_eq_getElem?_getD, List.getElem?_eq_getElem hr, Option.getD_some, List.set_getElem_self]
variable {m n n' : Nat}
theorem mid_swap (r k : Nat) (h : Mid B N bp br ba p v u vs0 us0 w0 R T w) (hf : Fit p m n n' R T) (hN : ∀ k, Feet v vs0 u us0 k → k < N) (hr : r < m) (hk : k < m) (hm : m ≤ 1000) :
    Calls Tryd.prog 128 #[opV 0 r k 0, .pointer (some ⟨bp, 0, none⟩), .pointer (some ⟨br, 0, none⟩), .pointer (some ⟨ba, 0, none⟩)] w fun e w' => e = .returned (.tuple #[]) ∧ Mid B N bp br ba p v u vs0 us0 w0 (swapL R r k) (swapL T r k) w' := by
  obtain ⟨vs, us, t, s1, s2⟩ := h.ex
  have lR := hf.lR
  have lT := hf.lT
  by_cases hne : r = k
  · subst hne
    rw [swapL_self (by omega), swapL_self (by omega)]
    refine (step_same p r v u N bp br ba w h.cap).mono ?_
    rintro e w' ⟨rfl, ho⟩
    refine ⟨rfl, h.next s1 s2 hN ⟨⟨t.mR.only ho fun _ _ h => h, t.mT.only ho fun _ _ h => h, t.ap⟩, fun x h => h, fun x h => h, ho.mono fun _ h => h.elim⟩⟩
  · refine (step_do p 0 r k 0 v u vs us R T (swapL R r k) (swapL T r k) B N bp br ba w h.cap t (fun k hk => hN k (hk.mono s1 s2)) (Or.inr (Or.inr ⟨rfl, by omega⟩)) (fun w1 h1 => ?_) (fun w1 h1 => ?_)).mono ?_
    · exact swap_any p r k 0 v vs R B w1 h1 (by omega) (by omega) hne (by omega)
    · exact swap_any p r k 0 u us T B w1 h1 (by omega) (by omega) hne (by omega)
    · rintro e w' ⟨rfl, vs', us', hx⟩
      exact ⟨rfl, h.next s1 s2 hN hx⟩
theorem mid_div (r : Nat) (by' : Int) (h : Mid B N bp br ba p v u vs0 us0 w0 R T w) (hf : Fit p m n n' R T) (hN : ∀ k, Feet v vs0 u us0 k → k < N) (hr : r < m) (hm : m ≤ 1000) (hn : n ≤ 1000) (hn' : n' ≤ 1000) (hp : 2 ≤ p) (hp2 : p ≤ 1000) (hb : 0 ≤ by' ∧ by' ≤ 1000) :
    Calls Tryd.prog 128 #[opV 1 r 0 by', .pointer (some ⟨bp, 0, none⟩), .pointer (some ⟨br, 0, none⟩), .pointer (some ⟨ba, 0, none⟩)] w fun e w' => e = .returned (.tuple #[]) ∧ Mid B N bp br ba p v u vs0 us0 w0 (divL p R r (invI p by')) (divL p T r (invI p by')) w' := by
  obtain ⟨vs, us, t, s1, s2⟩ := h.ex
  have lR := hf.lR
  have lT := hf.lT
  refine (step_do p 1 r 0 by' v u vs us R T (divL p R r (invI p by')) (divL p T r (invI p by')) B N bp br ba w h.cap t (fun k hk => hN k (hk.mono s1 s2)) (Or.inl rfl) (fun w1 h1 => ?_) (fun w1 h1 => ?_)).mono ?_
  · refine (divide_any p r by' v vs R B w1 h1 (by omega) (by omega) (fun row hrow => by rw [(hf.oR row hrow).1]; omega) hp hp2 hb.1 hb.2 (ok_small hf.oR hp2)).mono ?_
    rintro e w' ⟨rfl, h1, h2⟩
    exact ⟨rfl, vs, h1, fun x h => h, h2⟩
  · refine (divide_any p r by' u us T B w1 h1 (by omega) (by omega) (fun row hrow => by rw [(hf.oT row hrow).1]; omega) hp hp2 hb.1 hb.2 (ok_small hf.oT hp2)).mono ?_
    rintro e w' ⟨rfl, h1, h2⟩
    exact ⟨rfl, us, h1, fun x h => h, h2⟩
  · rintro e w' ⟨rfl, vs', us', hx⟩
    exact ⟨rfl, h.next s1 s2 hN hx⟩
def subL (p : Int) (L : List (List Int)) (r k : Nat) (by' : Int) : List (List Int) := L.set r (addT p (L.getD r []) (-by') (L.getD k []))
theorem mid_sub (r k : Nat) (by' : Int) (h : Mid B N bp br ba p v u vs0 us0 w0 R T w) (hf : Fit p m n n' R T) (hN : ∀ k, Feet v vs0 u us0 k → k < N) (hr : r < m) (hk : k < m) (hne : r ≠ k) (hm : m ≤ 1000) (hn : n ≤ 1000) (hn' : n' ≤ 1000) (hp : 2 ≤ p) (hp2 : p ≤ 1000) (hb : 0 ≤ by' ∧ by' ≤ 1000) :
    Calls Tryd.prog 128 #[opV 2 r k by', .pointer (some ⟨bp, 0, none⟩), .pointer (some ⟨br, 0, none⟩), .pointer (some ⟨ba, 0, none⟩)] w fun e w' => e = .returned (.tuple #[]) ∧ Mid B N bp br ba p v u vs0 us0 w0 (subL p R r k by') (subL p T r k by') w' := by
  obtain ⟨vs, us, t, s1, s2⟩ := h.ex
  have lR := hf.lR
  have lT := hf.lT
  refine (step_do p 2 r k by' v u vs us R T (subL p R r k by') (subL p T r k by') B N bp br ba w h.cap t (fun k hk => hN k (hk.mono s1 s2)) (Or.inr (Or.inl rfl)) (fun w1 h1 => ?_) (fun w1 h1 => ?_)).mono ?_
  · refine (subtract_any p r k by' v vs R B n w1 h1 (by omega) (by omega) hne (by omega) (by omega) (fun row hrow => (hf.oR row hrow).1) hp hp2 hb.1 hb.2 (ok_small hf.oR hp2)).mono ?_
    rintro e w' ⟨rfl, h1, h2⟩
    exact ⟨rfl, vs, h1, fun x h => h, h2⟩
  · refine (subtract_any p r k by' u us T B n' w1 h1 (by omega) (by omega) hne (by omega) (by omega) (fun row hrow => (hf.oT row hrow).1) hp hp2 hb.1 hb.2 (ok_small hf.oT hp2)).mono ?_
    rintro e w' ⟨rfl, h1, h2⟩
    exact ⟨rfl, us, h1, fun x h => h, h2⟩
  · rintro e w' ⟨rfl, vs', us', hx⟩
    exact ⟨rfl, h.next s1 s2 hN hx⟩
/-- reading an element of the rows -/
theorem Mid.elem (h : Mid B N bp br ba p v u vs0 us0 w0 R T w) (hf : Fit p m n n' R T) {i c : Nat} (hi : i < m) (hc : c < n) :
    ∃ g cap gi ci, v = .slice (some ⟨g, 0, none⟩) m cap ∧ w.cell? ⟨g, i, none⟩ = some (.slice (some ⟨gi, 0, none⟩) n ci) ∧ w.cell? ⟨gi, c, none⟩ = some (.int .i64 (at2 R i c)) := by
  obtain ⟨vs, us, t, _, _⟩ := h.ex
  have lR := hf.lR
  obtain ⟨g, cap, rfl, _⟩ := t.mR.head (by intro h; rw [h] at lR; simp at lR; omega)
  have hrow := hf.oR _ (getD_memL (show i < R.length by omega))
  obtain ⟨gi, ci, he, _⟩ := (t.mR.row i).parts (by intro h; rw [h] at hrow; have := hrow.1; simp at this; omega)
  have hc1 := t.mR.cell rfl (j := i) (by omega)
  have hc2 := t.mR.row i
  rw [he] at hc1 hc2
  have hc3 := hc2.cell rfl (j := c) (by rw [hrow.1]; exact hc)
  rw [hrow.1] at hc1
  refine ⟨g, cap, gi, ci, by rw [lR], hc1, ?_⟩
  rw [hc3]
  unfold at2
  rw [getD_ltL (by rw [hrow.1]; exact hc)]
end

/-! ### clearing row by row -/
def clearTo (p : Int) (R : List (List Int)) (c r : Nat) (A : List (List Int)) (i : Nat) : List (List Int) := A.mapIdx fun j row => if j < i then clearRow p R c r (A.getD r []) j row else row
theorem clearTo_zero (p : Int) (R A : List (List Int)) (c r : Nat) : clearTo p R c r A 0 = A := by
  unfold clearTo
  refine List.ext_getElem (by simp) fun j h1 h2 => ?_
  simp
theorem clearTo_all (p : Int) (R A : List (List Int)) (c r : Nat) : clearTo p R c r A A.length = clearL p R c r A := by
  unfold clearTo clearL
  refine List.ext_getElem (by simp) fun j h1 h2 => ?_
  have : j < A.length := by simpa using h1
  simp [this]
theorem clearTo_len (p : Int) (R A : List (List Int)) (c r i : Nat) : (clearTo p R c r A i).length = A.length := by simp [clearTo]
theorem clearTo_get (p : Int) (R A : List (List Int)) (c r i j : Nat) : (clearTo p R c r A i).getD j [] = if j < i ∧ j < A.length then clearRow p R c r (A.getD r []) j (A.getD j []) else A.getD j [] := by
  unfold clearTo
  simp only [List.getD_eq_getElem?_getD, List.getElem?_mapIdx]
  rcases Nat.lt_or_ge j A.length with h | h
  · rw [List.getElem?_eq_getElem h]
    by_cases hj : j < i
    · simp [hj, h]
    · simp [hj]
  · rw [List.getElem?_eq_none h]
    simp
    intro _ h'
    omega
theorem clearTo_row (p : Int) (R A : List (List Int)) (c r i : Nat) : (clearTo p R c r A i).getD r [] = A.getD r [] := by
  rw [clearTo_get]
  split
  · unfold clearRow; simp
  · rfl
theorem clearTo_skip {p : Int} {R A : List (List Int)} {c r i : Nat} (h : ¬ (i ≠ r ∧ at2 R i c ≠ 0)) : clearTo p R c r A (i + 1) = clearTo p R c r A i := by
  unfold clearTo
  refine List.ext_getElem (by simp) fun j h1 h2 => ?_
  simp only [List.getElem_mapIdx]
  by_cases hj : j < i
  · rw [if_pos hj, if_pos (by omega)]
  · rw [if_neg hj]
    by_cases hj2 : j = i
    · subst hj2
      rw [if_pos (by omega)]
      unfold clearRow
      rw [if_neg h]
    · rw [if_neg (by omega)]
theorem getD_row {A : List (List Int)} {i : Nat} (hi : i < A.length) : A.getD i [] = A[i] := by
  rw [List.getD_eq_getElem?_getD, List.getElem?_eq_getElem hi]; rfl
theorem clearTo_elem {p : Int} {R A : List (List Int)} {c r i j : Nat} (hj : j < A.length) {h : j < (clearTo p R c r A i).length} : (clearTo p R c r A i)[j] = if j < i then clearRow p R c r (A.getD r []) j A[j] else A[j] := by
  simp [clearTo]
theorem clearTo_do {p : Int} {R A : List (List Int)} {c r i : Nat} (hi : i < A.length) (h : i ≠ r ∧ at2 R i c ≠ 0) : clearTo p R c r A (i + 1) = subL p (clearTo p R c r A i) i r (at2 R i c) := by
  unfold subL
  rw [clearTo_row, clearTo_get, if_neg (by omega)]
  refine List.ext_getElem (by simp [clearTo_len]) fun j h1 h2 => ?_
  have hj1 : j < A.length := by rw [clearTo_len] at h1; exact h1
  rw [List.getElem_set, clearTo_elem hj1]
  by_cases hj2 : i = j
  · subst hj2
    rw [if_pos (by omega), if_pos rfl]
    unfold clearRow
    rw [if_pos h, getD_row hi]
  · rw [if_neg hj2, clearTo_elem hj1]
    by_cases hj : j < i
    · rw [if_pos hj, if_pos (by omega)]
    · rw [if_neg hj, if_neg (by omega)]
theorem clearTo_at {p : Int} {R : List (List Int)} {c r i : Nat} : at2 (clearTo p R c r R i) i c = at2 R i c := by
  unfold at2
  rw [clearTo_get, if_neg (by omega)]
section
variable {p : Nat} [NeZero p]
theorem clearTo_ok {n c r i : Nat} {R A : List (List Int)} (h : RowsOk p n A) (hr : r < A.length) : RowsOk p n (clearTo p R c r A i) := by
  intro row hrow
  unfold clearTo at hrow
  obtain ⟨j, hj, rfl⟩ := List.getElem_of_mem hrow
  rw [List.getElem_mapIdx]
  simp only [List.length_mapIdx] at hj
  split
  · exact clearRow_ok (h _ (getD_memL hr)).1 (h _ (List.getElem_mem hj))
  · exact h _ (List.getElem_mem hj)
end
theorem redTo_stop {q : Int} {R T : List (List Int)} {c : Nat} (hr : (redTo q R T c).R.length ≤ (redTo q R T c).r) : ∀ d, redTo q R T (c + d) = redTo q R T c := by
  intro d
  induction d with
  | zero => rfl
  | succ d ih =>
    have e : c + (d + 1) = (c + d) + 1 := by omega
    rw [e]
    show stepL q (c + d) (redTo q R T (c + d)) = _
    rw [ih]
    unfold stepL pivAt
    have : (redTo q R T c).R.length - (redTo q R T c).r = 0 := by omega
    rw [this]
    rfl
end Go.Proofs.YtghfifpicklonaaDoor

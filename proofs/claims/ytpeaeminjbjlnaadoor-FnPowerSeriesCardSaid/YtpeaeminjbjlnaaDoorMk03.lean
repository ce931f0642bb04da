/-
  Rows of the call's own: a multiple added in place; new rows. Conditions: the elements are small.
-/
import Derived.Test.YtpeaeminjbjlnaaDoorMk02
namespace Go.Proofs.YtpeaeminjbjlnaaDoor
open Go.RowKit
set_option linter.unusedVariables false

theorem addT_getD {p k : Int} {x y : List Int} (hl : x.length = y.length) {j : Nat} (hj : j < x.length) : (addT p x k y).getD j 0 = (x.getD j 0 + k * y.getD j 0) % p := by
  unfold addT
  simp only [List.getD_eq_getElem?_getD]
  rw [List.getElem?_zipWith, List.getElem?_eq_getElem hj, List.getElem?_eq_getElem (show j < y.length by omega)]
  simp
theorem getD_set_self {zs : List Int} {j : Nat} (hj : j < zs.length) (x : Int) : (zs.set j x).getD j 0 = x := by
  rw [List.getD_eq_getElem?_getD, List.getElem?_set_self hj]; rfl
theorem getD_set_ne {zs : List Int} {i j : Nat} (h : i ≠ j) (x : Int) : (zs.set i x).getD j 0 = zs.getD j 0 := by
  rw [List.getD_eq_getElem?_getD, List.getElem?_set_ne h, ← List.getD_eq_getElem?_getD]
theorem list_ext_getD {x y : List Int} (hl : x.length = y.length) (h : ∀ j, j < x.length → x.getD j 0 = y.getD j 0) : x = y := by
  refine List.ext_getElem hl fun j h1 h2 => ?_
  have := h j h1
  simpa [List.getD_eq_getElem?_getD, h1, h2] using this
theorem getD_lt {x : List Int} {j : Nat} (h : j < x.length) : x.getD j 0 = x[j] := by simp [List.getD_eq_getElem?_getD, h]
theorem mul_bd2 {a b A B : Int} (ha : -A ≤ a ∧ a ≤ A) (hb : 0 ≤ b ∧ b ≤ B) (hA : 0 ≤ A) (hB : 0 ≤ B) : -(A * B) ≤ a * b ∧ a * b ≤ A * B := by
  have h1 : a * b ≤ A * b := Int.mul_le_mul_of_nonneg_right ha.2 hb.1
  have h2 : A * b ≤ A * B := Int.mul_le_mul_of_nonneg_left hb.2 hA
  have h3 : -A * b ≤ a * b := Int.mul_le_mul_of_nonneg_right ha.1 hb.1
  rw [Int.neg_mul] at h3
  omega

theorem addTimes_any (p by' : Int) (v u : Value) (x y : List Int) (B : Nat) (w : World) (hv : OwnInts B w v x) (hu : IntsV w u y) (hap : x ≠ [] → ∀ k, Hits v k → Value.blk' u ≠ some k) (hl : x.length = y.length) (hlm : x.length ≤ 1000000)
    (hp : 2 ≤ p) (hp2 : p ≤ 1000) (hb0 : -1000 ≤ by') (hb1 : by' ≤ 1000) (hx : ∀ z ∈ x, 0 ≤ z ∧ z ≤ 1000) (hy : ∀ z ∈ y, 0 ≤ z ∧ z ≤ 1000) :
    Calls Tryd.prog 244 #[.int .i64 p, v, .int .i64 by', u] w fun e w' => e = .returned (.tuple #[]) ∧ OwnInts B w' v (addT p x by' y) ∧ Only (Hits v) w w' := by
  have HX := Lib.hid hx; have HY := Lib.hid hy; have HU := Lib.hid hu; have HV := Lib.hid hv; have HAP := Lib.hid hap; have HL := Lib.hid hl
  obtain ⟨ua, ucap, rfl, ui⟩ := hu
  clear ui hv hx hy hap
  rw [← hl]
  generalize hlen : x.length = l at *
  have HLX := Lib.hid hlen
  clear hlen hl
  go_enter Tryd.func244, Tryd.ntmps244
  go_wp2
  go_loopw [12] (fun i wr => ∃ (k : Nat) (zs : List Int), k ≤ l ∧ i = .int .i64 k ∧ zs.length = x.length ∧ (∀ j, j < k → zs.getD j 0 = (x.getD j 0 + by' * y.getD j 0) % p) ∧ (∀ j, k ≤ j → zs.getD j 0 = x.getD j 0) ∧ OwnInts B wr v zs ∧ Only (Hits v) w wr) (fun i _ => l - (intOf i).toNat)
  case atStart => exact ⟨0, x, by omega, rfl, rfl, fun _ h => absurd h (by omega), fun _ _ => rfl, HV.out, Only.refl _ _⟩
  case round =>
    obtain ⟨k, zs, hk, rfl, hz, h1, h2, ho, hon⟩ := hrel
    have HZ := Lib.hid hz; have H1 := Lib.hid h1; have H2 := Lib.hid h2; have HO := Lib.hid ho; have HON := Lib.hid hon
    clear hz h1 h2 ho hon
    by_cases hlt : k < l
    · have hkx : k < x.length := by rw [HLX.out]; exact hlt
      have hky : k < y.length := by rw [← HL.out]; exact hlt
      have hkz : k < zs.length := by rw [HZ.out]; exact hkx
      have hu' := (HU.out.only HON.out fun g hg hh => HAP.out (by intro h; rw [h] at hkx; simp at hkx) g hh hg).at hky
      obtain ⟨d, rfl, hs, hd, hc⟩ := hu'
      obtain ⟨db, dof, _⟩ := d
      simp only at hs hc
      subst hs
      obtain ⟨g, cap, hve, hg0, hg1, hhit⟩ := HO.out.parts (by intro h; rw [h] at hkz; simp at hkz)
      have hzl : zs.length = l := by rw [HZ.out, HLX.out]
      rw [hzl] at hve
      subst hve
      have hcell := HO.out.cell hzl.symm hkz
      have hfree := HO.out.free hzl.symm k
      have hput := fun n => HO.out.put hzl.symm k n
      have HP := Lib.hid hput
      have e1 : zs[k] = x.getD k 0 := by rw [← getD_lt hkz]; exact H2.out k (Nat.le_refl _)
      have e2 : y[k] = y.getD k 0 := (getD_lt hky).symm
      have b1 := HX.out _ (List.getElem_mem hkx)
      rw [← getD_lt hkx] at b1
      have b2 := HY.out _ (List.getElem_mem hky)
      rw [e2] at b2 hc
      rw [e1] at hcell
      clear hput e1 e2 hd hg0 hg1 hhit
      generalize hxk : x.getD k 0 = xk at *
      generalize hyk : y.getD k 0 = yk at *
      have HXK := Lib.hid hxk; have HYK := Lib.hid hyk; have HZL := Lib.hid hzl
      clear hxk hyk hzl hkx hky hkz
      have b3 := mul_bd2 (A := 1000) (B := 1000) ⟨hb0, hb1⟩ b2 (by omega) (by omega)
      go_wp2_with (go_at_call 236; refine (mod_all p (xk + by' * yk) (by omega) hp2 (by omega) (by omega) _).mono ?_; rintro e w' ⟨rfl, rfl⟩)
      go_roundw
      case rel =>
        have hkz : k < zs.length := by rw [HZL.out]; exact hlt
        refine ⟨k + 1, zs.set k ((xk + by' * yk) % p), by omega, by go_num, by rw [List.length_set]; exact HZ.out, fun j hj => ?_, fun j hj => ?_, (HP.out _).1, HON.out.trans ((HP.out _).2.mono fun g hg => by rw [hg]; rfl)⟩
        · by_cases hjk : k = j
          · subst hjk
            rw [getD_set_self hkz, HXK.out, HYK.out]
          · rw [getD_set_ne hjk]
            exact H1.out j (by omega)
        · rw [getD_set_ne (by omega)]
          exact H2.out j (by omega)
      case measure => simp [intOf]; omega
    · have hfin : zs = addT p x by' y := by
        refine list_ext_getD (by rw [HZ.out]; have h1 := HL.out; have h2 := HLX.out; simp [addT]; omega) fun j hj => ?_
        have hjx : j < x.length := by rw [← HZ.out]; exact hj
        rw [addT_getD (HLX.out.trans HL.out) hjx]
        exact H1.out j (by have := HLX.out; omega)
      have HF := Lib.hid hfin
      clear hfin
      go_wp2
      go_end0
      exact ⟨rfl, by rw [← HF.out]; exact HO.out, HON.out⟩

end Go.Proofs.YtpeaeminjbjlnaaDoor

/-
  New rows and new lists of rows: copies, zeros, units, appended rows. Conditions: lengths are small.
-/
namespace Go.Proofs.YtpeaeminjbjlnaaDoor
open Go.RowKit
set_option linter.unusedVariables false

theorem run_nil_any {P : Program} (w : World) (base : Nat) (t ty e : TypeId) (i : TypeInfo) (size : Nat) (ht : P.underlying t = some (.slice e)) (hi : P.info? e = some i)
    (v : Value) (n : Nat) (xs : List Value) (hown : w.ownsRow base e size v n xs) (c : Nat) : (Builtin.append_ #[t, t] ty #[v, .slice none 0 c]).run P w = .ok v w := by
  rcases hown.2 with ⟨rfl, rfl⟩ | ⟨g, cap, cur, rfl, _, _, hnc, _⟩
  · simp [Builtin.append_, run_underlying ht, sizeOf, typeInfo, hi, Builtin.lenOf, Builtin.firstCells]
  · simp [Builtin.append_, run_underlying ht, sizeOf, typeInfo, hi, Builtin.lenOf, Builtin.firstCells, hnc, storeCells]

/-- 'append(out, ys...)', out the call's own, ys readable: nil, empty or not. -/
theorem app_ints {ops : Array Oper} {rest : List Oper} {o : Oper} {a : Act} {Q : Exit → Act → World → Prop} (hgd : o.guard = none) (s x : Operand)
    (ho : o.op = .call { callee := .builtin .append, args := #[s, x], argTypes := #[24, 24] })
    {B : Nat} {w : World} {v u : Value} {zs ys : List Int} (hs : a.eval s = v) (hx : a.eval x = u) (hu : IntsV w u ys)
    (hown : OwnInts B w v zs) (hB : B ≤ w.heap.size) (hl : zs.length + ys.length ≤ 1000000000)
    (h : ∀ v' w', OwnInts B w' v' (zs ++ ys) → Below B w w' → wpList Tryd.prog ops Q rest (a.put o.dst v') w') :
    wpList Tryd.prog ops Q (o :: rest) a w := by
  obtain ⟨i0, hi, hz0, hz1, hz2⟩ := info_parts info_int
  obtain ⟨ua, ucap, rfl, hr⟩ := hu
  cases ua with
  | none =>
    have hy : ys = [] := by
      cases ys with
      | nil => rfl
      | cons z zs => obtain ⟨d, hd, _⟩ := hr (by simp); cases hd
    subst hy
    refine wpList_plain hgd fun K hK => ?_
    have hrun := run_nil_any (P := Tryd.prog) w B 24 o.type 3 i0 1 Tryd.underlying24 hi v zs.length _ hown ucap
    unfold Oper.wp execOp
    simp only [ho, resolve, invoke, builtin, Sem.run_bind, Sem.run_pure, Result.andThen_ok, List.map_toArray, List.map_cons, List.map_nil, hs, hx, List.length_nil, hrun]
    exact hK _ _ (h v w (by simpa using hown) (Below.refl _ _))
  | some d =>
    refine wpList_append_own _ hgd s x 24 ho B 3 i0 (.int .i64 0) 1 8 Tryd.underlying24 hi hz0 hz1 hz2 rfl (by decide) v zs.length (zs.map (Value.int .i64)) hs hown
      d ys.length ucap (ys.map (Value.int .i64)) hx (by simp) ?_ ?_ (by unfold maxLen; omega) (by omega) hB ?_
    · intro j u hj
      have hjy : j < ys.length := by
        rcases Nat.lt_or_ge j ys.length with h | h
        · exact h
        · rw [List.getElem?_eq_none (by simpa using h)] at hj; cases hj
      obtain ⟨d', hd, hsp, hdb, hc⟩ := hr (by intro h; rw [h] at hjy; simp at hjy)
      cases hd
      have := hc j hjy
      simp [hjy] at hj
      subst hj
      obtain ⟨db, dof, _⟩ := d
      simp only at hsp
      subst hsp
      unfold Addr.add; split
      · next h0 => subst h0; simpa using this
      · exact this
    · intro u hu
      obtain ⟨z, _, rfl⟩ := List.mem_map.1 hu
      rfl
    · intro v' w1 hown' hgrow _
      refine h v' w1 (by unfold OwnInts; rw [List.length_append, List.map_append]; exact hown') ?_
      exact (Below.refl B w).grown hgrow hB fun k hk => (hown.lt k hk).1

theorem clone_any (u : Value) (ys : List Int) (w : World) (hu : IntsV w u ys) (hl : ys.length ≤ 1000000) :
    Calls Tryd.prog 112 #[u] w fun e w' => ∃ v, e = .returned v ∧ OwnInts w.heap.size w' v ys ∧ w.grownBy w' none := by
  have HU := Lib.hid hu
  obtain ⟨ua, ucap, rfl, hx⟩ := hu
  clear hx
  go_enter Tryd.func112, Tryd.ntmps112
  go_wp2_with (at_builtin; go_loud (refine app_ints rfl _ _ rfl rfl rfl (HU.out.carry (grownBy_alloc _ _ _)) (OwnInts.empty (Nat.le_refl _) rfl) (by simp) (by simp; omega) ?_); intro v' w1 hown' hbel')
  have H1 := Lib.hid hown'; have H2 := Lib.hid hbel'
  clear hown' hbel'
  go_wp2
  go_ret
  exact ⟨v', rfl, by have := H1.out; simpa using this, grown_of_below (((Below.refl _ _).alloc (Nat.le_refl _) _).trans H2.out)⟩

theorem madeCells_int (n : Nat) : (madeCells (Value.int .i64 0).cells (n * 1)).toList = (List.replicate n (0 : Int)).map (Value.int .i64) := by
  rw [List.map_replicate]
  refine List.ext_getElem (by simp [madeCells]) fun j h1 h2 => ?_
  simp [madeCells, Value.cells, Nat.mod_one]

theorem zeros_any (n : Nat) (w : World) (hl : n ≤ 1000000) :
    Calls Tryd.prog 243 #[.int .i64 n] w fun e w' => ∃ v, e = .returned v ∧ OwnInts w.heap.size w' v (List.replicate n 0) ∧ w.grownBy w' none := by
  obtain ⟨i0, hi, hz0, hz1, hz2⟩ := info_parts info_int
  have HI := Lib.hid hi; have HZ0 := Lib.hid hz0; have HZ1 := Lib.hid hz1; have HZ2 := Lib.hid hz2
  clear hi hz0 hz1 hz2
  go_enter Tryd.func243, Tryd.ntmps243
  go_wp2_with (at_make; refine wpList_make_full _ rfl _ _ 24 rfl w.heap.size 3 i0 (.int .i64 0) 1 Tryd.underlying24 HI.out HZ0.out HZ1.out _ _ _ _ n rfl rfl rfl rfl (by rw [HZ2.out]; omega) (by unfold maxLen; omega) (Nat.le_refl _) ?_; intro w1 hown' hgr')
  have H1 := Lib.hid hown'; have H2 := Lib.hid hgr'
  clear hown' hgr'
  go_wp2
  go_ret
  refine ⟨_, rfl, ?_, H2.out⟩
  have := H1.out
  rw [madeCells_int] at this
  unfold OwnInts
  rw [List.length_replicate]
  exact this

theorem unit_any (n i : Nat) (w : World) (hl : n ≤ 1000000) (hi : i < n) :
    Calls Tryd.prog 209 #[.int .i64 n, .int .i64 i] w fun e w' => ∃ v, e = .returned v ∧ OwnInts w.heap.size w' v (unitL n i) ∧ w.grownBy w' none := by
  go_enter Tryd.func209, Tryd.ntmps209
  have hlen : (List.replicate n (0 : Int)).length = n := List.length_replicate
  have HLEN := Lib.hid hlen
  clear hlen
  go_wp2_with (
    go_at_call 243
    refine (zeros_any n w hl).mono ?_
    rintro e w1 ⟨v, rfl, hv, hg⟩
    have HG := Lib.hid hg
    obtain ⟨g, cap, hve, hg0, hg1, hhit⟩ := hv.parts (by intro h; have := HLEN.out; rw [h] at this; simp at this; omega)
    rw [HLEN.out] at hve
    subst hve
    have hcell := hv.cell HLEN.out.symm (j := i) (by rw [HLEN.out]; exact hi)
    have hfree := hv.free HLEN.out.symm i
    have HP := Lib.hid (hv.put HLEN.out.symm i 1)
    have HV := Lib.hid hv
    rw [List.getElem_replicate] at hcell
    clear hv hg hg0 hg1 hhit)
  go_ret
  exact ⟨_, rfl, HP.out.1, Only.grown ((Only.of_grown (S := fun k => w.heap.size ≤ k) HG.out (by simp)).trans (HP.out.2.mono fun k hk => by rw [hk]; exact (HV.out.lt _ rfl).1) |> fun h => ⟨h.os, h.tape, h.output, h.size, fun k hk _ => h.block k hk (by simp; omega)⟩)⟩

end Go.Proofs.YtpeaeminjbjlnaaDoor

/-
  Lists of rows that are the call's own: the list's cells and the rows, no two in one block. Copies of lists of rows, and units. Conditions: lengths are small.
-/
namespace Go.Proofs.YtpeaeminjbjlnaaDoor
open Go.RowKit
set_option linter.unusedVariables false

def nilS : Value := .slice none 0 0
theorem nil_hits {k : Nat} : ¬ Hits nilS k := by simp [Hits, nilS, Value.ownBlock]
/-- The list v of the rows vs, holding L. -/
structure OwnM (B : Nat) (w : World) (v : Value) (vs : List Value) (L : List (List Int)) : Prop where
  len : vs.length = L.length
  out : w.ownsRow B 24 1 v vs.length vs
  row : ∀ i, OwnInts B w (vs.getD i nilS) (L.getD i [])
  ap : ∀ i j, i ≠ j → Apart (vs.getD i nilS) (vs.getD j nilS)
/-- The blocks that a list of rows takes. -/
def Foot (v : Value) (vs : List Value) (k : Nat) : Prop := Hits v k ∨ ∃ x ∈ vs, Hits x k
theorem Foot.at {v : Value} {vs : List Value} {i k : Nat} (h : Hits (vs.getD i nilS) k) : Foot v vs k := by
  rcases Nat.lt_or_ge i vs.length with hi | hi
  · rw [List.getD_eq_getElem?_getD, List.getElem?_eq_getElem hi] at h
    exact Or.inr ⟨_, List.getElem_mem hi, h⟩
  · rw [List.getD_eq_getElem?_getD, List.getElem?_eq_none hi] at h
    exact absurd h nil_hits
theorem own_block {B : Nat} {w : World} {e : TypeId} {n : Nat} {v : Value} {xs : List Value} (h : w.ownsRow B e 1 v n xs) {k : Nat} (hk : Hits v k) : ∃ cur, w.heap[k]? = some (.cells cur e (0, 0)) := by
  rcases h.2 with ⟨rfl, _⟩ | ⟨g, cap, cur, rfl, _, hh, _⟩
  · exact absurd hk nil_hits
  · simp only [Hits, Value.ownBlock, Option.some.injEq] at hk
    subst hk
    exact ⟨cur, hh⟩
/-- Rows and lists of rows never share a block: their elements' types differ. -/
theorem apart_types {B B' : Nat} {w : World} {e e' : TypeId} {n n' : Nat} {v v' : Value} {xs xs' : List Value} (h : w.ownsRow B e 1 v n xs) (h' : w.ownsRow B' e' 1 v' n' xs') (hne : e ≠ e') : Apart v v' := by
  intro k hk hk'
  obtain ⟨c1, e1⟩ := own_block h hk
  obtain ⟨c2, e2⟩ := own_block h' hk'
  rw [e1] at e2
  simp only [Option.some.injEq, Obj.cells.injEq] at e2
  exact hne e2.2.1
theorem OwnM.lt {B : Nat} {w : World} {v : Value} {vs : List Value} {L : List (List Int)} (h : OwnM B w v vs L) {k : Nat} (hk : Foot v vs k) : B ≤ k ∧ k < w.heap.size := by
  rcases hk with hk | ⟨x, hx, hk⟩
  · exact World.ownsRow.lt h.out k hk
  · obtain ⟨i, hi, rfl⟩ := List.getElem_of_mem hx
    have := h.row i
    rw [List.getD_eq_getElem?_getD, List.getElem?_eq_getElem hi] at this
    exact this.lt k hk
theorem owns_only {B : Nat} {w w' : World} {e : TypeId} {n : Nat} {v : Value} {xs : List Value} {S : Nat → Prop} (h : w.ownsRow B e 1 v n xs) (ho : Only S w w') (hs : ∀ k, Hits v k → ¬ S k) : w'.ownsRow B e 1 v n xs := by
  obtain ⟨h1, h2⟩ := h
  refine ⟨h1, ?_⟩
  rcases h2 with h2 | ⟨g, cap, cur, hv, hg, hh, r⟩
  · exact Or.inl h2
  · have hlt : g < w.heap.size := by
      rcases Nat.lt_or_ge g w.heap.size with h | h
      · exact h
      · rw [Array.getElem?_eq_none h] at hh; cases hh
    exact Or.inr ⟨g, cap, cur, hv, hg, (ho.block g hlt (hs g (by rw [hv]; rfl))).trans hh, r⟩
theorem OwnM.only {B : Nat} {S : Nat → Prop} {w w' : World} {v : Value} {vs : List Value} {L : List (List Int)} (h : OwnM B w v vs L) (ho : Only S w w') (hs : ∀ k, Foot v vs k → ¬ S k) : OwnM B w' v vs L :=
  ⟨h.len, owns_only h.out ho fun k hk => hs k (Or.inl hk), fun i => (h.row i).only ho fun k hk => hs k (Foot.at hk), h.ap⟩
theorem OwnM.carry {B : Nat} {w w' : World} {v : Value} {vs : List Value} {L : List (List Int)} (h : OwnM B w v vs L) (hg : w.grownBy w' none) : OwnM B w' v vs L :=
  h.only (Only.of_grown (S := fun _ => False) hg (by simp)) fun _ _ hf => hf
theorem OwnM.base {B B' : Nat} {w : World} {v : Value} {vs : List Value} {L : List (List Int)} (h : OwnM B w v vs L) (hB : B' ≤ B) : OwnM B' w v vs L := by
  refine ⟨h.len, ?_, fun i => (h.row i).base hB, h.ap⟩
  obtain ⟨h1, h2⟩ := h.out
  refine ⟨h1, ?_⟩
  rcases h2 with h2 | ⟨g, cap, cur, hv, hg, r⟩
  · exact Or.inl h2
  · exact Or.inr ⟨g, cap, cur, hv, Nat.le_trans hB hg, r⟩
theorem OwnM.start {B : Nat} {w : World} {v : Value} (h : w.ownsRow B 24 1 v 0 []) : OwnM B w v [] [] :=
  ⟨rfl, h, fun i => by simp only [List.getD_nil]; exact OwnInts.nil B w, fun i j _ k hk => absurd hk (by simp only [List.getD_nil]; exact nil_hits)⟩
/-- a fresh row joins -/
theorem OwnM.join {B : Nat} {w : World} {v' u : Value} {vs : List Value} {L : List (List Int)} {zs : List Int} (hl : vs.length = L.length) (hrow : ∀ i, OwnInts B w (vs.getD i nilS) (L.getD i []))
    (hap : ∀ i j, i ≠ j → Apart (vs.getD i nilS) (vs.getD j nilS)) (hu : OwnInts B w u zs) (hua : ∀ i, Apart (vs.getD i nilS) u) (hv : w.ownsRow B 24 1 v' (vs ++ [u]).length (vs ++ [u])) : OwnM B w v' (vs ++ [u]) (L ++ [zs]) := by
  have g1 : ∀ i, (vs ++ [u]).getD i nilS = if i < vs.length then vs.getD i nilS else if i = vs.length then u else nilS := by
    intro i
    simp only [List.getD_eq_getElem?_getD, List.getElem?_append]
    split
    · rfl
    · next h1 =>
      split
      · next h2 => subst h2; simp
      · next h2 => rw [List.getElem?_eq_none (by simp; omega)]; rfl
  have g2 : ∀ i, (L ++ [zs]).getD i [] = if i < vs.length then L.getD i [] else if i = vs.length then zs else [] := by
    intro i
    rw [hl]
    simp only [List.getD_eq_getElem?_getD, List.getElem?_append]
    split
    · rfl
    · next h1 =>
      split
      · next h2 => subst h2; simp
      · next h2 => rw [List.getElem?_eq_none (by simp; omega)]; rfl
  refine ⟨by simp [hl], hv, fun i => ?_, fun i j hij => ?_⟩
  · rw [g1, g2]
    by_cases h1 : i < vs.length
    · rw [if_pos h1, if_pos h1]; exact hrow i
    · rw [if_neg h1, if_neg h1]
      by_cases h2 : i = vs.length
      · rw [if_pos h2, if_pos h2]; exact hu
      · rw [if_neg h2, if_neg h2]; exact OwnInts.nil B w
  · rw [g1, g1]
    by_cases h1 : i < vs.length
    · rw [if_pos h1]
      by_cases h3 : j < vs.length
      · rw [if_pos h3]; exact hap i j hij
      · rw [if_neg h3]
        by_cases h4 : j = vs.length
        · rw [if_pos h4]; exact hua i
        · rw [if_neg h4]; exact fun k _ h => nil_hits h
    · rw [if_neg h1]
      by_cases h2 : i = vs.length
      · rw [if_pos h2]
        by_cases h3 : j < vs.length
        · rw [if_pos h3]; exact (hua j).symm
        · rw [if_neg h3, if_neg (by omega)]; exact fun k _ h => nil_hits h
      · rw [if_neg h2]; exact fun k h => absurd h nil_hits
theorem OwnM.read {B : Nat} {w : World} {v : Value} {vs : List Value} {L : List (List Int)} (h : OwnM B w v vs L) : MatV w v L := by
  obtain ⟨h1, h2⟩ := h.out
  rcases h2 with ⟨rfl, h0⟩ | ⟨g, cap, cur, rfl, hg, hh, hc, hm, hs, ht⟩
  · refine ⟨none, 0, by rw [← h.len, h0], fun hz => absurd (List.eq_nil_of_length_eq_zero (by rw [← h.len, h0])) hz⟩
  · refine ⟨some ⟨g, 0, none⟩, cap, by rw [← h.len], fun _ => ⟨⟨g, 0, none⟩, rfl, rfl, ?_, fun i hi => ?_⟩⟩
    · rcases Nat.lt_or_ge g w.heap.size with h | h
      · exact h
      · rw [Array.getElem?_eq_none h] at hh; cases hh
    · have hi' : i < vs.length := by rw [h.len]; exact hi
      refine ⟨vs[i], ?_, ?_⟩
      · have hc := World.ownsRow.cellAt h.out i (by omega)
        simp only [Nat.zero_add]
        rw [hc]
        exact List.getElem?_eq_getElem hi'
      · have := (h.row i).read
        rw [List.getD_eq_getElem?_getD, List.getElem?_eq_getElem hi', List.getD_eq_getElem?_getD, List.getElem?_eq_getElem hi] at this
        exact this

theorem ints_one {B : Nat} {w : World} {v : Value} {zs : List Int} (h : OwnInts B w v zs) : v.oneCell' = true := by
  rcases h.2 with ⟨rfl, _⟩ | ⟨g, cap, cur, rfl, _⟩ <;> rfl

theorem own_shape {B : Nat} {w : World} {v : Value} {zs : List Int} (h : OwnInts B w v zs) : ∃ a c, v = .slice a zs.length c := by
  rcases h.2 with ⟨rfl, h0⟩ | ⟨g, cap, cur, rfl, _⟩
  · exact ⟨none, 0, by rw [h0]⟩
  · exact ⟨_, _, rfl⟩
/-- 'out = append(out, row)', the row the call's own and apart from all. -/
theorem app_row {ops : Array Oper} {rest : List Oper} {o : Oper} {a : Act} {Q : Exit → Act → World → Prop} (hgd : o.guard = none) (s x : Operand)
    (ho : o.op = .call { callee := .builtin .append, args := #[s, x], argTypes := #[37, 37] })
    {B : Nat} {w : World} {v u : Value} {vs : List Value} {L : List (List Int)} {zs : List Int} (hs : a.eval s = v) (hx : a.eval x = .slice (some ⟨w.heap.size, 0, none⟩) 1 1)
    (hown : OwnM B w v vs L) (hu : OwnInts B w u zs) (hua : ∀ i, Apart (vs.getD i nilS) u) (hB : B ≤ w.heap.size) (hl : L.length ≤ 1000000)
    (h : ∀ v' w', OwnM B w' v' (vs ++ [u]) (L ++ [zs]) → Only (Hits v) w w' → wpList Tryd.prog ops Q rest (a.put o.dst v') w') :
    wpList Tryd.prog ops Q (o :: rest) a (w.alloc (.cells #[u] 24)) := by
  obtain ⟨i0, hi, hz0, hz1, hz2⟩ := info_parts info_ints
  have hlen := hown.len
  have hgr := grownBy_alloc w (.cells #[u] 24) none
  have hown1 := hown.carry hgr
  have hu1 : OwnInts B (w.alloc (.cells #[u] 24)) u zs := hu.alloc _
  refine wpList_append_own _ hgd s x 37 ho B 24 i0 (.slice none 0 0) 1 24 Tryd.underlying37 hi hz0 hz1 hz2 rfl (by decide) v vs.length vs hs hown1.out
    ⟨w.heap.size, 0, none⟩ 1 1 [u] hx rfl ?_ ?_ (by unfold maxLen; omega) (by omega) (by simp; omega) ?_
  · intro j u' hj
    match j, hj with
    | 0, hj =>
      simp at hj
      subst hj
      simp only [Addr.add, if_true, World.cell?]
      rw [alloc_heap_new]
      rfl
    | j + 1, hj => simp at hj
  · intro u' hu'
    simp at hu'
    subst hu'
    exact ints_one hu
  · intro v' w1 hown' hgrow hnil
    have hon : Only (Hits v) (w.alloc (.cells #[u] 24)) w1 := Only.of_grown hgrow fun k hk => hk
    refine h v' w1 (OwnM.join hlen (fun i => (hown1.row i).only hon fun k hk hk' => ?_) hown.ap (hu1.only hon fun k hk hk' => ?_) hua (by simpa using hown')) ?_
    · exact apart_types hown1.out (hown1.row i) (by decide) k hk' hk
    · exact apart_types hown1.out hu1 (by decide) k hk' hk
    · exact (Only.of_grown (S := Hits v) hgr (by simp)).trans hon

theorem fresh_apart {B : Nat} {w w1 : World} {v u : Value} {vs : List Value} {L : List (List Int)} {zs : List Int} (h : OwnM B w v vs L) (hu : OwnInts w.heap.size w1 u zs) (i : Nat) : Apart (vs.getD i nilS) u := by
  intro k hk hk'
  have h1 := ((h.row i).lt k hk).2
  have h2 := (hu.lt k hk').1
  omega
theorem take_push {L : List (List Int)} {k : Nat} (h : k < L.length) : L.take k ++ [L[k]] = L.take (k + 1) := by simp
theorem Only.below' {B : Nat} {w w' : World} {v : Value} {vs : List Value} {L : List (List Int)} (h : OwnM B w v vs L) (ho : Only (Hits v) w w') (hB : B ≤ w.heap.size) : Below B w w' :=
  ho.below hB fun k hk => (h.lt (Or.inl hk)).1

theorem after_row {B : Nat} {wr w2 : World} {v u : Value} {vs : List Value} {L : List (List Int)} {zs : List Int} (h : OwnM B wr v vs L) (hB : B ≤ wr.heap.size) (hu : OwnInts wr.heap.size w2 u zs) (hg : wr.grownBy w2 none) :
    OwnM B w2 v vs L ∧ OwnInts B w2 u zs ∧ (∀ i, Apart (vs.getD i nilS) u) ∧ B ≤ w2.heap.size :=
  ⟨h.carry hg, hu.base hB, fun i => fresh_apart h hu i, Nat.le_trans hB hg.size⟩

theorem clones_any (u : Value) (L : List (List Int)) (w : World) (hu : MatV w u L) (hl : L.length ≤ 1000000) (hll : ∀ row ∈ L, row.length ≤ 1000000) :
    Calls Tryd.prog 118 #[u] w fun e w' => ∃ v vs, e = .returned v ∧ OwnM w.heap.size w' v vs L ∧ w.grownBy w' none := by
  obtain ⟨i0, hi, hz0, hz1, hz2⟩ := info_parts info_ints
  have HI := Lib.hid hi; have HZ0 := Lib.hid hz0; have HZ1 := Lib.hid hz1; have HZ2 := Lib.hid hz2
  have HU := Lib.hid hu; have HLL := Lib.hid hll
  obtain ⟨ua, ucap, rfl, hx⟩ := hu
  clear hi hz0 hz1 hz2 hx hll
  generalize hlen : L.length = l at *
  have HLEN := Lib.hid hlen
  clear hlen
  go_enter Tryd.func118, Tryd.ntmps118
  go_wp2_with (
    at_make
    refine wpList_make_own _ rfl _ _ 37 rfl w.heap.size 24 i0 (.slice none 0 0) 1 Tryd.underlying37 HI.out HZ0.out HZ1.out _ _ _ l rfl rfl rfl (by rw [HZ2.out]; omega) (by unfold maxLen; omega) (Nat.le_refl _) ?_
    intro w1 hown' hgr'
    have H1 := Lib.hid (OwnM.start hown'); have H2 := Lib.hid hgr'
    clear hown' hgr')
  go_loopw [3, 11] (fun v i wr => ∃ (k : Nat) (vs : List Value), k ≤ l ∧ i = .int .i64 k ∧ OwnM w.heap.size wr v vs (L.take k) ∧ Below w.heap.size w wr) (fun _ i _ => l - (intOf i).toNat)
  case atStart => exact ⟨0, [], by omega, rfl, H1.out, Below.grown (Below.refl _ _) H2.out (Nat.le_refl _) (by simp)⟩
  case round =>
    obtain ⟨k, vs, hk, rfl, hown, hbel⟩ := hrel
    have HO := Lib.hid hown; have HB := Lib.hid hbel
    have hsize := hbel.size
    clear hown hbel
    by_cases hlt : k < l
    · have hkl : k < L.length := by rw [HLEN.out]; exact hlt
      have hrow := (HU.out.carry (grown_of_below HB.out)).row hkl
      obtain ⟨d, r, c, rfl, hs, hd, hcell, hrow⟩ := hrow
      obtain ⟨db, dof, _⟩ := d
      simp only at hs hcell
      subst hs
      have hrl := HLL.out _ (List.getElem_mem hkl)
      have HR := Lib.hid hrow
      have HTP := Lib.hid (take_push hkl)
      generalize L[k] = z at *
      generalize hzl : z.length = zl at *
      have HZL := Lib.hid hzl
      clear hzl
      have A5 := Lib.hid (show (List.take k L).length ≤ 1000000 by rw [List.length_take]; omega)
      go_wp2_with (first
        | (go_at_call 112
           refine (clone_any _ z wr HR.out (by rw [HZL.out]; exact hrl)).mono ?_
           rintro e w2 ⟨uu, rfl, hu, hg⟩
           obtain ⟨ua2, uc2, rfl⟩ := own_shape hu
           have A := Lib.hid (after_row HO.out hsize hu hg)
           have HG2 := Lib.hid hg
           clear hu hg)
        | (at_builtin
           refine app_row rfl _ _ rfl rfl rfl A.out.1 A.out.2.1 A.out.2.2.1 A.out.2.2.2 A5.out ?_
           intro v' w3 hown' hon'
           have HO3 := Lib.hid hown'; have HN3 := Lib.hid (Only.below' A.out.1 hon' A.out.2.2.2)
           clear hown' hon'))
      go_roundw
      case rel => exact ⟨k + 1, _, by omega, by go_num, by have := HO3.out; rw [HTP.out] at this; exact this, (HB.out.grown HG2.out hsize (by simp)).trans HN3.out⟩
      case measure => simp [intOf]; omega
    · have hkl : L.take k = L := List.take_of_length_le (by have := HLEN.out; omega)
      have HK := Lib.hid hkl
      clear hkl
      go_wp2
      go_ret
      exact ⟨_, _, rfl, by have := HO.out; rw [HK.out] at this; exact this, grown_of_below HB.out⟩

theorem identityRows_any (n : Nat) (w : World) (hl : n ≤ 1000000) :
    Calls Tryd.prog 119 #[.int .i64 n] w fun e w' => ∃ v vs, e = .returned v ∧ OwnM w.heap.size w' v vs (idL n) ∧ w.grownBy w' none := by
  go_enter Tryd.func119, Tryd.ntmps119
  go_wp2
  go_loopw [3, 7] (fun v i wr => ∃ (k : Nat) (vs : List Value), k ≤ n ∧ i = .int .i64 k ∧ OwnM w.heap.size wr v vs ((idL n).take k) ∧ Below w.heap.size w wr) (fun _ i _ => n - (intOf i).toNat)
  case atStart => exact ⟨0, [], by omega, rfl, OwnM.start (World.ownsRow_made w #[] 0 (Nat.le_refl _) (by unfold maxLen; omega) rfl), (Below.refl _ _).alloc (Nat.le_refl _) _⟩
  case round =>
    obtain ⟨k, vs, hk, rfl, hown, hbel⟩ := hrel
    have HO := Lib.hid hown; have HB := Lib.hid hbel
    have hsize := hbel.size
    clear hown hbel
    by_cases hlt : k < n
    · have hkl : k < (idL n).length := by rw [idL_len]; exact hlt
      have HTP := Lib.hid (take_push hkl)
      have hz : (idL n)[k] = unitL n k := by simp [idL]
      have HZ := Lib.hid hz
      clear hz
      have A5 := Lib.hid (show (List.take k (idL n)).length ≤ 1000000 by rw [List.length_take, idL_len]; omega)
      go_wp2_with (first
        | (go_at_call 209
           refine (unit_any n k wr hl hlt).mono ?_
           rintro e w2 ⟨uu, rfl, hu, hg⟩
           obtain ⟨ua2, uc2, rfl⟩ := own_shape hu
           have A := Lib.hid (after_row HO.out hsize hu hg)
           have HG2 := Lib.hid hg
           clear hu hg)
        | (at_builtin
           refine app_row rfl _ _ rfl rfl rfl A.out.1 A.out.2.1 A.out.2.2.1 A.out.2.2.2 A5.out ?_
           intro v' w3 hown' hon'
           have HO3 := Lib.hid hown'; have HN3 := Lib.hid (Only.below' A.out.1 hon' A.out.2.2.2)
           clear hown' hon'))
      go_roundw
      case rel => exact ⟨k + 1, _, by omega, by go_num, by have := HO3.out; rw [← HZ.out, HTP.out] at this; exact this, (HB.out.grown HG2.out hsize (by simp)).trans HN3.out⟩
      case measure => simp [intOf]; omega
    · have hkl : (idL n).take k = idL n := List.take_of_length_le (by rw [idL_len]; omega)
      have HK := Lib.hid hkl
      clear hkl
      go_wp2
      go_ret
      exact ⟨_, _, rfl, by have := HO.out; rw [HK.out] at this; exact this, grown_of_below HB.out⟩

end Go.Proofs.YtpeaeminjbjlnaaDoor

/-
  New rows and new lists of rows: copies, zeros, units, appended rows. Conditions: lengths are small.
-/
import Derived.Test.YtpeaeminjbjlnaaDoorRow
namespace Go.Proofs.YtpeaeminjbjlnaaDoor
open Go.RowKit
set_option linter.unusedVariables false

theorem run_nil_any {P : Program} (w : World) (base : Nat) (t ty e : TypeId) (i : TypeInfo) (size : Nat) (ht : P.underlying t = some (.slice e)) (hi : P.info? e = some i)
    (v : Value) (n : Nat) (xs : List Value) (hown : w.ownsRow base e size v n xs) (c : Nat) : (Builtin.append_ #[t, t] ty #[v, .slice none 0 c]).run P w = .ok v w := by
  rcases hown.2 with ⟨rfl, rfl⟩ | ⟨g, cap, cur, rfl, _, _, hnc, _⟩
  · simp [Builtin.append_, run_underlying ht, sizeOf, typeInfo, hi, Builtin.lenOf, Builtin.firstCells]
  · simp [Builtin.append_, run_underlying ht, sizeOf, typeInfo, hi, Builtin.lenOf, Builtin.firstCells, hnc, storeCells]

/-- 'append(out, ys...)', out the call's own, ys readable: nil, empty or not. -/
theorem app_ints {ops : Array Oper} {rest : List Oper} {o : Oper} {a : Act} {Q : Exit → Act → World → Prop} (hgd : o.guard = none) (s x : Operand)
    (ho : o.op = .call { callee := .builtin .append, args := #[s, x], argTypes := #[24, 24] })
    {B : Nat} {w : World} {v u : Value} {zs ys : List Int} (hs : a.eval s = v) (hx : a.eval x = u) (hu : IntsV w u ys)
    (hown : OwnInts B w v zs) (hB : B ≤ w.heap.size) (hl : zs.length + ys.length ≤ 1000000000)
    (h : ∀ v' w', OwnInts B w' v' (zs ++ ys) → Below B w w' → wpList Tryd.prog ops Q rest (a.put o.dst v') w') :
    wpList Tryd.prog ops Q (o :: rest) a w := by
  obtain ⟨i0, hi, hz0, hz1, hz2⟩ := info_parts info_int
  obtain ⟨ua, ucap, rfl, hr⟩ := hu
  cases ua with
  | none =>
    have hy : ys = [] := by
      cases ys with
      | nil => rfl
      | cons z zs => obtain ⟨d, hd, _⟩ := hr (by simp); cases hd
    subst hy
    refine wpList_plain hgd fun K hK => ?_
    have hrun := run_nil_any (P := Tryd.prog) w B 24 o.type 3 i0 1 Tryd.underlying24 hi v zs.length _ hown ucap
    unfold Oper.wp execOp
    simp only [ho, resolve, invoke, builtin, Sem.run_bind, Sem.run_pure, Result.andThen_ok, List.map_toArray, List.map_cons, List.map_nil, hs, hx, List.length_nil, hrun]
    exact hK _ _ (h v w (by simpa using hown) (Below.refl _ _))
  | some d =>
    refine wpList_append_own _ hgd s x 24 ho B 3 i0 (.int .i64 0) 1 8 Tryd.underlying24 hi hz0 hz1 hz2 rfl (by decide) v zs.length (zs.map (Value.int .i64)) hs hown
      d ys.length ucap (ys.map (Value.int .i64)) hx (by simp) ?_ ?_ (by unfold maxLen; omega) (by omega) hB ?_
    · intro j u hj
      have hjy : j < ys.length := by
        rcases Nat.lt_or_ge j ys.length with h | h
        · exact h
        · rw [List.getElem?_eq_none (by simpa using h)] at hj; cases hj
      obtain ⟨d', hd, hsp, hdb, hc⟩ := hr (by intro h; rw [h] at hjy; simp at hjy)
      cases hd
      have := hc j hjy
      simp [hjy] at hj
      subst hj
      obtain ⟨db, dof, _⟩ := d
      simp only at hsp
      subst hsp
      unfold Addr.add; split
      · next h0 => subst h0; simpa using this
      · exact this
    · intro u hu
      obtain ⟨z, _, rfl⟩ := List.mem_map.1 hu
      rfl
    · intro v' w1 hown' hgrow _
      refine h v' w1 (by unfold OwnInts; rw [List.length_append, List.map_append]; exact hown') ?_
      exact (Below.refl B w).grown hgrow hB fun k hk => (hown.lt k hk).1

theorem clone_any (u : Value) (ys : List Int) (w : World) (hu : IntsV w u ys) (hl : ys.length ≤ 1000000) :
    Calls Tryd.prog 112 #[u] w fun e w' => ∃ v, e = .returned v ∧ OwnInts w.heap.size w' v ys ∧ w.grownBy w' none := by
  have HU := Lib.hid hu
  obtain ⟨ua, ucap, rfl, hx⟩ := hu
  clear hx
  go_enter Tryd.func112, Tryd.ntmps112
  go_wp2_with (at_builtin; go_loud (refine app_ints rfl _ _ rfl rfl rfl (HU.out.carry (grownBy_alloc _ _ _)) (OwnInts.empty (Nat.le_refl _) rfl) (by simp) (by simp; omega) ?_); intro v' w1 hown' hbel')
  have H1 := Lib.hid hown'; have H2 := Lib.hid hbel'
  clear hown' hbel'
  go_wp2
  go_ret
  exact ⟨v', rfl, by have := H1.out; simpa using this, grown_of_below (((Below.refl _ _).alloc (Nat.le_refl _) _).trans H2.out)⟩

theorem madeCells_int (n : Nat) : (madeCells (Value.int .i64 0).cells (n * 1)).toList = (List.replicate n (0 : Int)).map (Value.int .i64) := by
  rw [List.map_replicate]
  refine List.ext_getElem (by simp [madeCells]) fun j h1 h2 => ?_
  simp [madeCells, Value.cells, Nat.mod_one]

theorem zeros_any (n : Nat) (w : World) (hl : n ≤ 1000000) :
    Calls Tryd.prog 243 #[.int .i64 n] w fun e w' => ∃ v, e = .returned v ∧ OwnInts w.heap.size w' v (List.replicate n 0) ∧ w.grownBy w' none := by
  obtain ⟨i0, hi, hz0, hz1, hz2⟩ := info_parts info_int
  have HI := Lib.hid hi; have HZ0 := Lib.hid hz0; have HZ1 := Lib.hid hz1; have HZ2 := Lib.hid hz2
  clear hi hz0 hz1 hz2
  go_enter Tryd.func243, Tryd.ntmps243
  go_wp2_with (at_make; refine wpList_make_full _ rfl _ _ 24 rfl w.heap.size 3 i0 (.int .i64 0) 1 Tryd.underlying24 HI.out HZ0.out HZ1.out _ _ _ _ n rfl rfl rfl rfl (by rw [HZ2.out]; omega) (by unfold maxLen; omega) (Nat.le_refl _) ?_; intro w1 hown' hgr')
  have H1 := Lib.hid hown'; have H2 := Lib.hid hgr'
  clear hown' hgr'
  go_wp2
  go_ret
  refine ⟨_, rfl, ?_, H2.out⟩
  have := H1.out
  rw [madeCells_int] at this
  unfold OwnInts
  rw [List.length_replicate]
  exact this

theorem unit_any (n i : Nat) (w : World) (hl : n ≤ 1000000) (hi : i < n) :
    Calls Tryd.prog 209 #[.int .i64 n, .int .i64 i] w fun e w' => ∃ v, e = .returned v ∧ OwnInts w.heap.size w' v (unitL n i) ∧ w.grownBy w' none := by
  go_enter Tryd.func209, Tryd.ntmps209
  have hlen : (List.replicate n (0 : Int)).length = n := List.length_replicate
  have HLEN := Lib.hid hlen
  clear hlen
  go_wp2_with (
    go_at_call 243
    refine (zeros_any n w hl).mono ?_
    rintro e w1 ⟨v, rfl, hv, hg⟩
    have HG := Lib.hid hg
    obtain ⟨g, cap, hve, hg0, hg1, hhit⟩ := hv.parts (by intro h; have := HLEN.out; rw [h] at this; simp at this; omega)
    rw [HLEN.out] at hve
    subst hve
    have hcell := hv.cell HLEN.out.symm (j := i) (by rw [HLEN.out]; exact hi)
    have hfree := hv.free HLEN.out.symm i
    have HP := Lib.hid (hv.put HLEN.out.symm i 1)
    have HV := Lib.hid hv
    rw [List.getElem_replicate] at hcell
    clear hv hg hg0 hg1 hhit)
  go_ret
  exact ⟨_, rfl, HP.out.1, Only.grown ((Only.of_grown (S := fun k => w.heap.size ≤ k) HG.out (by simp)).trans (HP.out.2.mono fun k hk => by rw [hk]; exact (HV.out.lt _ rfl).1) |> fun h => ⟨h.os, h.tape, h.output, h.size, fun k hk _ => h.block k hk (by simp; omega)⟩)⟩

end Go.Proofs.YtpeaeminjbjlnaaDoor

/-
  Drawn matrices: their state while they are made. Conditions: small sizes.
-/
import Derived.Test.YtpeaeminjbjlnaaDoorSpecM5
import Derived.Test.YtpeaeminjbjlnaaDoorCurB
namespace Go.Proofs.YtpeaeminjbjlnaaDoor
open Go.RowKit
set_option linter.unusedVariables false

theorem mxSide_any {N : Nat} (b : Nat) (n : Int) (w : World) (hc : Bd.Cur N w b n) (hn : n + 2 ≤ 1000000000000) :
    Calls Tryd.prog 179 #[.pointer (some ⟨b, 0, none⟩)] w (Bd.Drawn N (fun v => 0 ≤ v ∧ v ≤ 24) b (n + 2) w) := by
  have HC := Lib.hid hc
  clear hc
  go_enter Tryd.func179, Tryd.ntmps179
  go_wp2_with fail
  refine (Bd.among_new [(0 : Int), 1, 1, 2, 2, 2, 3, 3, 3, 4, 4, 5, 6, 8, 24] _ _ _ _ HC.out (by decide) (by decide) hn).mono ?_
  rintro e w1 ⟨v, rfl, hv, c1, g1⟩
  have C1 := Lib.hid c1; have G1 := Lib.hid g1; have HV := Lib.hid hv; clear c1 g1 hv
  go_wp2
  go_ret
  exact ⟨_, rfl, by have h := HV.out; simp at h; omega, C1.out, G1.out⟩

theorem l1Least_any (x y : Int) (w : World) : Calls Tryd.prog 190 #[.int .i64 x, .int .i64 y] w fun e w' => e = .returned (.int .i64 (min x y)) ∧ w = w' := by
  by_cases h : x < y
  · have HM := Lib.hid (show min x y = x by omega)
    go_enter Tryd.func190, Tryd.ntmps190
    go_wp2
    go_ret
    exact ⟨by rw [HM.out]; rfl, rfl⟩
  · have HM := Lib.hid (show min x y = y by omega)
    go_enter Tryd.func190, Tryd.ntmps190
    go_wp2
    go_ret
    exact ⟨by rw [HM.out]; rfl, rfl⟩

/-- a matrix in the making: its rows the call's own above B, its variable in block q, the result in block r, the cursor in block b -/
structure DM (N b q r B : Nat) (p : Int) (rows cols : Nat) (v : Value) (vs : List Value) (w0 : World) (n : Int) (L : List (List Int)) (w : World) : Prop where
  own : OwnM B w v vs L
  len : L.length = rows
  ok : RowsOk p cols L
  cur : Bd.Cur N w b n
  box : w.heap[q]? = some (.cells #[.int .i64 cols, v] 39 (0, 0))
  res : w.heap[r]? = some (.cells #[.int .i64 0, .slice none 0 0] 39 (0, 0))
  on : Only (fun k => k = b ∨ B ≤ k) w0 w
  nB : N ≤ B
  bB : b < B
  bq : b ≠ q
  br : b ≠ r
section
variable {N b q r B : Nat} {p : Int} {rows cols : Nat} {v : Value} {vs : List Value} {w0 : World} {n : Int} {L : List (List Int)} {w : World}
theorem DM.draw (h : DM N b q r B p rows cols v vs w0 n L w) {m : Int} {w' : World} (hc : Bd.Cur N w' b m) (hg : w.grownBy w' (some b)) : DM N b q r B p rows cols v vs w0 m L w' := by
  have ho : Only (· = b) w w' := Only.of_grown hg fun k hk => (Option.some.inj hk).symm
  refine ⟨h.own.only ho fun k hk hk' => ?_, h.len, h.ok, hc, (hg.block q (lt_of_blk h.box) (by simpa using Ne.symm h.bq)).trans h.box, (hg.block r (lt_of_blk h.res) (by simpa using Ne.symm h.br)).trans h.res, h.on.trans (ho.mono fun k hk => Or.inl hk), h.nB, h.bB, h.bq, h.br⟩
  have h1 := (h.own.lt hk).1
  have h2 := h.bB
  have h3 : k = b := hk'
  omega
theorem DM.drew (h : DM N b q r B p rows cols v vs w0 n L w) : DM N b q r B p rows cols v vs w0 n L w.drew :=
  h.draw (h.cur.only (Only.drew (fun _ => False) w) (fun h => h) (fun _ h => h.elim)) ⟨rfl, rfl, rfl, Nat.le_refl _, fun _ _ _ => rfl⟩
theorem DM.more (h : DM N b q r B p rows cols v vs w0 n L w) {m : Int} (hm : n ≤ m) : DM N b q r B p rows cols v vs w0 m L w :=
  ⟨h.own, h.len, h.ok, h.cur.mono hm, h.box, h.res, h.on, h.nB, h.bB, h.bq, h.br⟩
/-- an element is written -/
theorem DM.put (h : DM N b q r B p rows cols v vs w0 n L w) {i j : Nat} (hi : i < rows) (hj : j < cols) :
    ∃ g cap gi ci, v = .slice (some ⟨g, 0, none⟩) rows cap ∧ gi ≠ g ∧ gi ≠ q ∧ g ≠ b ∧ gi ≠ b ∧ w.cell? ⟨q, 1, none⟩ = some v ∧ w.cell? ⟨g, i, none⟩ = some (.slice (some ⟨gi, 0, none⟩) cols ci) ∧ w.cell? ⟨gi, j, none⟩ = some (.int .i64 (at2 L i j)) ∧ w.frozen? ⟨gi, j, none⟩ = false ∧
      (0 ≤ at2 L i j ∧ at2 L i j < p) ∧ Hits (vs.getD i nilS) gi ∧
      ∀ x, 0 ≤ x → x < p → DM N b q r B p rows cols v vs w0 n (L.set i ((L.getD i []).set j x)) (w.setCell ⟨gi, j, none⟩ (.int .i64 x)) := by
  have hl := h.len
  obtain ⟨g, cap, hv, hg0, hg1, hhit⟩ := h.own.head (by intro h0; rw [h0] at hl; simp at hl; omega)
  rw [hl] at hv
  subst hv
  have hrow := h.ok _ (getD_mem (show i < L.length by omega))
  obtain ⟨gi, ci, a1, a2, a3, a4, d1, d2, d3, d4⟩ := h.own.elemAt hl.symm (by omega : i < L.length) (j := j) (by rw [hrow.1]; exact hj)
  rw [hrow.1] at d1
  have hB := h.bB
  have hgq : gi ≠ q := fun e => foot_ne h.box h.own (Foot.at (e ▸ a4))
  have hgr : gi ≠ r := fun e => foot_ne h.res h.own (Foot.at (e ▸ a4))
  have hval : 0 ≤ at2 L i j ∧ at2 L i j < p := by
    unfold at2
    rw [getD_lt (by rw [hrow.1]; exact hj)]
    exact hrow.2 _ (List.getElem_mem _)
  refine ⟨g, cap, gi, ci, rfl, a2, hgq, by omega, by omega, cell_blk h.box 1, d1, d2, d3, hval, a4, fun x hx0 hx1 => ?_⟩
  obtain ⟨e1, e2⟩ := d4 x
  refine ⟨e1, by rw [List.length_set]; exact hl, ?_, h.cur.only e2 (by omega) (fun k hk => by have := h.nB; omega), (e2.block q (lt_of_blk h.box) (Ne.symm hgq)).trans h.box, (e2.block r (lt_of_blk h.res) (Ne.symm hgr)).trans h.res, h.on.trans (e2.mono fun k hk => Or.inr (by omega)), h.nB, h.bB, h.bq, h.br⟩
  intro row hrow'
  rcases List.mem_or_eq_of_mem_set hrow' with h1 | h1
  · exact h.ok row h1
  · rw [h1]
    refine ⟨by rw [List.length_set]; exact hrow.1, fun z hz => ?_⟩
    rcases List.mem_or_eq_of_mem_set hz with h2 | h2
    · exact hrow.2 z h2
    · rw [h2]; exact ⟨hx0, hx1⟩
theorem DM.row (h : DM N b q r B p rows cols v vs w0 n L w) {i : Nat} (hi : i < rows) : ∃ g cap a c, v = .slice (some ⟨g, 0, none⟩) rows cap ∧ w.cell? ⟨q, 1, none⟩ = some v ∧ w.cell? ⟨g, i, none⟩ = some (.slice a cols c) := by
  have hl := h.len
  obtain ⟨g, cap, hv, hg0, hg1, hhit⟩ := h.own.head (by intro h0; rw [h0] at hl; simp at hl; omega)
  have hrow := h.ok _ (getD_mem (show i < L.length by omega))
  obtain ⟨a, c, he⟩ := row_slice h.own i
  rw [hrow.1] at he
  rw [hl] at hv
  subst hv
  have hc := h.own.cell hl.symm (j := i) (by omega)
  rw [he] at hc
  exact ⟨g, cap, a, c, rfl, cell_blk h.box 1, hc⟩
end

end Go.Proofs.YtpeaeminjbjlnaaDoor

/-
  Drawn matrices: their state while they are made. Conditions: small sizes.
-/
import Derived.Test.YtpeaeminjbjlnaaDoorMs14
namespace Go.Proofs.YtpeaeminjbjlnaaDoor
open Go.RowKit
set_option linter.unusedVariables false

theorem mxSide_any {N : Nat} (b : Nat) (n : Int) (w : World) (hc : Bd.Cur N w b n) (hn : n + 2 ≤ 1000000000000) :
    Calls Tryd.prog 179 #[.pointer (some ⟨b, 0, none⟩)] w (Bd.Drawn N (fun v => 0 ≤ v ∧ v ≤ 24) b (n + 2) w) := by
  have HC := Lib.hid hc
  clear hc
  go_enter Tryd.func179, Tryd.ntmps179
  go_wp2_with fail
  refine (Bd.among_new [(0 : Int), 1, 1, 2, 2, 2, 3, 3, 3, 4, 4, 5, 6, 8, 24] _ _ _ _ HC.out (by decide) (by decide) hn).mono ?_
  rintro e w1 ⟨v, rfl, hv, c1, g1⟩
  have C1 := Lib.hid c1; have G1 := Lib.hid g1; have HV := Lib.hid hv; clear c1 g1 hv
  go_wp2
  go_ret
  exact ⟨_, rfl, by have h := HV.out; simp at h; omega, C1.out, G1.out⟩

theorem l1Least_any (x y : Int) (w : World) : Calls Tryd.prog 190 #[.int .i64 x, .int .i64 y] w fun e w' => e = .returned (.int .i64 (min x y)) ∧ w = w' := by
  by_cases h : x < y
  · have HM := Lib.hid (show min x y = x by omega)
    go_enter Tryd.func190, Tryd.ntmps190
    go_wp2
    go_ret
    exact ⟨by rw [HM.out]; rfl, rfl⟩
  · have HM := Lib.hid (show min x y = y by omega)
    go_enter Tryd.func190, Tryd.ntmps190
    go_wp2
    go_ret
    exact ⟨by rw [HM.out]; rfl, rfl⟩

/-- a matrix in the making: its rows the call's own above B, its variable in block q, the result in block r, the cursor in block b -/
structure DM (N b q r B : Nat) (p : Int) (rows cols : Nat) (v : Value) (vs : List Value) (w0 : World) (n : Int) (L : List (List Int)) (w : World) : Prop where
  own : OwnM B w v vs L
  len : L.length = rows
  ok : RowsOk p cols L
  cur : Bd.Cur N w b n
  box : w.heap[q]? = some (.cells #[.int .i64 cols, v] 39 (0, 0))
  res : w.heap[r]? = some (.cells #[.int .i64 0, .slice none 0 0] 39 (0, 0))
  on : Only (fun k => k = b ∨ B ≤ k) w0 w
  nB : N ≤ B
  bB : b < B
  bq : b ≠ q
  br : b ≠ r
section
variable {N b q r B : Nat} {p : Int} {rows cols : Nat} {v : Value} {vs : List Value} {w0 : World} {n : Int} {L : List (List Int)} {w : World}
theorem DM.draw (h : DM N b q r B p rows cols v vs w0 n L w) {m : Int} {w' : World} (hc : Bd.Cur N w' b m) (hg : w.grownBy w' (some b)) : DM N b q r B p rows cols v vs w0 m L w' := by
  have ho : Only (· = b) w w' := Only.of_grown hg fun k hk => (Option.some.inj hk).symm
  refine ⟨h.own.only ho fun k hk hk' => ?_, h.len, h.ok, hc, (hg.block q (lt_of_blk h.box) (by simpa using Ne.symm h.bq)).trans h.box, (hg.block r (lt_of_blk h.res) (by simpa using Ne.symm h.br)).trans h.res, h.on.trans (ho.mono fun k hk => Or.inl hk), h.nB, h.bB, h.bq, h.br⟩
  have h1 := (h.own.lt hk).1
  have h2 := h.bB
  have h3 : k = b := hk'
  omega
theorem DM.drew (h : DM N b q r B p rows cols v vs w0 n L w) : DM N b q r B p rows cols v vs w0 n L w.drew :=
  h.draw (h.cur.only (Only.drew (fun _ => False) w) (fun h => h) (fun _ h => h.elim)) ⟨rfl, rfl, rfl, Nat.le_refl _, fun _ _ _ => rfl⟩
theorem DM.more (h : DM N b q r B p rows cols v vs w0 n L w) {m : Int} (hm : n ≤ m) : DM N b q r B p rows cols v vs w0 m L w :=
  ⟨h.own, h.len, h.ok, h.cur.mono hm, h.box, h.res, h.on, h.nB, h.bB, h.bq, h.br⟩
/-- an element is written -/
theorem DM.put (h : DM N b q r B p rows cols v vs w0 n L w) {i j : Nat} (hi : i < rows) (hj : j < cols) :
    ∃ g cap gi ci, v = .slice (some ⟨g, 0, none⟩) rows cap ∧ gi ≠ g ∧ gi ≠ q ∧ g ≠ b ∧ gi ≠ b ∧ w.cell? ⟨q, 1, none⟩ = some v ∧ w.cell? ⟨g, i, none⟩ = some (.slice (some ⟨gi, 0, none⟩) cols ci) ∧ w.cell? ⟨gi, j, none⟩ = some (.int .i64 (at2 L i j)) ∧ w.frozen? ⟨gi, j, none⟩ = false ∧
      (0 ≤ at2 L i j ∧ at2 L i j < p) ∧ Hits (vs.getD i nilS) gi ∧
      ∀ x, 0 ≤ x → x < p → DM N b q r B p rows cols v vs w0 n (L.set i ((L.getD i []).set j x)) (w.setCell ⟨gi, j, none⟩ (.int .i64 x)) := by
  have hl := h.len
  obtain ⟨g, cap, hv, hg0, hg1, hhit⟩ := h.own.head (by intro h0; rw [h0] at hl; simp at hl; omega)
  rw [hl] at hv
  subst hv
  have hrow := h.ok _ (getD_mem (show i < L.length by omega))
  obtain ⟨gi, ci, a1, a2, a3, a4, d1, d2, d3, d4⟩ := h.own.elemAt hl.symm (by omega : i < L.length) (j := j) (by rw [hrow.1]; exact hj)
  rw [hrow.1] at d1
  have hB := h.bB
  have hgq : gi ≠ q := fun e => foot_ne h.box h.own (Foot.at (e ▸ a4))
  have hgr : gi ≠ r := fun e => foot_ne h.res h.own (Foot.at (e ▸ a4))
  have hval : 0 ≤ at2 L i j ∧ at2 L i j < p := by
    unfold at2
    rw [getD_lt (by rw [hrow.1]; exact hj)]
    exact hrow.2 _ (List.getElem_mem _)
  refine ⟨g, cap, gi, ci, rfl, a2, hgq, by omega, by omega, cell_blk h.box 1, d1, d2, d3, hval, a4, fun x hx0 hx1 => ?_⟩
  obtain ⟨e1, e2⟩ := d4 x
  refine ⟨e1, by rw [List.length_set]; exact hl, ?_, h.cur.only e2 (by omega) (fun k hk => by have := h.nB; omega), (e2.block q (lt_of_blk h.box) (Ne.symm hgq)).trans h.box, (e2.block r (lt_of_blk h.res) (Ne.symm hgr)).trans h.res, h.on.trans (e2.mono fun k hk => Or.inr (by omega)), h.nB, h.bB, h.bq, h.br⟩
  intro row hrow'
  rcases List.mem_or_eq_of_mem_set hrow' with h1 | h1
  · exact h.ok row h1
  · rw [h1]
    refine ⟨by rw [List.length_set]; exact hrow.1, fun z hz => ?_⟩
    rcases List.mem_or_eq_of_mem_set hz with h2 | h2
    · exact hrow.2 z h2
    · rw [h2]; exact ⟨hx0, hx1⟩
theorem DM.row (h : DM N b q r B p rows cols v vs w0 n L w) {i : Nat} (hi : i < rows) : ∃ g cap a c, v = .slice (some ⟨g, 0, none⟩) rows cap ∧ w.cell? ⟨q, 1, none⟩ = some v ∧ w.cell? ⟨g, i, none⟩ = some (.slice a cols c) := by
  have hl := h.len
  obtain ⟨g, cap, hv, hg0, hg1, hhit⟩ := h.own.head (by intro h0; rw [h0] at hl; simp at hl; omega)
  have hrow := h.ok _ (getD_mem (show i < L.length by omega))
  obtain ⟨a, c, he⟩ := row_slice h.own i
  rw [hrow.1] at he
  rw [hl] at hv
  subst hv
  have hc := h.own.cell hl.symm (j := i) (by omega)
  rw [he] at hc
  exact ⟨g, cap, a, c, rfl, cell_blk h.box 1, hc⟩
end

end Go.Proofs.YtpeaeminjbjlnaaDoor

/-
  The cursor as a part of memory; drawn lists. Conditions: small sizes.
-/
namespace Go.Proofs.YtpeaeminjbjlnaaDoor
open Go.RowKit
set_option linter.unusedVariables false

def CA (N b : Nat) (n : Int) : Asrt where
  foot := fun k => k = b
  sees := fun k => k = b ∨ k < N
  holds := fun w => Bd.Cur N w b n
  sub := fun _ h => Or.inl h
  lt := fun w k h hk => by
    have h1 := h.lt
    have h2 := h.nb
    rcases hk with rfl | hk
    · exact h1
    · omega
  keep := fun w w' h ho => h.only ho (fun h' => h' (Or.inl rfl)) fun k hk => Nat.le_of_not_lt fun h' => hk (Or.inr h')
/-- All that was there stays, but the cursor. -/
def KeepX (w0 : World) (b : Nat) : Asrt where
  foot := fun _ => False
  sees := fun k => k < w0.heap.size ∧ k ≠ b
  holds := fun w => w0.grownBy w (some b)
  sub := fun _ h => h.elim
  lt := fun _ _ h hk => Nat.lt_of_lt_of_le hk.1 h.size
  keep := fun w w' h ho => ⟨ho.os.trans h.os, ho.tape.trans h.tape, ho.output.trans h.output, Nat.le_trans h.size ho.size,
    fun k hk hn => (ho.block k (Nat.lt_of_lt_of_le hk h.size) fun h' => h' ⟨hk, fun e => hn (by rw [e])⟩).trans (h.block k hk hn)⟩
section
variable {w w0 w' : World} {l : List Asrt} {N b : Nat} {n m : Int} {v : Value} {vs : List Value} {zs : List Int} {L : List (List Int)}
theorem Sep.startX (hc : Bd.Cur N w b n) : Sep w [CA N b n, KeepX w b] :=
  ⟨hc, fun C hC => by rw [List.mem_singleton] at hC; subst hC; exact ⟨fun k hk h => h.2 hk, fun k hk => hk.elim⟩, ⟨rfl, rfl, rfl, Nat.le_refl _, fun _ _ _ => rfl⟩, by simp, trivial⟩
theorem Sep.draw (h : Sep w (CA N b n :: l)) (hc : Bd.Cur N w' b m) (hg : w.grownBy w' (some b)) : Sep w' (CA N b m :: l) :=
  h.upd (A' := CA N b m) (Only.of_grown hg fun k hk => (Option.some.inj hk).symm) hc (fun _ hk => Or.inl hk) fun _ hk => Or.inl hk
theorem Sep.more (h : Sep w (CA N b n :: l)) (hm : n ≤ m) : Sep w (CA N b m :: l) := h.draw (h.hd.mono hm) ⟨rfl, rfl, rfl, Nat.le_refl _, fun _ _ _ => rfl⟩
theorem new_base {A : Asrt} (h : Sep w (A :: CA N b n :: KeepX w0 b :: l)) {k : Nat} (hk : A.foot k) : w0.heap.size ≤ k := by
  refine Nat.le_of_not_lt fun hlt => ?_
  by_cases e : k = b
  · exact h.apt.1 k hk (Or.inl e)
  · exact (h.drop2).apt.1 k hk ⟨hlt, e⟩
theorem Sep.intsX (h : Sep w (OI v zs :: CA N b n :: KeepX w0 b :: l)) : OwnInts w0.heap.size w v zs := h.hd.rebase fun k hk => new_base h hk
theorem Sep.matX (h : Sep w (OM v vs L :: CA N b n :: KeepX w0 b :: l)) : OwnM w0.heap.size w v vs L := h.hd.rebase fun k hk => new_base h hk
/-- a callee's new list beside the cursor -/
theorem Sep.drawI (h : Sep w (CA N b n :: l)) (hc : Bd.Cur N w' b m) (hg : w.grownBy w' (some b)) (ho : OwnInts w.heap.size w' v zs) : Sep w' (OI v zs :: CA N b m :: l) := by
  have h1 := h.draw hc hg
  have hal := h.all
  refine ⟨ho.rebase fun _ _ => Nat.zero_le _, fun C hC => ?_, h1⟩
  have hlt : ∀ k, C.sees k → k < w.heap.size := by
    intro k hk
    rcases List.mem_cons.1 hC with rfl | hC
    · exact (CA N b n).lt w k h.hd hk
    · exact C.lt w k (hal C (by simp [hC])) hk
  exact ⟨fun k hk hk' => by have := hlt k hk'; have := (ho.lt k hk).1; omega, fun k hk hk' => by have := hlt k (C.sub k hk); have := (ho.lt k hk').1; omega⟩
theorem Sep.drawM (h : Sep w (CA N b n :: l)) (hc : Bd.Cur N w' b m) (hg : w.grownBy w' (some b)) (ho : OwnM w.heap.size w' v vs L) : Sep w' (OM v vs L :: CA N b m :: l) := by
  have h1 := h.draw hc hg
  have hal := h.all
  refine ⟨ho.rebase fun _ _ => Nat.zero_le _, fun C hC => ?_, h1⟩
  have hlt : ∀ k, C.sees k → k < w.heap.size := by
    intro k hk
    rcases List.mem_cons.1 hC with rfl | hC
    · exact (CA N b n).lt w k h.hd hk
    · exact C.lt w k (hal C (by simp [hC])) hk
  exact ⟨fun k hk hk' => by have := hlt k hk'; have := (ho.lt hk).1; omega, fun k hk hk' => by have := hlt k (C.sub k hk); have := (ho.lt hk').1; omega⟩
end

/-- what a drawn list's elements are -/
def ElOk (p : Int) (zs : List Int) : Prop := ∀ z ∈ zs, 0 ≤ z ∧ (z = 0 ∨ z < p)
theorem ElOk.snoc {p z : Int} {zs : List Int} (h : ElOk p zs) (hz : 0 ≤ z ∧ (z = 0 ∨ z < p)) : ElOk p (zs ++ [z]) := by
  intro x hx
  rcases List.mem_append.1 hx with h1 | h1
  · exact h x h1
  · rw [List.mem_singleton] at h1; rw [h1]; exact hz
theorem ElOk.set {p z : Int} {zs : List Int} (h : ElOk p zs) (hz : 0 ≤ z ∧ (z = 0 ∨ z < p)) (j : Nat) : ElOk p (zs.set j z) := by
  intro x hx
  rcases List.mem_or_eq_of_mem_set hx with h1 | h1
  · exact h x h1
  · rw [h1]; exact hz
theorem ElOk.zeros (p : Int) (n : Nat) : ElOk p (List.replicate n 0) := fun x hx => by rw [List.eq_of_mem_replicate hx]; omega

theorem size_any {N : Nat} (b : Nat) (n : Int) (w : World) (hc : Bd.Cur N w b n) (hn : n + 2 ≤ 1000000000000) :
    Calls Tryd.prog 163 #[.pointer (some ⟨b, 0, none⟩)] w (Bd.Drawn N (fun v => 0 ≤ v ∧ v ≤ 24) b (n + 2) w) := by
  have HC := Lib.hid hc
  clear hc
  go_enter Tryd.func163, Tryd.ntmps163
  go_wp2_with fail
  refine (Bd.among_new [(0 : Int), 1, 2, 3, 4, 5, 3, 4, 6, 24] _ _ _ _ HC.out (by decide) (by decide) hn).mono ?_
  rintro e w1 ⟨v, rfl, hv, c1, g1⟩
  have C1 := Lib.hid c1; have G1 := Lib.hid g1; have HV := Lib.hid hv; clear c1 g1 hv
  go_wp2
  go_ret
  exact ⟨_, rfl, by have h := HV.out; simp at h; omega, C1.out, G1.out⟩

set_option maxRecDepth 100000 in
theorem elems_any {N : Nat} (p m : Int) (b : Nat) (n : Int) (w : World) (hc : Bd.Cur N w b n) (hp : p ≤ 1000000) (hm : m ≤ 1000) (hm0 : -1000 ≤ m) (hn : n + 2000 ≤ 1000000000000) :
    Calls Tryd.prog 175 #[.pointer (some ⟨b, 0, none⟩), .int .i64 p, .int .i64 m] w fun e w' => ∃ o zs, e = .returned o ∧ OwnInts w.heap.size w' o zs ∧ zs.length = m.toNat ∧ ElOk p zs ∧ Bd.Cur N w' b (n + 2000) ∧ w.grownBy w' (some b) := by
  have HS := Lib.hid (Sep.startX hc)
  clear hc
  go_enter Tryd.func175, Tryd.ntmps175
  go_wp2
  go_loopw [2, 7] (fun i out wr => ∃ (k : Nat) (zs : List Int), (k = 0 ∨ (k : Int) ≤ m) ∧ i = .int .i64 (m - k) ∧ zs.length = k ∧ ElOk p zs ∧ Sep wr [OI out zs, CA N b (n + 2 * k), KeepX w b]) (fun i _ _ => (intOf i).toNat)
  case atStart => exact ⟨0, [], Or.inl rfl, by simp, rfl, fun z hz => by simp at hz, by have h := HS.out.nilI; rw [show n + 2 * ((0 : Nat) : Int) = n by omega]; exact h⟩
  case round =>
    obtain ⟨k, zs, hk, rfl, hz, hok, hs⟩ := hrel
    have HZ := Lib.hid hz; have HOK := Lib.hid hok; have HS1 := Lib.hid hs
    clear hz hok hs
    by_cases hlt : 0 < m - (k : Int)
    · have hk2 : (k : Int) < m := by omega
      go_wp2_with (first
        | (go_at_call 274
           refine (Bd.elem_any p b _ _ HS1.out.s2.hd hp (by omega)).mono ?_
           rintro e w1 ⟨z, rfl, hz, c1, g1⟩
           have HS2 := Lib.hid ((HS1.out.s2.draw c1 g1).s2)
           have HZZ := Lib.hid hz
           clear c1 g1 hz)
        | (at_builtin
           refine app_intS rfl _ _ rfl rfl rfl HS2.out (by rw [HZ.out]; omega) ?_
           intro g2 cap2 w2 hs2
           have HS3 := Lib.hid hs2
           clear hs2))
      go_roundw
      case rel => exact ⟨k + 1, _, Or.inr (by omega), by rw [show m - (k : Int) - 1 = m - ((k + 1 : Nat) : Int) by omega], by rw [List.length_append, HZ.out]; rfl, HOK.out.snoc HZZ.out, by have h := HS3.out; rw [show n + 2 * (k : Int) + 2 = n + 2 * ((k + 1 : Nat) : Int) by omega] at h; exact h⟩
      case measure => simp [intOf]; omega
    · go_wp2
      go_ret
      have hk3 : k = m.toNat := by omega
      exact ⟨_, rfl, zs, HS1.out.intsX, by rw [HZ.out]; exact hk3, HOK.out, HS1.out.s2.hd.mono (by omega), HS1.out.s3.hd⟩

set_option maxRecDepth 100000 in
set_option maxHeartbeats 1000000 in
theorem rows_any {N : Nat} (p : Int) (sz m : Nat) (b : Nat) (n : Int) (w : World) (hc : Bd.Cur N w b n) (hp : p ≤ 1000000) (hsz : sz ≤ 1000) (hm : m ≤ 1000) (hn : n + 10000000 ≤ 1000000000000) :
    Calls Tryd.prog 202 #[.pointer (some ⟨b, 0, none⟩), .int .i64 p, .int .i64 sz, .int .i64 m] w fun e w' => ∃ o, e = .returned o ∧ ∃ vs L, OwnM w.heap.size w' o vs L ∧ L.length ≤ m ∧ (∀ row ∈ L, row.length = sz ∧ ElOk p row) ∧ Bd.Cur N w' b (n + 10000000) ∧ w.grownBy w' (some b) := by
  obtain ⟨i0, hi, hz0, hz1, hz2⟩ := info_parts info_int
  have HI := Lib.hid hi; have HZ0 := Lib.hid hz0; have HZ1 := Lib.hid hz1; have HZ2 := Lib.hid hz2
  have HS := Lib.hid (Sep.startX hc)
  clear hc hi hz0 hz1 hz2
  go_enter Tryd.func202, Tryd.ntmps202
  go_wp2_with (
    go_at_call 131
    refine (Bd.pick_any _ b _ _ HS.out.hd (by omega) (by omega)).mono ?_
    rintro e w1 ⟨x, rfl, ⟨x0, x1⟩, c1, g1⟩
    have HS1 := Lib.hid (HS.out.draw c1 g1)
    clear c1 g1)
  obtain ⟨x, rfl⟩ := Int.eq_ofNat_of_zero_le x0
  have hxm : x ≤ m := by omega
  clear x1
  go_loopw [9, 10] (fun out i wr => ∃ (k : Nat) (vs : List Value) (L : List (List Int)), k ≤ x ∧ i = .int .i64 (x - k : Int) ∧ L.length = k ∧ (∀ row ∈ L, row.length = sz ∧ ElOk p row) ∧ Sep wr [OM out vs L, CA N b (n + 2 + 4000 * k), KeepX w b]) (fun _ i _ => (intOf i).toNat)
  case atStart => exact ⟨0, [], [], by omega, by simp, rfl, fun r hr => by simp at hr, by rw [show n + 2 + 4000 * ((0 : Nat) : Int) = n + 2 by omega]; exact HS1.out.nilM⟩
  case round =>
    obtain ⟨k, vs, L, hk, rfl, hl, hok, hs⟩ := hrel
    have HL := Lib.hid hl; have HOK := Lib.hid hok; have HS2 := Lib.hid hs
    clear hl hok hs
    by_cases hlt : k < x
    · have hlt2 : (0 : Int) < (x : Int) - (k : Int) := by omega
      go_wp2_with (
        at_make
        refine wpList_make_full _ rfl _ _ 24 rfl wr.heap.size 3 i0 (.int .i64 0) 1 Tryd.underlying24 HI.out HZ0.out HZ1.out _ _ _ _ sz rfl rfl rfl rfl (by rw [HZ2.out]; omega) (by unfold maxLen; omega) (Nat.le_refl _) ?_
        intro w5 hown' hgr'
        rw [madeCells_int] at hown'
        have ho' : OwnInts wr.heap.size w5 (.slice (some ⟨wr.heap.size, 0, none⟩) sz sz) (List.replicate sz 0) := by
          unfold OwnInts; rw [List.length_replicate]; exact hown'
        have HS5 := Lib.hid (HS2.out.newI hgr' ho')
        clear hown' hgr' ho')
      generalize wr.heap.size = gv at *
      obtain ⟨w6, hw6⟩ : ∃ w6, w6 = w5 := ⟨_, rfl⟩
      subst hw6
      go_loopw [25] (fun i wx => ∃ (q : Nat) (zs : List Int), q ≤ sz ∧ i = .int .i64 q ∧ zs.length = sz ∧ ElOk p zs ∧ Sep wx [OI (.slice (some ⟨gv, 0, none⟩) sz sz) zs, OM u9 vs L, CA N b (n + 2 + 4000 * k + 4 * q), KeepX w b]) (fun i _ => sz - (intOf i).toNat)
      case atStart => exact ⟨0, _, by omega, rfl, by simp, ElOk.zeros p sz, by rw [show n + 2 + 4000 * (k : Int) + 4 * ((0 : Nat) : Int) = n + 2 + 4000 * (k : Int) by omega]; exact HS5.out⟩
      case round =>
        obtain ⟨q, zs, hq, rfl, hz, hok, hs⟩ := hrel
        have HZ := Lib.hid hz; have HOZ := Lib.hid hok; have HS6 := Lib.hid hs
        clear hz hok hs
        by_cases hqn : q < sz
        · go_wp2_with fail
          refine (Bd.one_any 2 b _ _ HS6.out.s3.hd (by omega) (by omega)).mono ?_
          rintro e w7 ⟨bv, rfl, c7, g7⟩
          have HS7 := Lib.hid (HS6.out.s3.draw c7 g7)
          clear c7 g7
          cases bv
          · go_wp2
            go_roundw
            case rel => exact ⟨q + 1, zs, by omega, by go_num, HZ.out, HOZ.out, by have h := (HS7.out.more (m := n + 2 + 4000 * (k : Int) + 4 * ((q + 1 : Nat) : Int)) (by omega)).s3.s3; exact h⟩
            case measure => simp [intOf]; omega
          · go_wp2_with (
              go_at_call 274
              refine (Bd.elem_any p b _ _ HS7.out.hd hp (by omega)).mono ?_
              rintro e w8 ⟨z, rfl, hz, c8, g8⟩
              have hs8 := (HS7.out.draw c8 g8).s3.s3
              have hc := hs8.hd.cell HZ.out.symm (show q < zs.length by rw [HZ.out]; exact hqn)
              have hfr := hs8.hd.free HZ.out.symm q
              have HP := Lib.hid (hs8.setI HZ.out.symm q z)
              have HZZ := Lib.hid hz
              obtain ⟨old, hold⟩ : ∃ old, old = zs[q]'(by rw [HZ.out]; exact hqn) := ⟨_, rfl⟩
              rw [← hold] at hc
              clear c8 g8 hz hs8 hold)
            go_roundw
            case rel => exact ⟨q + 1, zs.set q z, by omega, by go_num, by rw [List.length_set]; exact HZ.out, HOZ.out.set HZZ.out q, by have h := HP.out; rw [show n + 2 + 4000 * (k : Int) + 4 * (q : Int) + 2 + 2 = n + 2 + 4000 * (k : Int) + 4 * ((q + 1 : Nat) : Int) by omega] at h; exact h⟩
            case measure => simp [intOf]; omega
        · go_wp2_with (
            at_builtin
            refine app_rowS rfl _ _ rfl rfl rfl HS6.out (by rw [HL.out]; omega) ?_
            intro g2 cap2 w8 hs8
            have HS8 := Lib.hid hs8
            clear hs8)
          go_roundw
          case rel => exact ⟨k + 1, _, L ++ [zs], by omega, by rw [show (x : Int) - (k : Int) - 1 = (x : Int) - ((k + 1 : Nat) : Int) by omega], by rw [List.length_append, HL.out]; rfl, fun r hr => by
            rcases List.mem_append.1 hr with h1 | h1
            · exact HOK.out r h1
            · rw [List.mem_singleton] at h1; rw [h1]; exact ⟨HZ.out, HOZ.out⟩, by have h := (HS8.out.s2.more (m := n + 2 + 4000 * ((k + 1 : Nat) : Int)) (by omega)).s2; rw [HL.out] at h ⊢; exact h⟩
          case measure => simp [intOf]; omega
    · have hkx : k = x := by omega
      go_wp2
      go_ret
      exact ⟨_, rfl, vs, L, HS2.out.matX, by rw [HL.out]; omega, HOK.out, HS2.out.s2.hd.mono (by omega), HS2.out.s3.hd⟩
end Go.Proofs.YtpeaeminjbjlnaaDoor

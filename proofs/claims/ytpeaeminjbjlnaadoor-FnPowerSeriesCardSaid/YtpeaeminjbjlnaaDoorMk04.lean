/-
  A row operation on a list of rows of the call's own. Conditions: the elements are small, the indices within.
-/
import Derived.Test.YtpeaeminjbjlnaaDoorMk03
import Derived.Test.YtpeaeminjbjlnaaDoorMk02
namespace Go.Proofs.YtpeaeminjbjlnaaDoor
open Go.RowKit
set_option linter.unusedVariables false

def opV (kind row other by' : Int) : Value := .agg #[.int .i64 kind, .int .i64 row, .int .i64 other, .int .i64 by']

theorem OwnM.head {B : Nat} {w : World} {v : Value} {vs : List Value} {L : List (List Int)} (h : OwnM B w v vs L) (hz : L ≠ []) : ∃ g cap, v = .slice (some ⟨g, 0, none⟩) L.length cap ∧ B ≤ g ∧ g < w.heap.size ∧ Hits v g := by
  obtain ⟨h1, h2⟩ := h.out
  rcases h2 with ⟨_, h0⟩ | ⟨g, cap, cur, rfl, hg, hh, _⟩
  · exact absurd (List.eq_nil_of_length_eq_zero (by rw [← h.len]; exact h0)) hz
  · refine ⟨g, cap, by rw [h.len], hg, ?_, rfl⟩
    rcases Nat.lt_or_ge g w.heap.size with h | h
    · exact h
    · rw [Array.getElem?_eq_none h] at hh; cases hh
theorem OwnM.cell {B g n cap : Nat} {w : World} {vs : List Value} {L : List (List Int)} (h : OwnM B w (.slice (some ⟨g, 0, none⟩) n cap) vs L) (hn : n = L.length) {j : Nat} (hj : j < L.length) : w.cell? ⟨g, j, none⟩ = some (vs.getD j nilS) := by
  subst hn
  have h1 := h.len
  have h2 := h.out
  rw [h1] at h2
  rw [World.ownsRow.cellAt h2 j (by omega), List.getD_eq_getElem?_getD, List.getElem?_eq_getElem (show j < vs.length by omega)]
  rfl
theorem OwnM.free {B g n cap : Nat} {w : World} {vs : List Value} {L : List (List Int)} (h : OwnM B w (.slice (some ⟨g, 0, none⟩) n cap) vs L) (hn : n = L.length) (j : Nat) : w.frozen? ⟨g, j, none⟩ = false := by
  subst hn
  have h2 := h.out
  rw [h.len] at h2
  exact World.ownsRow.frozenAt h2 j
theorem ownInts_nil_row {B : Nat} {w : World} : OwnInts B w nilS [] := OwnInts.nil B w
/-- two rows of the list exchanged -/
theorem OwnM.swap {B g n cap : Nat} {w : World} {vs : List Value} {L : List (List Int)} (h : OwnM B w (.slice (some ⟨g, 0, none⟩) n cap) vs L) (hn : n = L.length) {r k : Nat} (hr : r < L.length) (hk : k < L.length) (hne : r ≠ k) :
    OwnM B ((w.setCell ⟨g, r, none⟩ (vs.getD k nilS)).setCell ⟨g, k, none⟩ (vs.getD r nilS)) (.slice (some ⟨g, 0, none⟩) n cap) ((vs.set r (vs.getD k nilS)).set k (vs.getD r nilS)) (swapL L r k) ∧
      (∀ x ∈ (vs.set r (vs.getD k nilS)).set k (vs.getD r nilS), x ∈ vs) ∧ Only (Hits (.slice (some ⟨g, 0, none⟩) n cap)) w ((w.setCell ⟨g, r, none⟩ (vs.getD k nilS)).setCell ⟨g, k, none⟩ (vs.getD r nilS)) := by
  subst hn
  have hlen := h.len
  have h2 := h.out
  have hne' := hne
  rw [hlen] at h2
  have s1 := World.ownsRow.stored h2 r (vs.getD k nilS)
  have s2 := World.ownsRow.stored s1.1 k (vs.getD r nilS)
  have hon : Only (Hits (.slice (some ⟨g, 0, none⟩) L.length cap)) w ((w.setCell ⟨g, r, none⟩ (vs.getD k nilS)).setCell ⟨g, k, none⟩ (vs.getD r nilS)) :=
    (Only.of_grown s1.2 fun k hk => hk).trans (Only.of_grown s2.2 fun k hk => hk)
  have gv : ∀ i, ((vs.set r (vs.getD k nilS)).set k (vs.getD r nilS)).getD i nilS = vs.getD (La.tw r k i) nilS := by
    intro i
    unfold La.tw
    simp only [List.getD_eq_getElem?_getD, List.getElem?_set, List.length_set]
    by_cases h1 : k = i
    · subst h1
      have : ¬ k = r := Ne.symm hne
      simp [this, show k < vs.length by omega]
    · by_cases h2 : r = i
      · subst h2; simp [h1, show r < vs.length by omega]
      · simp [h1, h2, Ne.symm h1, Ne.symm h2]
  have tinj : ∀ i j, i ≠ j → La.tw r k i ≠ La.tw r k j := by
    intro i j hij
    unfold La.tw
    split <;> split <;> (try split) <;> (try split) <;> omega
  refine ⟨⟨by simp [swapL, hlen], ?_, fun i => ?_, fun i j hij => ?_⟩, fun x hx => ?_, hon⟩
  · have e : ((vs.set r (vs.getD k nilS)).set k (vs.getD r nilS)).length = L.length := by simp [hlen]
    rw [e]
    exact s2.1
  · rw [gv, swapL_get hr hk]
    exact (h.row _).only hon fun q hq hq' => apart_types h.out (h.row _) (by decide) q hq' hq
  · rw [gv, gv]
    exact h.ap _ _ (tinj i j hij)
  · rcases List.mem_or_eq_of_mem_set hx with h1 | h1
    · rcases List.mem_or_eq_of_mem_set h1 with h3 | h3
      · exact h3
      · rw [h3, List.getD_eq_getElem?_getD, List.getElem?_eq_getElem (show k < vs.length by omega)]; exact List.getElem_mem _
    · rw [h1, List.getD_eq_getElem?_getD, List.getElem?_eq_getElem (show r < vs.length by omega)]; exact List.getElem_mem _

theorem row_slice {B : Nat} {w : World} {v : Value} {vs : List Value} {L : List (List Int)} (h : OwnM B w v vs L) (i : Nat) : ∃ a c, vs.getD i nilS = .slice a (L.getD i []).length c := own_shape (h.row i)

theorem box_cell (w : World) (cs : Array Value) (t : TypeId) (j : Nat) : (w.alloc (.cells cs t)).cell? ⟨w.heap.size, j, none⟩ = cs[j]? := by
  unfold World.cell?
  simp only
  rw [alloc_heap_new]
  simp

set_option maxHeartbeats 1000000 in
theorem swap_any (p : Int) (r k : Nat) (by' : Int) (v : Value) (vs : List Value) (L : List (List Int)) (B : Nat) (w : World) (hv : OwnM B w v vs L) (hr : r < L.length) (hk : k < L.length) (hne : r ≠ k) (hl : L.length ≤ 1000000) :
    Calls Tryd.prog 196 #[opV 0 r k by', .int .i64 p, v] w fun e w' => e = .returned (.tuple #[]) ∧ ∃ vs', OwnM B w' v vs' (swapL L r k) ∧ (∀ x ∈ vs', x ∈ vs) ∧ Only (Foot v vs) w w' := by
  have HV := Lib.hid hv
  obtain ⟨g, cap, rfl, hg0, hg1, hhit⟩ := hv.head (by intro h; rw [h] at hr; simp at hr)
  clear hv hhit hg0
  generalize hlen : L.length = l at *
  have HL := Lib.hid hlen
  unfold opV
  go_enter Tryd.func196, Tryd.ntmps196
  go_wp2_with fail
  have hgr := grownBy_alloc w (.cells #[.int .i64 0, .int .i64 r, .int .i64 k, .int .i64 by'] 183) none
  have hv1 := HV.out.carry hgr
  have b1 : (w.alloc (.cells #[.int .i64 0, .int .i64 r, .int .i64 k, .int .i64 by'] 183)).cell? ⟨w.heap.size, 1, none⟩ = some (.int .i64 r) := box_cell _ _ _ _
  have b2 : (w.alloc (.cells #[.int .i64 0, .int .i64 r, .int .i64 k, .int .i64 by'] 183)).cell? ⟨w.heap.size, 2, none⟩ = some (.int .i64 k) := box_cell _ _ _ _
  generalize w.alloc (.cells #[.int .i64 0, .int .i64 r, .int .i64 k, .int .i64 by'] 183) = w1 at *
  have HGR := Lib.hid hgr
  have hcr := hv1.cell hlen.symm (by omega : r < L.length)
  have hck := hv1.cell hlen.symm (by omega : k < L.length)
  have hfr := hv1.free hlen.symm r
  have hfk := hv1.free hlen.symm k
  have HSW := Lib.hid (hv1.swap hlen.symm (by omega : r < L.length) (by omega : k < L.length) hne)
  clear hv1 hgr hlen
  obtain ⟨ax, cx, hx⟩ := row_slice HV.out r
  obtain ⟨ay, cy, hy⟩ := row_slice HV.out k
  rw [hx] at hcr HSW
  rw [hy] at hck HSW
  clear hx hy
  generalize (L.getD r []).length = nx at *
  generalize (L.getD k []).length = ny at *
  generalize w.heap.size = b at *
  have hbg : b ≠ g := by omega
  have hgb : g ≠ b := by omega
  have hne' : k ≠ r := Ne.symm hne
  go_region
  go_end0
  refine ⟨rfl, _, HSW.out.1.only (Only.drew (fun _ => False) _) (fun _ _ h => h), HSW.out.2.1, ?_⟩
  exact (((Only.of_grown (S := fun _ => False) HGR.out (by simp)).mono (fun _ h => h.elim)).trans (HSW.out.2.2.mono fun k hk => Or.inl hk)).trans (Only.drew _ _)

/-- one row written anew -/
theorem OwnM.setRow {B : Nat} {w w' : World} {v : Value} {vs : List Value} {L : List (List Int)} {zs : List Int} (h : OwnM B w v vs L) {r : Nat} (hr : r < L.length) (ho : Only (Hits (vs.getD r nilS)) w w') (hz : OwnInts B w' (vs.getD r nilS) zs) : OwnM B w' v vs (L.set r zs) := by
  refine ⟨by rw [List.length_set]; exact h.len, owns_only h.out ho fun k hk hk' => ?_, fun i => ?_, h.ap⟩
  · exact apart_types h.out (h.row r) (by decide) k hk hk'
  · by_cases hi : i = r
    · subst hi
      rw [List.getD_eq_getElem?_getD (l := L.set i zs), List.getElem?_set_self hr]
      exact hz
    · rw [List.getD_eq_getElem?_getD (l := L.set r zs), List.getElem?_set_ne (Ne.symm hi), ← List.getD_eq_getElem?_getD]
      exact (h.row i).only ho fun k hk hk' => h.ap i r hi k hk hk'

theorem scale_getD {p y : Int} {x : List Int} {j : Nat} (hj : j < x.length) : (scaleV p x y).getD j 0 = x.getD j 0 * y % p := by
  unfold scaleV
  simp only [List.getD_eq_getElem?_getD]
  rw [List.getElem?_map, List.getElem?_eq_getElem hj]
  simp
theorem invI_bd (p a : Int) (hp : 2 ≤ p) (ha : 0 ≤ a) (hp2 : p ≤ 1000) (ha2 : a ≤ 1000) : 0 ≤ invI p a ∧ invI p a ≤ 1000 := by
  unfold invI
  have h1 := Int.emod_nonneg (a ^ (p.toNat - 2 + if p = 2 then 1 else 0)) (show p ≠ 0 by omega)
  have h2 := Int.emod_lt_of_pos (a ^ (p.toNat - 2 + if p = 2 then 1 else 0)) (show 0 < p by omega)
  omega

set_option maxRecDepth 100000 in
set_option maxHeartbeats 1000000 in
theorem divide_any (p : Int) (r : Nat) (by' : Int) (v : Value) (vs : List Value) (L : List (List Int)) (B : Nat) (w : World) (hv : OwnM B w v vs L) (hr : r < L.length) (hl : L.length ≤ 1000000) (hll : ∀ row ∈ L, row.length ≤ 1000000)
    (hp : 2 ≤ p) (hp2 : p ≤ 1000) (hb0 : 0 ≤ by') (hb1 : by' ≤ 1000) (he : ∀ row ∈ L, ∀ z ∈ row, 0 ≤ z ∧ z ≤ 1000) :
    Calls Tryd.prog 196 #[opV 1 r 0 by', .int .i64 p, v] w fun e w' => e = .returned (.tuple #[]) ∧ OwnM B w' v vs (divL p L r (invI p by')) ∧ Only (Foot v vs) w w' := by
  have HV := Lib.hid hv
  obtain ⟨g, cap, rfl, hg0, hg1, hhit⟩ := hv.head (by intro h; rw [h] at hr; simp at hr)
  have hnl := hll _ (getD_mem hr)
  have HE := Lib.hid (he _ (getD_mem hr))
  have HBND := Lib.hid (invI_bd p by' hp hb0 hp2 hb1)
  have hbnd := HBND.out
  obtain ⟨ax, cx, hx⟩ := row_slice hv r
  generalize hnx : (L.getD r []).length = nx at *
  have HNX := Lib.hid hnx
  clear hnx
  have HX := Lib.hid hx
  clear hv hhit hg0 hll he hx
  generalize hlen : L.length = l at *
  have HL := Lib.hid hlen
  unfold opV
  go_enter Tryd.func196, Tryd.ntmps196
  go_wp2_with (
    go_at_call 110
    have hgr := grownBy_alloc w (.cells #[.int .i64 1, .int .i64 r, .int .i64 0, .int .i64 by'] 183) none
    have hbs : w.heap.size < (w.alloc (.cells #[.int .i64 1, .int .i64 r, .int .i64 0, .int .i64 by'] 183)).heap.size := by simp
    have hv1 := HV.out.carry hgr
    have b1 : (w.alloc (.cells #[.int .i64 1, .int .i64 r, .int .i64 0, .int .i64 by'] 183)).cell? ⟨w.heap.size, 1, none⟩ = some (.int .i64 r) := box_cell _ _ _ _
    generalize w.alloc (.cells #[.int .i64 1, .int .i64 r, .int .i64 0, .int .i64 by'] 183) = w1 at *
    have HGR := Lib.hid hgr; have HV1 := Lib.hid hv1; have HB1 := Lib.hid b1
    have hcr := hv1.cell hlen.symm (by omega : r < L.length)
    rw [HX.out] at hcr
    have HCR := Lib.hid hcr
    clear hgr hv1 hlen
    refine (inverse_any p by' _ hp hp2 hb0 hb1).mono ?_
    rintro e w' ⟨rfl, rfl⟩)
  generalize hy : invI p by' = y at *
  have HY := Lib.hid hy
  clear hy
  clear b1 hcr
  generalize hb : w.heap.size = b at *
  have HBE := Lib.hid hb
  clear hb
  go_loopw [43] (fun i wr => ∃ (k : Nat) (zs : List Int), k ≤ nx ∧ i = .int .i64 k ∧ zs.length = nx ∧ (∀ j, j < k → zs.getD j 0 = (L.getD r []).getD j 0 * y % p) ∧ (∀ j, k ≤ j → zs.getD j 0 = (L.getD r []).getD j 0) ∧ OwnInts B wr (.slice ax nx cx) zs ∧ Only (Hits (.slice ax nx cx)) w1 wr) (fun i _ => nx - (intOf i).toNat)
  case atStart => exact ⟨0, L.getD r [], by omega, rfl, HNX.out, fun _ h => absurd h (by omega), fun _ _ => rfl, by have := HV1.out.row r; rw [HX.out] at this; exact this, Only.refl _ _⟩
  case round =>
    obtain ⟨k, zs, hk, rfl, hz, h1, h2, ho, hon⟩ := hrel
    have HZ := Lib.hid hz; have H1 := Lib.hid h1; have H2 := Lib.hid h2; have HO := Lib.hid ho; have HON := Lib.hid hon
    clear hz h1 h2 ho hon
    by_cases hlt : k < nx
    · have hkx : k < (L.getD r []).length := by rw [HNX.out]; exact hlt
      have hkz : k < zs.length := by rw [HZ.out]; exact hlt
      obtain ⟨gx, cap', hve, hg0', hg1', hhit⟩ := HO.out.parts (by intro h; rw [h] at hkz; simp at hkz)
      simp only [Value.slice.injEq] at hve
      obtain ⟨rfl, _, rfl⟩ := hve
      have hgx : gx < b := by rw [← HBE.out]; exact (World.ownsRow.lt (by have := HV.out.row r; rw [HX.out] at this; exact this) gx rfl).2
      have hgne : g ≠ gx := by
        intro h
        refine apart_types HV1.out.out (HV1.out.row r) (by decide) g rfl ?_
        rw [HX.out, h]; rfl
      have b1 := (World.cell?_of_block (a := ⟨b, 1, none⟩) (HON.out.block b hbs (by simp [Hits, Value.ownBlock]; omega))).trans HB1.out
      have hcr := (World.cell?_of_block (a := ⟨g, r, none⟩) (HON.out.block g (by omega) (by simp [Hits, Value.ownBlock]; omega))).trans HCR.out
      have hcell := HO.out.cell HZ.out.symm hkz
      have hfree := HO.out.free HZ.out.symm k
      have hput := fun n => HO.out.put HZ.out.symm k n
      have HP := Lib.hid hput
      have e1 : zs[k] = (L.getD r []).getD k 0 := by rw [← getD_lt hkz]; exact H2.out k (Nat.le_refl _)
      have bb := HE.out _ (List.getElem_mem hkx)
      rw [← getD_lt hkx] at bb
      rw [e1] at hcell
      clear hput e1 hg0' hg1' hhit
      generalize hxk : (L.getD r []).getD k 0 = xk at *
      have HXK := Lib.hid hxk
      clear hxk hkx hkz
      have b3 := mul_bd bb.1 bb.2 hbnd.1 hbnd.2
      have b4 := Int.emod_nonneg (xk * y) (show p ≠ 0 by omega)
      have b5 := Int.emod_lt_of_pos (xk * y) (show 0 < p by omega)
      go_wp2
      go_region
      go_wp2
      go_roundw
      case rel =>
        have hkz : k < zs.length := by rw [HZ.out]; exact hlt
        refine ⟨k + 1, zs.set k (xk * y % p), by omega, by go_num, by rw [List.length_set]; exact HZ.out, fun j hj => ?_, fun j hj => ?_, (HP.out _).1.only (Only.drew (fun _ => False) _) (fun _ _ h => h), (HON.out.trans ((HP.out _).2.mono fun g hg => by rw [hg]; rfl)).trans (Only.drew _ _)⟩
        · by_cases hjk : k = j
          · subst hjk
            rw [getD_set_self hkz, HXK.out]
          · rw [getD_set_ne hjk]
            exact H1.out j (by omega)
        · rw [getD_set_ne (by omega)]
          exact H2.out j (by omega)
      case measure => simp [intOf]; omega
    · have hfin : zs = scaleV p (L.getD r []) y := by
        refine list_ext_getD (by rw [HZ.out]; unfold scaleV; rw [List.length_map]; exact HNX.out.symm) fun j hj => ?_
        have hjx : j < (L.getD r []).length := by rw [HNX.out, ← HZ.out]; exact hj
        rw [scale_getD hjx]
        exact H1.out j (by have := HZ.out; omega)
      have HF := Lib.hid hfin
      clear hfin
      go_wp2
      go_end0
      have hon : Only (Hits (vs.getD r nilS)) w1 wr := by rw [HX.out]; exact HON.out
      refine ⟨rfl, ?_, ?_⟩
      · have hz := HO.out
        rw [HF.out, ← HX.out] at hz
        rw [HY.out]
        exact HV1.out.setRow (by rw [HL.out]; exact hr) hon hz
      · exact ((Only.of_grown (S := fun _ => False) HGR.out (by simp)).mono (fun _ h => h.elim)).trans (hon.mono fun k hk => Foot.at hk)

set_option maxRecDepth 100000 in
set_option maxHeartbeats 1000000 in
/-- subtract: of row r, by' times row k -/
theorem subtract_any (p : Int) (r k : Nat) (by' : Int) (v : Value) (vs : List Value) (L : List (List Int)) (B n : Nat) (w : World) (hv : OwnM B w v vs L) (hr : r < L.length) (hk : k < L.length) (hne : r ≠ k) (hl : L.length ≤ 1000000) (hn : n ≤ 1000000) (hll : ∀ row ∈ L, row.length = n)
    (hp : 2 ≤ p) (hp2 : p ≤ 1000) (hb0 : 0 ≤ by') (hb1 : by' ≤ 1000) (he : ∀ row ∈ L, ∀ z ∈ row, 0 ≤ z ∧ z ≤ 1000) :
    Calls Tryd.prog 196 #[opV 2 r k by', .int .i64 p, v] w fun e w' => e = .returned (.tuple #[]) ∧ OwnM B w' v vs (L.set r (addT p (L.getD r []) (-by') (L.getD k []))) ∧ Only (Foot v vs) w w' := by
  have HV := Lib.hid hv
  obtain ⟨g, cap, rfl, hg0, hg1, hhit⟩ := hv.head (by intro h; rw [h] at hr; simp at hr)
  have hnr := Lib.hid (hll _ (getD_mem hr))
  have hnk := Lib.hid (hll _ (getD_mem hk))
  have HE := Lib.hid (he _ (getD_mem hr))
  have HEK := Lib.hid (he _ (getD_mem hk))
  obtain ⟨ax, cx, hx⟩ := row_slice hv r
  obtain ⟨ay, cy, hy⟩ := row_slice hv k
  rw [hnr.out] at hx
  rw [hnk.out] at hy
  have HX := Lib.hid hx
  have HY := Lib.hid hy
  clear hv hhit hg0 hll he hx hy
  generalize hlen : L.length = l at *
  have HL := Lib.hid hlen
  unfold opV
  go_enter Tryd.func196, Tryd.ntmps196
  go_wp2_with fail
  have hgr := grownBy_alloc w (.cells #[.int .i64 2, .int .i64 r, .int .i64 k, .int .i64 by'] 183) none
  have hv1 := HV.out.carry hgr
  have b1 : (w.alloc (.cells #[.int .i64 2, .int .i64 r, .int .i64 k, .int .i64 by'] 183)).cell? ⟨w.heap.size, 1, none⟩ = some (.int .i64 r) := box_cell _ _ _ _
  have b2 : (w.alloc (.cells #[.int .i64 2, .int .i64 r, .int .i64 k, .int .i64 by'] 183)).cell? ⟨w.heap.size, 2, none⟩ = some (.int .i64 k) := box_cell _ _ _ _
  have b3 : (w.alloc (.cells #[.int .i64 2, .int .i64 r, .int .i64 k, .int .i64 by'] 183)).cell? ⟨w.heap.size, 3, none⟩ = some (.int .i64 by') := box_cell _ _ _ _
  generalize w.alloc (.cells #[.int .i64 2, .int .i64 r, .int .i64 k, .int .i64 by'] 183) = w1 at *
  have HGR := Lib.hid hgr; have HV1 := Lib.hid hv1
  have hcr := hv1.cell hlen.symm (by omega : r < L.length)
  have hck := hv1.cell hlen.symm (by omega : k < L.length)
  rw [HX.out] at hcr
  rw [HY.out] at hck
  clear hgr hv1 hlen
  have A1 : OwnInts B w1.drew (.slice ax n cx) (L.getD r []) := by
    have := (HV1.out.row r).only (Only.drew (fun _ => False) w1) (fun _ _ h => h)
    rwa [HX.out] at this
  have A2 : IntsV w1.drew (.slice ay n cy) (L.getD k []) := by
    have := ((HV1.out.row k).only (Only.drew (fun _ => False) w1) (fun _ _ h => h)).read
    rwa [HY.out] at this
  have A3 : ∀ q, Hits (.slice ax n cx) q → Value.blk' (.slice ay n cy) ≠ some q := by
    intro q h1 h2
    have hb := (HV1.out.row k).blk
    rw [HY.out] at hb
    refine HV1.out.ap r k hne q (by rw [HX.out]; exact h1) ?_
    rw [HY.out]
    exact hb.symm.trans h2
  have A := Lib.hid (addTimes_any p (-by') _ _ _ _ B w1.drew A1 A2 (fun _ => A3) (by rw [hnr.out, hnk.out]) (by rw [hnr.out]; exact hn) hp hp2 (by omega) (by omega) HE.out HEK.out)
  clear A1 A2 A3
  go_still_tail 14, (by kernel_rfl)
  go_wp2_with (go_at_call 244; refine A.out.mono ?_; rintro e w' ⟨rfl, h1, h2⟩; have H1 := Lib.hid h1; have H2 := Lib.hid h2; clear h1 h2)
  go_end0
  have hon : Only (Hits (vs.getD r nilS)) w1 w' := by rw [HX.out]; exact (Only.drew _ _).trans H2.out
  refine ⟨rfl, HV1.out.setRow (by rw [HL.out]; exact hr) hon (by rw [HX.out]; exact H1.out), ?_⟩
  exact ((Only.of_grown (S := fun _ => False) HGR.out (by simp)).mono (fun _ h => h.elim)).trans (hon.mono fun k hk => Foot.at hk)

end Go.Proofs.YtpeaeminjbjlnaaDoor

/-
  One step of the reduction on two lists of rows at once (the closure of impl.reduction). Conditions: the elements are small, the indices within.
-/
namespace Go.Proofs.YtpeaeminjbjlnaaDoor
open Go.RowKit
set_option linter.unusedVariables false

structure Two (B : Nat) (w : World) (v : Value) (vs : List Value) (u : Value) (us : List Value) (R T : List (List Int)) : Prop where
  mR : OwnM B w v vs R
  mT : OwnM B w u us T
  ap : ∀ k, Foot v vs k → ¬ Foot u us k
def Feet (v : Value) (vs : List Value) (u : Value) (us : List Value) (k : Nat) : Prop := Foot v vs k ∨ Foot u us k
theorem Foot.mono {v : Value} {vs vs' : List Value} (h : ∀ x ∈ vs', x ∈ vs) {k : Nat} (hk : Foot v vs' k) : Foot v vs k := by
  rcases hk with hk | ⟨x, hx, hk⟩
  · exact Or.inl hk
  · exact Or.inr ⟨x, h x hx, hk⟩
/-- the captured variables -/
structure Caps (w : World) (N bp br ba : Nat) (p : Int) (v u : Value) : Prop where
  cp : w.cell? ⟨bp, 0, none⟩ = some (.int .i64 p)
  cr : w.cell? ⟨br, 0, none⟩ = some v
  ca : w.cell? ⟨ba, 0, none⟩ = some u
  np : N ≤ bp
  nr : N ≤ br
  na : N ≤ ba
  lp : bp < w.heap.size
  lr : br < w.heap.size
  la : ba < w.heap.size
theorem Caps.only {S : Nat → Prop} {w w' : World} {N bp br ba : Nat} {p : Int} {v u : Value} (h : Caps w N bp br ba p v u) (ho : Only S w w') (hs : ∀ k, S k → k < N) : Caps w' N bp br ba p v u := by
  have h1 := h.np; have h2 := h.nr; have h3 := h.na
  refine ⟨(World.cell?_of_block (w := w) (a := ⟨bp, 0, none⟩) (ho.block bp h.lp fun h' => ?_)).trans h.cp, (World.cell?_of_block (w := w) (a := ⟨br, 0, none⟩) (ho.block br h.lr fun h' => ?_)).trans h.cr,
    (World.cell?_of_block (w := w) (a := ⟨ba, 0, none⟩) (ho.block ba h.la fun h' => ?_)).trans h.ca, h1, h2, h3, Nat.lt_of_lt_of_le h.lp ho.size, Nat.lt_of_lt_of_le h.lr ho.size, Nat.lt_of_lt_of_le h.la ho.size⟩
  all_goals have := hs _ h'; omega

/-- equal rows: nothing is done -/
theorem step_same (p : Int) (r : Nat) (v u : Value) (N bp br ba : Nat) (w : World) (hc : Caps w N bp br ba p v u) :
    Calls Tryd.prog 254 #[opV 0 r r 0, .pointer (some ⟨bp, 0, none⟩), .pointer (some ⟨br, 0, none⟩), .pointer (some ⟨ba, 0, none⟩)] w fun e w' => e = .returned (.tuple #[]) ∧ Only (fun _ => False) w w' := by
  unfold opV
  clear hc
  go_enter Tryd.func254, Tryd.ntmps254
  go_wp2
  refine bodyPost_ret (results_none rfl _ _ _) rfl ?_
  exact ⟨rfl, Only.of_grown (grownBy_alloc _ _ none) (by simp)⟩

set_option maxRecDepth 100000 in
set_option maxHeartbeats 1000000 in
theorem step_do (p : Int) (kind : Int) (r k : Nat) (by' : Int) (v u : Value) (vs us : List Value) (R T R' T' : List (List Int)) (B N bp br ba : Nat) (w : World) (hc : Caps w N bp br ba p v u) (h2 : Two B w v vs u us R T) (hN : ∀ k, Feet v vs u us k → k < N)
    (hk : kind = 1 ∨ kind = 2 ∨ (kind = 0 ∧ (r : Int) ≠ k))
    (hA : ∀ w1, OwnM B w1 v vs R → Calls Tryd.prog 196 #[opV kind r k by', .int .i64 p, v] w1 fun e w' => e = .returned (.tuple #[]) ∧ ∃ vs', OwnM B w' v vs' R' ∧ (∀ x ∈ vs', x ∈ vs) ∧ Only (Foot v vs) w1 w')
    (hB : ∀ w1, OwnM B w1 u us T → Calls Tryd.prog 196 #[opV kind r k by', .int .i64 p, u] w1 fun e w' => e = .returned (.tuple #[]) ∧ ∃ us', OwnM B w' u us' T' ∧ (∀ x ∈ us', x ∈ us) ∧ Only (Foot u us) w1 w') :
    Calls Tryd.prog 254 #[opV kind r k by', .pointer (some ⟨bp, 0, none⟩), .pointer (some ⟨br, 0, none⟩), .pointer (some ⟨ba, 0, none⟩)] w fun e w' => e = .returned (.tuple #[]) ∧
      ∃ vs' us', Two B w' v vs' u us' R' T' ∧ (∀ x ∈ vs', x ∈ vs) ∧ (∀ x ∈ us', x ∈ us) ∧ Only (Feet v vs u us) w w' := by
  have HC := Lib.hid hc; have H2 := Lib.hid h2; have HN := Lib.hid hN; have HA := Lib.hid hA; have HB := Lib.hid hB
  clear hc h2 hN hA hB
  unfold opV at *
  have fin : ∀ w1 w2 w3 vs' us', Only (fun _ => False) w w1 → OwnM B w2 v vs' R' ∧ (∀ x ∈ vs', x ∈ vs) ∧ Only (Foot v vs) w1 w2 → OwnM B w3 u us' T' ∧ (∀ x ∈ us', x ∈ us) ∧ Only (Foot u us) w2 w3 →
      Two B w3 v vs' u us' R' T' ∧ (∀ x ∈ vs', x ∈ vs) ∧ (∀ x ∈ us', x ∈ us) ∧ Only (Feet v vs u us) w w3 := by
    intro w1 w2 w3 vs' us' o1 ⟨m1, s1, o2⟩ ⟨m2, s2, o3⟩
    refine ⟨⟨m1.only o3 fun k hk hk' => H2.out.ap k (hk.mono s1) hk', m2, fun k hk hk' => H2.out.ap k (hk.mono s1) (hk'.mono s2)⟩, s1, s2, ?_⟩
    exact ((o1.mono fun _ h => h.elim).trans (o2.mono fun k hk => Or.inl hk)).trans (o3.mono fun k hk => Or.inr hk)
  have FIN := Lib.hid fin
  clear fin
  have cp := HC.out.cp
  have cr := HC.out.cr
  have ca := HC.out.ca
  have lp := HC.out.lp
  have lr := HC.out.lr
  have la := HC.out.la
  have HA1 := Lib.hid fun o => HA.out (w.alloc o) (H2.out.mR.carry (grownBy_alloc w o none))
  have HB1 := Lib.hid fun o w2 (ho : Only (Foot v vs) (w.alloc o) w2) => HB.out w2 ((H2.out.mT.carry (grownBy_alloc w o none)).only ho fun k hk hk' => H2.out.ap k hk' hk)
  have FIN1 := Lib.hid fun o w2 w3 vs' us' h1 h2 => FIN.out (w.alloc o) w2 w3 vs' us' (Only.of_grown (grownBy_alloc w o none) (by simp)) h1 h2
  have after : ∀ w1 w2, Only (fun _ => False) w w1 → (∀ j (h : j < 4), w1.cell? ⟨w.heap.size, j, none⟩ = (#[Value.int .i64 kind, .int .i64 r, .int .i64 k, .int .i64 by'])[j]?) → Only (Foot v vs) w1 w2 → w.heap.size < w1.heap.size →
      (w2.cell? ⟨w.heap.size, 0, none⟩ = some (.int .i64 kind) ∧ w2.cell? ⟨w.heap.size, 1, none⟩ = some (.int .i64 r) ∧ w2.cell? ⟨w.heap.size, 2, none⟩ = some (.int .i64 k) ∧ w2.cell? ⟨w.heap.size, 3, none⟩ = some (.int .i64 by')) ∧
      w2.cell? ⟨bp, 0, none⟩ = some (.int .i64 p) ∧ w2.cell? ⟨br, 0, none⟩ = some v ∧ w2.cell? ⟨ba, 0, none⟩ = some u := by
    intro w1 w2 o1 hb o2 hlt
    have c1 := (HC.out.only o1 (fun _ h => h.elim)).only o2 fun k hk => HN.out k (Or.inl hk)
    have hn : ¬ Foot v vs w.heap.size := by
      intro h
      have h1 := HN.out _ (Or.inl h)
      have h2 := HC.out.np
      omega
    have hcell : ∀ j, w2.cell? ⟨w.heap.size, j, none⟩ = w1.cell? ⟨w.heap.size, j, none⟩ := fun j => World.cell?_of_block (a := ⟨w.heap.size, j, none⟩) (o2.block w.heap.size hlt hn)
    refine ⟨⟨?_, ?_, ?_, ?_⟩, c1.cp, c1.cr, c1.ca⟩
    · rw [hcell, hb 0 (by omega)]; rfl
    · rw [hcell, hb 1 (by omega)]; rfl
    · rw [hcell, hb 2 (by omega)]; rfl
    · rw [hcell, hb 3 (by omega)]; rfl
  have AFTER := Lib.hid fun w2 => after (w.alloc (.cells #[Value.int .i64 kind, .int .i64 r, .int .i64 k, .int .i64 by'] 183)) w2 (Only.of_grown (grownBy_alloc w _ none) (by simp)) (fun j _ => box_cell w _ _ j) |> fun h a => h a (by simp)
  clear after
  rcases hk with rfl | rfl | ⟨rfl, hne⟩
  all_goals
    go_enter Tryd.func254, Tryd.ntmps254
    go_wp2_with (
      go_at_call 196
      first
        | (with_reducible refine (HA1.out _).mono ?_
           rintro e w2 ⟨rfl, vs', a1, a2, a3⟩
           obtain ⟨⟨d0, d1, d2, d3⟩, e1, e2, e3⟩ := AFTER.out _ a3
           have A1 := Lib.hid a1; have A2 := Lib.hid a2; have A3 := Lib.hid a3
           clear a1 a2 a3)
        | (with_reducible refine (HB1.out _ _ A3.out).mono ?_
           rintro e w3 ⟨rfl, us', a1, a2, a3⟩
           have A4 := Lib.hid a1; have A5 := Lib.hid a2; have A6 := Lib.hid a3
           clear a1 a2 a3))
    go_end0
    exact ⟨rfl, vs', us', FIN1.out _ _ _ _ _ ⟨A1.out, A2.out, A3.out⟩ ⟨A4.out, A5.out, A6.out⟩⟩

end Go.Proofs.YtpeaeminjbjlnaaDoor

/-
  What elimination gives: reduced lists, their uniqueness, ranks, kernels, inverses; on lists of lists of integers. Plain mathematics. Conditions: the number of elements is a field of the program's kind; rows of one length.
-/
namespace Go.Proofs.YtpeaeminjbjlnaaDoor
open La
set_option linter.unusedVariables false
variable {p : Nat} [NeZero p]

theorem one_ne (hf : fldN p = true) : (1 : Fin p) ≠ 0 := by
  have h2 := (of_decide_eq_true hf).1
  rw [← toF_one]
  exact toF_ne (by omega) (by omega) (by omega)
omit [NeZero p] in
theorem lt_p (hf : fldN p = true) : 1 < p := (of_decide_eq_true hf).1

/-! ### one round -/
theorem pivAt_none {R : List (List Int)} {c r : Nat} (hr : r ≤ R.length) (h : pivAt R c r = none) : ∀ k, r ≤ k → k < R.length → at2 R k c = 0 := by
  intro k hk hm
  have := firstFrom_none h k hk (by omega)
  simpa using this
theorem pivAt_some {R : List (List Int)} {c r k : Nat} (hr : r ≤ R.length) (h : pivAt R c r = some k) : r ≤ k ∧ k < R.length ∧ at2 R k c ≠ 0 := by
  obtain ⟨h1, h2, h3, _⟩ := firstFrom_some h
  exact ⟨h2, by omega, by simpa using h1⟩

structure GInv (p m n m' c : Nat) [NeZero p] (s : St) : Prop where
  lenR : s.R.length = m
  lenT : s.T.length = m
  okR : RowsOk p n s.R
  okT : RowsOk p m' s.T
  elim : ∃ piv, Elim m n c s.r piv (mx p s.R)

theorem stepWith_R {m n m' c k : Nat} {s : St} {piv : Nat → Nat} (hf : fldN p = true) (h : GInv p m n m' c s) (hc : c < n) (hk : s.r ≤ k) (hkm : k < m) (hy : at2 s.R k c ≠ 0)
    (he : Elim m n c s.r piv (mx p s.R)) :
    GInv p m n m' (c + 1) (stepWith p c k s) ∧ ∀ M T0 : Mx p, Inv m n M (mx p s.R) (mx p s.T) → Inv m n M (mx p (stepWith p c k s).R) (mx p (stepWith p c k s).T) := by
  have hrm : s.r < m := by omega
  have lR := h.lenR
  have lT := h.lenT
  have l1 := swapL_len s.R s.r k
  have l2 := swapL_len s.T s.r k
  have o1 := swapL_ok h.okR (a := s.r) (b := k) (by omega) (by omega)
  have o2 := swapL_ok h.okT (a := s.r) (b := k) (by omega) (by omega)
  generalize hy' : invI p (at2 (swapL s.R s.r k) s.r c) = y
  have hat : at2 (swapL s.R s.r k) s.r c = at2 s.R k c := by
    unfold at2
    rw [swapL_get (by omega) (by omega)]
    simp [tw]
  have hinv : mx p s.R k c * toF p y = 1 := by
    have hb := at2_ok (i := k) (c := c) h.okR
    rw [mx_at2, ← hy', hat]
    exact toF_inv hf (by omega) hb.2
  have l3 := divL_len (p := p) (swapL s.R s.r k) s.r y
  have l4 := divL_len (p := p) (swapL s.T s.r k) s.r y
  have o3 := divL_ok o1 (r := s.r) (by omega) y
  have o4 := divL_ok o2 (r := s.r) (by omega) y
  have e : stepWith p c k s = ⟨clearL p (divL p (swapL s.R s.r k) s.r y) c s.r (divL p (swapL s.R s.r k) s.r y), clearL p (divL p (swapL s.R s.r k) s.r y) c s.r (divL p (swapL s.T s.r k) s.r y), s.r + 1⟩ := by
    unfold stepWith
    simp only [hy']
  have eR : ∀ i j, mx p (divL p (swapL s.R s.r k) s.r y) i j = scale s.r (toF p y) (fun i => mx p s.R (tw s.r k i)) i j := by
    intro i j
    rw [mx_divL (by omega)]
    unfold La.scale
    rw [mx_swapL (by omega) (by omega)]
  have eT : ∀ i j, mx p (divL p (swapL s.T s.r k) s.r y) i j = scale s.r (toF p y) (fun i => mx p s.T (tw s.r k i)) i j := by
    intro i j
    rw [mx_divL (by omega)]
    unfold La.scale
    rw [mx_swapL (by omega) (by omega)]
  have fR : ∀ i, i < m → ∀ j, mx p (stepWith p c k s).R i j = clear m s.r c (scale s.r (toF p y) fun i => mx p s.R (tw s.r k i)) (scale s.r (toF p y) fun i => mx p s.R (tw s.r k i)) i j := by
    intro i hi j
    rw [e]
    rw [mx_clearL o3 (by omega) hrm i hi]
    unfold La.clear
    simp only [eR]
  have fT : ∀ i, i < m → ∀ j, mx p (stepWith p c k s).T i j = clear m s.r c (scale s.r (toF p y) fun i => mx p s.R (tw s.r k i)) (scale s.r (toF p y) fun i => mx p s.T (tw s.r k i)) i j := by
    intro i hi j
    rw [e]
    rw [mx_clearL o4 (by omega) hrm i hi]
    unfold La.clear
    simp only [eR, eT]
  refine ⟨⟨?_, ?_, ?_, ?_, ?_⟩, fun M T0 hI => ?_⟩
  · rw [e]; simp only [clearL_len]; omega
  · rw [e]; simp only [clearL_len]; omega
  · rw [e]; exact clearL_ok o3 (by omega)
  · rw [e]; exact clearL_ok o4 (by omega)
  · refine ⟨fun i => if i = s.r then c else piv i, ?_⟩
    have := he.some hc hk hkm hinv
    have hr : (stepWith (p : Int) c k s).r = s.r + 1 := rfl
    rw [hr]
    exact this.congr fun i hi j => (fR i hi j).symm
  · have h1 := (hI.swap (a := s.r) (b := k) hrm hkm).scale hrm (k := toF p y) (k' := mx p s.R k c) (by rw [← hinv]; grind)
    have h2 := h1.clear (c := c) hrm m (Nat.le_refl _)
    exact h2.congr (fun i hi j => (fR i hi j).symm) (fun i hi j => (fT i hi j).symm)

theorem step_inv {m n m' c : Nat} {s : St} (hf : fldN p = true) (h : GInv p m n m' c s) (hc : c < n) :
    GInv p m n m' (c + 1) (stepL p c s) ∧ ∀ M : Mx p, Inv m n M (mx p s.R) (mx p s.T) → Inv m n M (mx p (stepL p c s).R) (mx p (stepL p c s).T) := by
  obtain ⟨piv, he⟩ := h.elim
  have hrm := he.rm
  have lR := h.lenR
  unfold stepL
  cases hp : pivAt s.R c s.r with
  | none =>
    have h0 := pivAt_none (by omega) hp
    refine ⟨⟨h.lenR, h.lenT, h.okR, h.okT, piv, he.none hc fun k hk hm => ?_⟩, fun M hI => hI⟩
    rw [mx_at2, h0 k hk (by omega), toF_zero]
  | some k =>
    obtain ⟨h1, h2, h3⟩ := pivAt_some (by omega) hp
    have := stepWith_R hf h hc h1 (by omega) h3 he
    exact ⟨this.1, fun M hI => this.2 M M hI⟩

theorem red_inv {m n m' : Nat} {R T : List (List Int)} (hf : fldN p = true) (hR : RowsOk p n R) (hT : RowsOk p m' T) (lR : R.length = m) (lT : T.length = m) :
    ∀ c, c ≤ n → GInv p m n m' c (redTo p R T c) ∧ ∀ M : Mx p, Inv m n M (mx p R) (mx p T) → Inv m n M (mx p (redTo p R T c).R) (mx p (redTo p R T c).T) := by
  intro c
  induction c with
  | zero => intro _; exact ⟨⟨lR, lT, hR, hT, fun _ => 0, Elim.start _ _ _ _⟩, fun M h => h⟩
  | succ c ih =>
    intro hc
    obtain ⟨h1, h2⟩ := ih (by omega)
    have := step_inv hf h1 (by omega)
    exact ⟨this.1, fun M hI => this.2 M (h2 M hI)⟩

omit [NeZero p] in
/-- What is reduced does not hang on what is made beside it. -/
theorem redTo_R (q : Int) (R T T' : List (List Int)) : ∀ c, (redTo q R T c).R = (redTo q R T' c).R ∧ (redTo q R T c).r = (redTo q R T' c).r := by
  intro c
  induction c with
  | zero => exact ⟨rfl, rfl⟩
  | succ c ih =>
    obtain ⟨h1, h2⟩ := ih
    simp only [redTo]
    generalize redTo q R T c = s at h1 h2
    generalize redTo q R T' c = s' at h1 h2
    obtain ⟨sR, sT, sr⟩ := s
    obtain ⟨sR', sT', sr'⟩ := s'
    simp only at h1 h2
    subst h1 h2
    unfold stepL
    simp only
    cases pivAt sR c sr with
    | none => exact ⟨rfl, rfl⟩
    | some k => exact ⟨rfl, rfl⟩

/-! ### reduced lists -/
def IsRed (p n : Nat) [NeZero p] (L : List (List Int)) : Prop := RowsOk p n L ∧ ∃ piv, RR L.length n (mx p L) piv
def Spn (p n : Nat) [NeZero p] (L : List (List Int)) (v : Vec p) : Prop := In L.length n (mx p L) v
theorem red_unique {n : Nat} {L L' : List (List Int)} (hf : fldN p = true) (h : IsRed p n L) (h' : IsRed p n L') (hs : ∀ v, Spn p n L v ↔ Spn p n L' v) : L = L' := by
  obtain ⟨o, piv, hr⟩ := h
  obtain ⟨o', piv', hr'⟩ := h'
  obtain ⟨h1, _, h3⟩ := hr.unique hr' (one_ne hf) hs
  exact rows_ext o o' rfl h1.symm h3

def reducedL (p : Int) (n : Nat) (M : List (List Int)) : List (List Int) :=
  let s := redTo p M (List.replicate M.length []) n
  s.R.take s.r
def rankL (p : Int) (n : Nat) (M : List (List Int)) : Nat := (redTo p M (List.replicate M.length []) n).r
def kernelL (p : Int) (n : Nat) (M : List (List Int)) : List (List Int) :=
  let s := redTo p M (idL M.length) n
  reducedL p M.length (s.T.drop s.r)

theorem id_inv {m n : Nat} (M : Mx p) : Inv m n M M (mx p (idL m)) :=
  ⟨fun i hi j hj => by
      rw [(Inv.start m n M).made i hi j hj]
      exact S_congr fun t ht => by rw [mx_idL hi ht],
    fun x hx => (Inv.start m n M).indep x fun j hj => by
      refine Eq.trans ?_ (hx j hj)
      exact S_congr fun t ht => by rw [mx_idL ht hj],
    fun v => Iff.rfl⟩

/-- All that elimination with the identity beside it gives. -/
structure Ge (p m n : Nat) [NeZero p] (M : List (List Int)) (s : St) : Prop where
  lenR : s.R.length = m
  lenT : s.T.length = m
  okR : RowsOk p n s.R
  okT : RowsOk p m s.T
  rm : s.r ≤ m
  rr : ∃ piv, RR s.r n (mx p s.R) piv ∧ ∀ i k, i < s.r → k < m → k ≠ i → mx p s.R k (piv i) = 0
  low : ∀ k j, s.r ≤ k → k < m → j < n → mx p s.R k j = 0
  inv : Inv m n (mx p M) (mx p s.R) (mx p s.T)
theorem ge {m n : Nat} {M : List (List Int)} (hf : fldN p = true) (hM : RowsOk p n M) (hm : M.length = m) : Ge p m n M (redTo p M (idL m) n) := by
  obtain ⟨h, hI⟩ := red_inv hf hM (idL_ok (lt_p hf)) hm (idL_len m) n (Nat.le_refl _)
  obtain ⟨piv, he⟩ := h.elim
  exact ⟨h.lenR, h.lenT, h.okR, h.okT, he.rm, ⟨piv, he.rr, he.col⟩, he.low, hI _ (id_inv _)⟩

omit [NeZero p] in
theorem take_ok {n k : Nat} {L : List (List Int)} (h : RowsOk p n L) : RowsOk p n (L.take k) := fun row hr => h row (List.mem_of_mem_take hr)
omit [NeZero p] in
theorem drop_ok {n k : Nat} {L : List (List Int)} (h : RowsOk p n L) : RowsOk p n (L.drop k) := fun row hr => h row (List.mem_of_mem_drop hr)
theorem mx_take {L : List (List Int)} {k i : Nat} (hi : i < k) : mx p (L.take k) i = mx p L i := by
  unfold mx
  simp only [List.getD_eq_getElem?_getD]
  rw [List.getElem?_take, if_pos hi]
theorem mx_drop {L : List (List Int)} {k : Nat} (i : Nat) : mx p (L.drop k) i = mx p L (k + i) := by
  unfold mx
  simp only [List.getD_eq_getElem?_getD]
  rw [List.getElem?_drop]

theorem La.RR.congr' {r n : Nat} {A B : Mx p} {piv : Nat → Nat} (h : RR r n A piv) (e : ∀ i, i < r → A i = B i) : RR r n B piv :=
  ⟨h.lt, h.inc, fun i hi => by rw [← e i hi]; exact h.one i hi, fun i k hi hk hn => by rw [← e k hk]; exact h.col i k hi hk hn, fun i j hi hj => by rw [← e i hi]; exact h.left i j hi hj⟩

theorem reducedL_eq (q : Int) (n : Nat) (M T : List (List Int)) : reducedL q n M = (redTo q M T n).R.take (redTo q M T n).r := by
  unfold reducedL
  obtain ⟨h1, h2⟩ := redTo_R q M (List.replicate M.length []) T n
  simp only [h1, h2]
theorem rankL_eq (q : Int) (n : Nat) (M T : List (List Int)) : rankL q n M = (redTo q M T n).r := (redTo_R q M (List.replicate M.length []) T n).2

theorem reducedL_len {n : Nat} {M : List (List Int)} (hf : fldN p = true) (hM : RowsOk p n M) : (reducedL p n M).length = rankL p n M := by
  have g := ge hf hM rfl
  rw [reducedL_eq _ _ _ (idL M.length), rankL_eq _ _ _ (idL M.length), List.length_take, g.lenR]
  have := g.rm
  omega
theorem rank_le {n : Nat} {M : List (List Int)} (hf : fldN p = true) (hM : RowsOk p n M) : rankL p n M ≤ M.length := by
  rw [rankL_eq _ _ _ (idL M.length)]
  exact (ge hf hM rfl).rm
theorem reducedL_red {n : Nat} {M : List (List Int)} (hf : fldN p = true) (hM : RowsOk p n M) : IsRed p n (reducedL p n M) := by
  have g := ge hf hM rfl
  have hl := reducedL_len hf hM
  rw [rankL_eq _ _ _ (idL M.length)] at hl
  refine ⟨?_, ?_⟩
  · rw [reducedL_eq _ _ _ (idL M.length)]; exact take_ok g.okR
  · obtain ⟨piv, hr, _⟩ := g.rr
    refine ⟨piv, ?_⟩
    rw [hl]
    refine hr.congr' fun i hi => ?_
    rw [reducedL_eq _ _ _ (idL M.length), mx_take hi]

theorem reducedL_span {n : Nat} {M : List (List Int)} (hf : fldN p = true) (hM : RowsOk p n M) (v : Vec p) : Spn p n (reducedL p n M) v ↔ Spn p n M v := by
  have g := ge hf hM rfl
  have hl := reducedL_len hf hM
  rw [rankL_eq _ _ _ (idL M.length)] at hl
  unfold Spn
  rw [hl, ← g.inv.span, In_low g.rm g.low]
  constructor
  · intro h
    exact h.rows fun i hi j _ => by rw [reducedL_eq _ _ _ (idL M.length), mx_take hi]
  · intro h
    exact h.rows fun i hi j _ => by rw [reducedL_eq _ _ _ (idL M.length), mx_take hi]
theorem reducedL_self {n : Nat} {L : List (List Int)} (hf : fldN p = true) (h : IsRed p n L) : reducedL p n L = L :=
  red_unique hf (reducedL_red hf h.1) h fun v => reducedL_span hf h.1 v

/-! ### independent rows -/
theorem indep_rank {m n : Nat} {A : List (List Int)} (hf : fldN p = true) (hA : RowsOk p n A) (hl : A.length = m) (hi : Indep m n (mx p A)) : rankL p n A = m := by
  have g := ge hf hA hl
  rw [rankL_eq _ _ _ (idL m)]
  have hrm := g.rm
  rcases Nat.lt_or_ge (redTo p A (idL m) n).r m with h | h
  · exfalso
    generalize redTo (p : Int) A (idL m) n = s at g hrm h
    have h0 : ∀ j, j < m → mx p s.T s.r j = 0 := by
      refine hi (mx p s.T s.r) fun j hj => ?_
      rw [← g.inv.made s.r h j hj]
      exact g.low s.r j (Nat.le_refl _) h hj
    have h1 := g.inv.indep (fun i => if i = s.r then 1 else 0) (fun j hj => by
      unfold comb
      rw [S_one h (fun k _ hk => by simp [hk, f0m])]
      simp only [if_true, f1m]
      exact h0 j hj) s.r h
    simp only [if_true] at h1
    exact one_ne hf h1
  · omega

theorem red_indep {n : Nat} {L : List (List Int)} (h : IsRed p n L) : Indep L.length n (mx p L) := by
  obtain ⟨_, piv, hr⟩ := h
  exact hr.indep

/-! ### kernels -/
theorem kernelL_red {n : Nat} {M : List (List Int)} (hf : fldN p = true) (hM : RowsOk p n M) : IsRed p M.length (kernelL p n M) :=
  reducedL_red hf (drop_ok (ge hf hM rfl).okT)
theorem kernel_tail {m n : Nat} {M : List (List Int)} {s : St} (g : Ge p m n M s) : Indep (m - s.r) m (mx p (s.T.drop s.r)) := by
  intro x hx i hi
  have hrm := g.rm
  have := g.inv.indep (fun k => if k < s.r then 0 else x (k - s.r)) (fun j hj => by
    refine Eq.trans ?_ (hx j hj)
    unfold comb
    rw [show m = s.r + (m - s.r) from by omega, S_append, S_zero' (n := s.r) (fun i hi => by simp [hi, f0m]), show s.r + (m - s.r) - s.r = m - s.r from by omega, f0a]
    refine S_congr fun i _ => ?_
    have h1 : ¬ s.r + i < s.r := by omega
    simp only [h1, if_false, show s.r + i - s.r = i from by omega]
    rw [mx_drop]) (s.r + i) (by omega)
  have h1 : ¬ s.r + i < s.r := by omega
  simpa [h1, show s.r + i - s.r = i from by omega] using this
theorem kernelL_len {n : Nat} {M : List (List Int)} (hf : fldN p = true) (hM : RowsOk p n M) : (kernelL p n M).length = M.length - rankL p n M := by
  have g := ge hf hM rfl
  unfold kernelL
  simp only
  rw [reducedL_len hf (drop_ok g.okT)]
  have hl : ((redTo p M (idL M.length) n).T.drop (redTo p M (idL M.length) n).r).length = M.length - (redTo p M (idL M.length) n).r := by rw [List.length_drop, g.lenT]
  rw [indep_rank hf (drop_ok g.okT) hl (kernel_tail g), ← rankL_eq _ _ _ (idL M.length)]

/-- Square independent rows have an inverse at their left. -/
theorem left_inverse {m : Nat} {A : List (List Int)} (hf : fldN p = true) (hA : RowsOk p m A) (hl : A.length = m) (hi : Indep m m (mx p A)) :
    (∀ i, i < m → ∀ j, j < m → comb m (mx p (redTo p A (idL m) m).T i) (mx p A) j = if i = j then 1 else 0) ∧ rankL p m A = m := by
  have hr := indep_rank hf hA hl hi
  refine ⟨fun i hi' j hj => ?_, hr⟩
  have g := ge hf hA hl
  rw [rankL_eq _ _ _ (idL m)] at hr
  generalize redTo (p : Int) A (idL m) m = s at g hr
  obtain ⟨piv, h, hcol⟩ := g.rr
  rw [← g.inv.made i hi' j hj]
  rw [hr] at h hcol
  have hp : ∀ i, i < m → piv i = i := by
    have hge : ∀ i, i < m → i ≤ piv i := by
      intro i
      induction i with
      | zero => intro _; omega
      | succ i ih =>
        intro hi
        have h1 := ih (by omega)
        have h2 := h.inc i (i + 1) (by omega) hi
        omega
    have hle : ∀ d i, i + d + 1 = m → piv i ≤ i := by
      intro d
      induction d with
      | zero => intro i hi; have := h.lt i (by omega); omega
      | succ d ih =>
        intro i hi
        have h1 := ih (i + 1) (by omega)
        have h2 := h.inc i (i + 1) (by omega) (by omega)
        omega
    intro i hi
    have h1 := hge i hi
    have h2 := hle (m - i - 1) i (by omega)
    omega
  by_cases e : i = j
  · subst e
    have := h.one i hi'
    rw [hp i hi'] at this
    simp [this]
  · have := hcol j i hj hi' e
    rw [hp j hj] at this
    simp [this, e]

/-- x with x M = 0: the span of the kernel. -/
theorem kernelL_span {n : Nat} {M : List (List Int)} (hf : fldN p = true) (hM : RowsOk p n M) (x : Vec p) :
    Spn p M.length (kernelL p n M) x ↔ ∀ j, j < n → comb M.length x (mx p M) j = 0 := by
  have g := ge hf hM rfl
  have hsp := reducedL_span hf (drop_ok (k := (redTo p M (idL M.length) n).r) g.okT) x
  have hli := left_inverse hf g.okT g.lenT g.inv.indep
  have e0 : kernelL p n M = reducedL p M.length ((redTo p M (idL M.length) n).T.drop (redTo p M (idL M.length) n).r) := rfl
  rw [e0, hsp]
  generalize redTo (p : Int) M (idL M.length) n = s at *
  have hrm := g.rm
  unfold Spn
  rw [List.length_drop, g.lenT]
  have low : ∀ i, i < M.length - s.r → ∀ j, j < n → comb M.length (mx p (s.T.drop s.r) i) (mx p M) j = 0 := by
    intro i hi j hj
    rw [mx_drop, ← g.inv.made (s.r + i) (by omega) j hj]
    exact g.low _ j (by omega) (by omega) hj
  constructor
  · rintro ⟨y, hy⟩ j hj
    have e1 : comb M.length x (mx p M) j = S M.length (fun t => S (M.length - s.r) (fun i => y i * (mx p (s.T.drop s.r) i t * mx p M t j))) := by
      unfold comb
      refine S_congr fun t ht => ?_
      rw [hy t ht]
      unfold comb
      rw [← S_mulr]
      exact S_congr fun i _ => by grind
    rw [e1, S_comm]
    refine S_zero' fun i hi => ?_
    rw [S_mul]
    have := low i hi j hj
    unfold comb at this
    rw [this, fm0]
  · intro h0
    -- x = (x C) T with C the inverse of T
    let C := mx p (redTo p s.T (idL M.length) M.length).T
    let y : Vec p := fun t => S M.length (fun i => x i * C i t)
    have hx : ∀ j, j < M.length → x j = comb M.length y (mx p s.T) j := by
      intro j hj
      have e1 : comb M.length y (mx p s.T) j = S M.length (fun i => x i * comb M.length (C i) (mx p s.T) j) := by
        unfold comb
        have e2 : ∀ t, y t * mx p s.T t j = S M.length (fun i => x i * (C i t * mx p s.T t j)) := by
          intro t
          show S M.length (fun i => x i * C i t) * mx p s.T t j = _
          rw [← S_mulr]
          exact S_congr fun i _ => by grind
        simp only [e2]
        rw [S_comm]
        exact S_congr fun i _ => by rw [S_mul]
      rw [e1, S_one hj (fun i hi hn => by rw [hli.1 i hi j hj]; simp [hn, fm0]), hli.1 j hj j hj]
      simp [fm1]
    have hyR : ∀ j, j < n → comb M.length y (mx p s.R) j = 0 := by
      intro j hj
      rw [← h0 j hj]
      have e1 : comb M.length x (mx p M) j = S M.length (fun t => S M.length (fun i => y i * (mx p s.T i t * mx p M t j))) := by
        unfold comb
        refine S_congr fun t ht => ?_
        rw [hx t ht]
        unfold comb
        rw [← S_mulr]
        exact S_congr fun i _ => by grind
      rw [e1, S_comm]
      unfold comb
      refine S_congr fun i hi => ?_
      rw [S_mul, g.inv.made i hi j hj]
      rfl
    obtain ⟨piv, hr, hcol⟩ := g.rr
    have hy0 : ∀ i, i < s.r → y i = 0 := by
      intro i hi
      have h1 := hyR (piv i) (hr.lt i hi)
      unfold comb at h1
      rw [S_one (show i < M.length by omega) (fun k hk hn => by rw [hcol i k hi hk hn, fm0]), hr.one i hi, fm1] at h1
      exact h1
    refine ⟨fun i => y (s.r + i), fun j hj => ?_⟩
    rw [hx j hj]
    unfold comb
    have : ∀ k, k = M.length - s.r → S M.length (fun i => y i * mx p s.T i j) = S k (fun i => y (s.r + i) * mx p (s.T.drop s.r) i j) := by
      intro k hk
      rw [show M.length = s.r + k from by omega, S_append, S_zero' (n := s.r) (fun i hi => by rw [hy0 i hi, f0m]), f0a]
      exact S_congr fun i _ => by rw [mx_drop]
    exact this _ rfl

end Go.Proofs.YtpeaeminjbjlnaaDoor

/-
  The state of the specification's reduction, and what its steps do to it. Conditions: the elements are small.
-/
import Derived.Test.YtpeaeminjbjlnaaDoorMk13
import Derived.Test.YtpeaeminjbjlnaaDoorMk00
import Derived.Test.YtpeaeminjbjlnaaDoorMk02
namespace Go.Proofs.YtpeaeminjbjlnaaDoor
open Go.RowKit
set_option linter.unusedVariables false

structure MidS (B : Nat) (v u : Value) (vs0 us0 : List Value) (w0 : World) (R T : List (List Int)) (w : World) : Prop where
  ex : ∃ vs us, Two B w v vs u us R T ∧ (∀ x ∈ vs, x ∈ vs0) ∧ (∀ x ∈ us, x ∈ us0)
  on : Only (Feet v vs0 u us0) w0 w
  keep : ∀ (k : Nat) (cs : Array Value), w0.heap[k]? = some (.cells cs 39 (0, 0)) → w.heap[k]? = some (.cells cs 39 (0, 0))
section
variable {B : Nat} {v u : Value} {vs0 us0 : List Value} {w0 : World} {R T : List (List Int)} {w : World}
theorem MidS.next {vs us vs' us' : List Value} {R' T' : List (List Int)} {w' : World} (h : MidS B v u vs0 us0 w0 R T w) (t : Two B w v vs u us R T) (h1 : ∀ x ∈ vs, x ∈ vs0) (h2 : ∀ x ∈ us, x ∈ us0)
    (t' : Two B w' v vs' u us' R' T') (b1 : ∀ x ∈ vs', x ∈ vs) (b2 : ∀ x ∈ us', x ∈ us) (o : Only (Feet v vs u us) w w') : MidS B v u vs0 us0 w0 R' T' w' := by
  refine ⟨⟨vs', us', t', fun x hx => h1 x (b1 x hx), fun x hx => h2 x (b2 x hx)⟩, h.on.trans (o.mono fun k hk => hk.mono h1 h2), fun k cs hk => ?_⟩
  have := h.keep k cs hk
  refine (o.block k (lt_of_blk this) ?_).trans this
  rintro (hh | hh)
  · exact foot_ne this t.mR hh
  · exact foot_ne this t.mT hh
theorem MidS.drew (h : MidS B v u vs0 us0 w0 R T w) : MidS B v u vs0 us0 w0 R T w.drew := by
  obtain ⟨vs, us, t, s1, s2⟩ := h.ex
  exact h.next t s1 s2 ⟨t.mR.only (Only.drew (fun _ => False) w) (fun _ _ h => h), t.mT.only (Only.drew (fun _ => False) w) (fun _ _ h => h), t.ap⟩ (fun x h => h) (fun x h => h) (Only.drew _ _)
theorem Two.setR {vs us : List Value} {w' : World} {r : Nat} {zs : List Int} (t : Two B w v vs u us R T) (hr : r < R.length) (ho : Only (Hits (vs.getD r nilS)) w w') (hz : OwnInts B w' (vs.getD r nilS) zs) :
    Two B w' v vs u us (R.set r zs) T ∧ Only (Feet v vs u us) w w' :=
  ⟨⟨t.mR.setRow hr ho hz, t.mT.only ho fun k hk hk' => t.ap k (Foot.at hk') hk, t.ap⟩, ho.mono fun k hk => Or.inl (Foot.at hk)⟩
theorem Two.setT {vs us : List Value} {w' : World} {r : Nat} {zs : List Int} (t : Two B w v vs u us R T) (hr : r < T.length) (ho : Only (Hits (us.getD r nilS)) w w') (hz : OwnInts B w' (us.getD r nilS) zs) :
    Two B w' v vs u us R (T.set r zs) ∧ Only (Feet v vs u us) w w' :=
  ⟨⟨t.mR.only ho fun k hk hk' => t.ap k hk (Foot.at hk'), t.mT.setRow hr ho hz, t.ap⟩, ho.mono fun k hk => Or.inr (Foot.at hk)⟩

variable {m n n' : Nat} {p : Int}
theorem MidS.elem (h : MidS B v u vs0 us0 w0 R T w) (hf : Fit p m n n' R T) {i c : Nat} (hi : i < m) (hc : c < n) :
    ∃ g cap gi ci, v = .slice (some ⟨g, 0, none⟩) m cap ∧ w.cell? ⟨g, i, none⟩ = some (.slice (some ⟨gi, 0, none⟩) n ci) ∧ w.cell? ⟨gi, c, none⟩ = some (.int .i64 (at2 R i c)) := by
  obtain ⟨vs, us, t, _, _⟩ := h.ex
  have lR := hf.lR
  obtain ⟨g, cap, rfl, _⟩ := t.mR.head (by intro h; rw [h] at lR; simp at lR; omega)
  have hrow := hf.oR _ (getD_mem (show i < R.length by omega))
  obtain ⟨gi, ci, _, _, _, _, d1, d2, _⟩ := t.mR.elemAt rfl (i := i) (j := c) (by omega) (by rw [hrow.1]; exact hc)
  rw [hrow.1] at d1
  exact ⟨g, cap, gi, ci, by rw [lR], d1, d2⟩
theorem one_row {vs : List Value} {L : List (List Int)} (t : OwnM B w v vs L) (hl : L.length = m) (ho : RowsOk p n L) {i : Nat} (hi : i < m) :
    ∃ g cap a c, v = .slice (some ⟨g, 0, none⟩) m cap ∧ vs.getD i nilS = .slice a n c ∧ w.cell? ⟨g, i, none⟩ = some (.slice a n c) := by
  obtain ⟨g, cap, rfl, _⟩ := t.head (by intro h; rw [h] at hl; simp at hl; omega)
  have hrow := ho _ (getD_mem (show i < L.length by omega))
  obtain ⟨a, c, he⟩ := row_slice t i
  rw [hrow.1] at he
  have hc := t.cell rfl (j := i) (by omega)
  rw [he] at hc
  exact ⟨g, cap, a, c, by rw [hl], he, hc⟩
theorem MidS.scaleR (h : MidS B v u vs0 us0 w0 R T w) (hf : Fit p m n n' R T) {r : Nat} (hr : r < m) (y : Int) (hn : n ≤ 1000) (hp : 2 ≤ p) (hp2 : p ≤ 1000) (hy0 : 0 ≤ y) (hy1 : y ≤ 1000) :
    ∃ g cap a c, v = .slice (some ⟨g, 0, none⟩) m cap ∧ w.cell? ⟨g, r, none⟩ = some (.slice a n c) ∧
      Calls Tryd.prog 257 #[.int .i64 p, .slice a n c, .int .i64 y] w fun e w' => e = .returned (.tuple #[]) ∧ MidS B v u vs0 us0 w0 (divL p R r y) T w' ∧ w'.cell? ⟨g, r, none⟩ = some (.slice a n c) := by
  obtain ⟨vs, us, t, s1, s2⟩ := h.ex
  have lR := hf.lR
  obtain ⟨g, cap, a, c, hv, hva, hc⟩ := one_row t.mR lR hf.oR hr
  refine ⟨g, cap, a, c, hv, hc, ?_⟩
  have hrow := hf.oR _ (getD_mem (show r < R.length by omega))
  have hown := t.mR.row r
  rw [hva] at hown
  refine (mxScale_any p y _ _ B w hown (by rw [hrow.1]; omega) hp hp2 hy0 hy1 (fun z hz => by have := hrow.2 z hz; omega)).mono ?_
  rintro e w' ⟨rfl, h1, h2⟩
  rw [← hva] at h1 h2
  obtain ⟨t', o⟩ := t.setR (by omega) h2 h1
  refine ⟨rfl, h.next t s1 s2 t' (fun x h => h) (fun x h => h) o, ?_⟩
  subst hv
  have := t'.mR.cell (by rw [List.length_set, lR]) (j := r) (by rw [List.length_set]; omega)
  rwa [hva] at this
theorem MidS.scaleT (h : MidS B v u vs0 us0 w0 R T w) (hf : Fit p m n n' R T) {r : Nat} (hr : r < m) (y : Int) (hn : n' ≤ 1000) (hp : 2 ≤ p) (hp2 : p ≤ 1000) (hy0 : 0 ≤ y) (hy1 : y ≤ 1000) :
    ∃ g cap a c, u = .slice (some ⟨g, 0, none⟩) m cap ∧ w.cell? ⟨g, r, none⟩ = some (.slice a n' c) ∧
      Calls Tryd.prog 257 #[.int .i64 p, .slice a n' c, .int .i64 y] w fun e w' => e = .returned (.tuple #[]) ∧ MidS B v u vs0 us0 w0 R (divL p T r y) w' ∧ w'.cell? ⟨g, r, none⟩ = some (.slice a n' c) := by
  obtain ⟨vs, us, t, s1, s2⟩ := h.ex
  have lT := hf.lT
  obtain ⟨g, cap, a, c, hv, hva, hc⟩ := one_row t.mT lT hf.oT hr
  refine ⟨g, cap, a, c, hv, hc, ?_⟩
  have hrow := hf.oT _ (getD_mem (show r < T.length by omega))
  have hown := t.mT.row r
  rw [hva] at hown
  refine (mxScale_any p y _ _ B w hown (by rw [hrow.1]; omega) hp hp2 hy0 hy1 (fun z hz => by have := hrow.2 z hz; omega)).mono ?_
  rintro e w' ⟨rfl, h1, h2⟩
  rw [← hva] at h1 h2
  obtain ⟨t', o⟩ := t.setT (by omega) h2 h1
  refine ⟨rfl, h.next t s1 s2 t' (fun x h => h) (fun x h => h) o, ?_⟩
  subst hv
  have := t'.mT.cell (by rw [List.length_set, lT]) (j := r) (by rw [List.length_set]; omega)
  rwa [hva] at this
theorem rows_apart {vs : List Value} {L : List (List Int)} (t : OwnM B w v vs L) {i r : Nat} (hne : i ≠ r) : ∀ q, Hits (vs.getD i nilS) q → Value.blk' (vs.getD r nilS) ≠ some q := by
  intro q h1 h2
  rw [(t.row r).blk] at h2
  exact t.ap i r hne q h1 h2
theorem MidS.lessR (h : MidS B v u vs0 us0 w0 R T w) (hf : Fit p m n n' R T) {i r : Nat} (hi : i < m) (hr : r < m) (hne : i ≠ r) (k : Int) (hn : n ≤ 1000) (hp : 2 ≤ p) (hp2 : p ≤ 1000) (hk0 : 0 ≤ k) (hk1 : k ≤ 1000) :
    ∃ g cap a c a2 c2, v = .slice (some ⟨g, 0, none⟩) m cap ∧ w.cell? ⟨g, i, none⟩ = some (.slice a n c) ∧ w.cell? ⟨g, r, none⟩ = some (.slice a2 n c2) ∧
      Calls Tryd.prog 258 #[.int .i64 p, .slice a n c, .slice a2 n c2, .int .i64 k] w fun e w' => e = .returned (.tuple #[]) ∧ MidS B v u vs0 us0 w0 (subL p R i r k) T w' := by
  obtain ⟨vs, us, t, s1, s2⟩ := h.ex
  have lR := hf.lR
  obtain ⟨g, cap, a, c, hv, hva, hc⟩ := one_row t.mR lR hf.oR hi
  obtain ⟨g2, cap2, a2, c2, hv2, hva2, hc2⟩ := one_row t.mR lR hf.oR hr
  rw [hv] at hv2
  simp only [Value.slice.injEq, Option.some.injEq, Addr.mk.injEq, and_true, true_and] at hv2
  obtain ⟨rfl, rfl⟩ := hv2
  refine ⟨g, cap, a, c, a2, c2, hv, hc, hc2, ?_⟩
  have hrow := hf.oR _ (getD_mem (show i < R.length by omega))
  have hrow2 := hf.oR _ (getD_mem (show r < R.length by omega))
  have hown := t.mR.row i
  have hown2 := (t.mR.row r).read
  have hap := rows_apart t.mR hne
  rw [hva] at hown hap
  rw [hva2] at hown2 hap
  refine (mxLess_any p k _ _ _ _ B w hown hown2 (fun _ => hap) (by rw [hrow.1, hrow2.1]) (by rw [hrow.1]; omega) hp hp2 hk0 hk1 (fun z hz => by have := hrow.2 z hz; omega) (fun z hz => by have := hrow2.2 z hz; omega)).mono ?_
  rintro e w' ⟨rfl, h1, h2⟩
  rw [← hva] at h1 h2
  obtain ⟨t', o⟩ := t.setR (by omega) h2 h1
  exact ⟨rfl, h.next t s1 s2 t' (fun x h => h) (fun x h => h) o⟩
theorem MidS.lessT (h : MidS B v u vs0 us0 w0 R T w) (hf : Fit p m n n' R T) {i r : Nat} (hi : i < m) (hr : r < m) (hne : i ≠ r) (k : Int) (hn : n' ≤ 1000) (hp : 2 ≤ p) (hp2 : p ≤ 1000) (hk0 : 0 ≤ k) (hk1 : k ≤ 1000) :
    ∃ g cap a c a2 c2, u = .slice (some ⟨g, 0, none⟩) m cap ∧ w.cell? ⟨g, i, none⟩ = some (.slice a n' c) ∧ w.cell? ⟨g, r, none⟩ = some (.slice a2 n' c2) ∧
      Calls Tryd.prog 258 #[.int .i64 p, .slice a n' c, .slice a2 n' c2, .int .i64 k] w fun e w' => e = .returned (.tuple #[]) ∧ MidS B v u vs0 us0 w0 R (subL p T i r k) w' := by
  obtain ⟨vs, us, t, s1, s2⟩ := h.ex
  have lT := hf.lT
  obtain ⟨g, cap, a, c, hv, hva, hc⟩ := one_row t.mT lT hf.oT hi
  obtain ⟨g2, cap2, a2, c2, hv2, hva2, hc2⟩ := one_row t.mT lT hf.oT hr
  rw [hv] at hv2
  simp only [Value.slice.injEq, Option.some.injEq, Addr.mk.injEq, and_true, true_and] at hv2
  obtain ⟨rfl, rfl⟩ := hv2
  refine ⟨g, cap, a, c, a2, c2, hv, hc, hc2, ?_⟩
  have hrow := hf.oT _ (getD_mem (show i < T.length by omega))
  have hrow2 := hf.oT _ (getD_mem (show r < T.length by omega))
  have hown := t.mT.row i
  have hown2 := (t.mT.row r).read
  have hap := rows_apart t.mT hne
  rw [hva] at hown hap
  rw [hva2] at hown2 hap
  refine (mxLess_any p k _ _ _ _ B w hown hown2 (fun _ => hap) (by rw [hrow.1, hrow2.1]) (by rw [hrow.1]; omega) hp hp2 hk0 hk1 (fun z hz => by have := hrow.2 z hz; omega) (fun z hz => by have := hrow2.2 z hz; omega)).mono ?_
  rintro e w' ⟨rfl, h1, h2⟩
  rw [← hva] at h1 h2
  obtain ⟨t', o⟩ := t.setT (by omega) h2 h1
  exact ⟨rfl, h.next t s1 s2 t' (fun x h => h) (fun x h => h) o⟩
/-- what the four stores that exchange two rows read and leave -/
theorem MidS.swap (h : MidS B v u vs0 us0 w0 R T w) (hf : Fit p m n n' R T) {r i : Nat} (hr : r < m) (hi : i < m) (hne : r ≠ i) :
    ∃ ga ca gt ct xr xi yr yi, v = .slice (some ⟨ga, 0, none⟩) m ca ∧ u = .slice (some ⟨gt, 0, none⟩) m ct ∧ ga ≠ gt ∧ (∀ (k : Nat) (cs : Array Value), w0.heap[k]? = some (.cells cs 39 (0, 0)) → k ≠ ga ∧ k ≠ gt) ∧
      (∃ a c, xr = .slice a n c) ∧ (∃ a c, xi = .slice a n c) ∧ (∃ a c, yr = .slice a n' c) ∧ (∃ a c, yi = .slice a n' c) ∧
      w.cell? ⟨ga, r, none⟩ = some xr ∧ w.cell? ⟨ga, i, none⟩ = some xi ∧ w.cell? ⟨gt, r, none⟩ = some yr ∧ w.cell? ⟨gt, i, none⟩ = some yi ∧
      w.frozen? ⟨ga, r, none⟩ = false ∧ w.frozen? ⟨ga, i, none⟩ = false ∧ w.frozen? ⟨gt, r, none⟩ = false ∧ w.frozen? ⟨gt, i, none⟩ = false ∧
      MidS B v u vs0 us0 w0 (swapL R r i) (swapL T r i) ((((w.setCell ⟨ga, i, none⟩ xr).setCell ⟨gt, i, none⟩ yr).setCell ⟨ga, r, none⟩ xi).setCell ⟨gt, r, none⟩ yi) := by
  obtain ⟨vs, us, t, s1, s2⟩ := h.ex
  have lR := hf.lR
  have lT := hf.lT
  obtain ⟨ga, ca, a1, c1, hv, e1, d1⟩ := one_row t.mR lR hf.oR hr
  obtain ⟨ga', ca', a2, c2, hv', e2, d2⟩ := one_row t.mR lR hf.oR hi
  obtain ⟨gt, ct, a3, c3, hu, e3, d3⟩ := one_row t.mT lT hf.oT hr
  obtain ⟨gt', ct', a4, c4, hu', e4, d4⟩ := one_row t.mT lT hf.oT hi
  rw [hv] at hv'
  rw [hu] at hu'
  simp only [Value.slice.injEq, Option.some.injEq, Addr.mk.injEq, and_true, true_and] at hv' hu'
  obtain ⟨rfl, rfl⟩ := hv'
  obtain ⟨rfl, rfl⟩ := hu'
  subst hv hu
  obtain ⟨hg, t', b1, b2, o⟩ := t.swap4 lR lT hr hi hne
  rw [e1, e2, e3, e4] at t' o
  rw [e1, e2] at b1
  rw [e3, e4] at b2
  refine ⟨ga, ca, gt, ct, _, _, _, _, rfl, rfl, hg, fun k cs hk => ?_, ⟨a1, c1, rfl⟩, ⟨a2, c2, rfl⟩, ⟨a3, c3, rfl⟩, ⟨a4, c4, rfl⟩, d1, d2, d3, d4, t.mR.free lR.symm r, t.mR.free lR.symm i, t.mT.free lT.symm r, t.mT.free lT.symm i, ?_⟩
  · have hk' := h.keep k cs hk
    exact ⟨fun e => foot_ne hk' t.mR (Or.inl (by rw [e]; rfl)), fun e => foot_ne hk' t.mT (Or.inl (by rw [e]; rfl))⟩
  · refine h.next t s1 s2 t' b1 b2 (o.mono fun k hk => ?_)
    rcases hk with rfl | rfl
    · exact Or.inl (Or.inl rfl)
    · exact Or.inr (Or.inl rfl)
end

end Go.Proofs.YtpeaeminjbjlnaaDoor

/-
  The draws of chapter 1: each returns integers within bounds and writes nothing that was there. Conditions: the code reads as bytes.
-/
namespace Go.Proofs.YtpeaeminjbjlnaaDoor
open Go.RowKit
set_option linter.unusedVariables false

/-- A slice of bytes that can be read. -/
def CodeAt (w : World) (cv : Value) : Prop :=
  ∃ (a : Option Addr) (len cap : Nat), cv = .slice a len cap ∧ len ≤ 140737488351232 ∧
    (∀ k : Nat, k < len → ∃ (d : Addr) (x : Int), a = some d ∧ d.block < w.heap.size ∧ d.spot = none ∧ w.cell? ⟨d.block, d.off + k, none⟩ = some (.int .u8 x) ∧ 0 ≤ x ∧ x ≤ 255)

/-- The same without a bound on the length (but what every length meets). -/
def CodeRaw (w : World) (cv : Value) : Prop :=
  ∃ (a : Option Addr) (len cap : Nat), cv = .slice a len cap ∧ len ≤ 9223372036854775807 ∧
    (∀ k : Nat, k < len → ∃ (d : Addr) (x : Int), a = some d ∧ d.block < w.heap.size ∧ d.spot = none ∧ w.cell? ⟨d.block, d.off + k, none⟩ = some (.int .u8 x) ∧ 0 ≤ x ∧ x ≤ 255)

theorem CodeAt.carry {w w' : World} {cv : Value} (h : CodeAt w cv) (hg : w.grownBy w' none) : CodeAt w' cv := by
  obtain ⟨a, len, cap, rfl, hl, hx⟩ := h
  refine ⟨a, len, cap, rfl, hl, fun k hk => ?_⟩
  obtain ⟨d, x, ha, hs', hsp, hc, x0, x1⟩ := hx k hk
  exact ⟨d, x, ha, Nat.lt_of_lt_of_le hs' hg.size, hsp, (World.cell?_of_block (w := w) (a := ⟨d.block, d.off + k, none⟩) (hg.block _ hs' (by simp))).trans hc, x0, x1⟩

theorem cur_new {w : World} {cv : Value} (h : CodeAt w cv) : Cur (w.alloc (.cells #[cv, .int .i64 0, .int .u64 0] 140)) w.heap.size 0 := by
  obtain ⟨a, len, cap, rfl, hl, hx⟩ := h
  refine ⟨a, len, cap, 0, 0, alloc_heap_new _ _, by omega, by omega, hl, fun k hk => ?_⟩
  obtain ⟨d, x, ha, hs', hsp, hc, x0, x1⟩ := hx k hk
  exact ⟨d, x, ha, by omega, by simp; omega, hsp, (World.cell?_of_block (w := w) (a := ⟨d.block, d.off + k, none⟩) (alloc_heap_old _ _ _ hs')).trans hc, x0, x1⟩

/-- A block of the call's own is no old block. -/
theorem grownBy_own {w w' : World} {o : Obj} (h : (w.alloc o).grownBy w' (some w.heap.size)) : w.grownBy w' none :=
  ⟨h.os, h.tape, h.output, by have := h.size; simp at this; omega, fun k hk _ => (h.block k (by simp; omega) (by simp; omega)).trans (alloc_heap_old _ _ _ hk)⟩

theorem anyP_bd {p : Int} (h : anyP p) : -1 ≤ p ∧ p ≤ 101 := by simp [anyP] at h; omega

end Go.Proofs.YtpeaeminjbjlnaaDoor

/-
  The cursor of the draws once more: its bytes lie in blocks below N, so that what is written above N leaves it alone. Conditions: fewer than 2^40 bytes have been taken.
-/
namespace Go.Proofs.YtpeaeminjbjlnaaDoor.Bd
open Go.RowKit
set_option linter.unusedVariables false
variable {N : Nat}

structure Cur (N : Nat) (w : World) (b : Nat) (n : Int) : Prop where
  nb : N ≤ w.heap.size
  ex : ∃ (a : Option Addr) (len cap : Nat) (at' seed : Int),
    w.heap[b]? = some (.cells #[.slice a len cap, .int .i64 at', .int .u64 seed] 140 (0, 0)) ∧ 0 ≤ at' ∧ at' ≤ n ∧ len ≤ 140737488351232 ∧
    (∀ k : Nat, k < len → ∃ (d : Addr) (x : Int), a = some d ∧ d.block ≠ b ∧ d.block < N ∧ d.spot = none ∧ w.cell? ⟨d.block, d.off + k, none⟩ = some (.int .u8 x) ∧ 0 ≤ x ∧ x ≤ 255)

def Drawn (N : Nat) (R : Int → Prop) (b : Nat) (n : Int) (w : World) (e : Ending) (w' : World) : Prop :=
  ∃ v : Int, e = .returned (.int .i64 v) ∧ R v ∧ Cur N w' b n ∧ w.grownBy w' (some b)

theorem next_close {b : Nat} {n : Int} {w : World} {a : Option Addr} {len cap : Nat} {at' seed : Int}
    (hb : w.heap[b]? = some (.cells #[.slice a len cap, .int .i64 at', .int .u64 seed] 140 (0, 0)))
    (hx : ∀ k : Nat, k < len → ∃ (d : Addr) (x : Int), a = some d ∧ d.block ≠ b ∧ d.block < N ∧ d.spot = none ∧ w.cell? ⟨d.block, d.off + k, none⟩ = some (.int .u8 x) ∧ 0 ≤ x ∧ x ≤ 255)
    (hnb : N ≤ w.heap.size) (hn : at' ≤ n) (hl : len ≤ 140737488351232) (m q : Nat) {at2 seed2 : Int} {e : Ending}
    (he : ∃ v : Int, e = .returned (.int .i64 v) ∧ 0 ≤ v ∧ v ≤ 255) (h0 : 0 ≤ at2) (h1 : at2 ≤ n + 1) :
    Drawn N (fun v => 0 ≤ v ∧ v ≤ 255) b (n + 1) w e ((((w.drewN m).setCell ⟨b, 1, none⟩ (.int .i64 at2)).setCell ⟨b, 2, none⟩ (.int .u64 seed2)).drewN q) := by
  obtain ⟨v, rfl, v0, v1⟩ := he
  have hh : ∀ k : Nat, k ≠ b → ((((w.drewN m).setCell ⟨b, 1, none⟩ (.int .i64 at2)).setCell ⟨b, 2, none⟩ (.int .u64 seed2)).drewN q).heap[k]? = w.heap[k]? := by
    intro k hk
    show (((w.drewN m).setCell ⟨b, 1, none⟩ (.int .i64 at2)).setCell ⟨b, 2, none⟩ (.int .u64 seed2)).heap[k]? = _
    rw [Below.heap_setCell _ _ _ _ hk, Below.heap_setCell _ _ _ _ hk]; rfl
  refine ⟨v, rfl, ⟨v0, v1⟩, ⟨by simpa [World.setCell, World.drewN] using hnb, a, len, cap, at2, seed2, ?_, h0, h1, hl, ?_⟩, ⟨rfl, rfl, rfl, by simp [World.setCell, World.drewN], fun k _ hk => hh k (by simpa using hk)⟩⟩
  · have : (w.drewN m).heap[b]? = w.heap[b]? := rfl
    show (((w.drewN m).setCell ⟨b, 1, none⟩ (.int .i64 at2)).setCell ⟨b, 2, none⟩ (.int .u64 seed2)).heap[b]? = _
    simp only [World.setCell]
    rw [Array.getElem?_modify, if_pos rfl, Array.getElem?_modify, if_pos rfl, this, hb]
    rfl
  · intro k hk
    obtain ⟨d, x, ha, hd, hs, hsp, hc, x0, x1⟩ := hx k hk
    refine ⟨d, x, ha, hd, hs, hsp, ?_, x0, x1⟩
    exact (World.cell?_of_block (w := w) (a := ⟨d.block, d.off + k, none⟩) (hh _ hd)).trans hc

theorem next_any (b : Nat) (n : Int) (w : World) (hc : Cur N w b n) (hn : n + 1 ≤ 1000000000000) : Calls Tryd.prog 261 #[.pointer (some ⟨b, 0, none⟩)] w (Drawn N (fun v => 0 ≤ v ∧ v ≤ 255) b (n + 1) w) := by
  obtain ⟨hnb, a, len, cap, at', seed, hb, ha0, han, hl, hx⟩ := hc
  have c0 : w.cell? ⟨b, 0, none⟩ = some (.slice a len cap) := by simp [World.cell?, hb]
  have c1 : w.cell? ⟨b, 1, none⟩ = some (.int .i64 at') := by simp [World.cell?, hb]
  have c2 : w.cell? ⟨b, 2, none⟩ = some (.int .u64 seed) := by simp [World.cell?, hb]
  have f1 : w.frozen? ⟨b, 1, none⟩ = false := by simp [World.frozen?, hb]
  have f2 : w.frozen? ⟨b, 2, none⟩ = false := by simp [World.frozen?, hb]
  have HB := Lib.hid hb
  have HX := Lib.hid hx
  clear hb hx
  by_cases hlt : at' < len
  · obtain ⟨k, rfl⟩ := Int.eq_ofNat_of_zero_le ha0
    obtain ⟨d, x, rfl, hdb, hdw, hds, hcx, hx0, hx1⟩ := HX.out k (by omega)
    obtain ⟨db, doff, _⟩ := d
    simp only at hds
    subst hds
    go_enter Tryd.func261, Tryd.ntmps261
    go_wp2
    go_quiet (fail)
    go_wp2
    go_quiet (fail)
    go_wp2
    go_quiet (fail)
    go_wp2
    go_ret
    exact next_close HB.out HX.out hnb han hl _ _ ⟨_, rfl, hx0, hx1⟩ (by omega) (by omega)
  · have hle : len ≤ at' := by omega
    have hd : decide (at' < len) = false := by simpa using hle
    have hx := HX.out
    have HX2 := Lib.hid hx
    clear HX hx hlt
    go_enter Tryd.func261, Tryd.ntmps261
    go_wp2
    go_quiet (fail)
    go_wp2
    go_quiet (fail)
    go_wp2
    go_ret
    exact next_close HB.out HX2.out hnb han hl _ _ ⟨_, rfl, seed_byte _⟩ (by omega) (by omega)

theorem Cur.mono {w : World} {b : Nat} {n m : Int} (h : Cur N w b n) (hm : n ≤ m) : Cur N w b m := by
  obtain ⟨a, len, cap, at', seed, hb, h0, h1, hl, hx⟩ := h.ex
  exact ⟨h.nb, a, len, cap, at', seed, hb, h0, by omega, hl, hx⟩
theorem Drawn.mono {R R' : Int → Prop} {b : Nat} {n m : Int} {w w' : World} {e : Ending} (h : Drawn N R b n w e w') (hm : n ≤ m) (hr : ∀ v, R v → R' v) : Drawn N R' b m w e w' := by
  obtain ⟨v, he, hv, hc, hg⟩ := h
  exact ⟨v, he, hr v hv, hc.mono hm, hg⟩

theorem pick_any (m : Int) (b : Nat) (n : Int) (w : World) (hc : Cur N w b n) (hm : m ≤ 1000000) (hn : n + 2 ≤ 1000000000000) : Calls Tryd.prog 131 #[.pointer (some ⟨b, 0, none⟩), .int .i64 m] w (Drawn N (fun v => 0 ≤ v ∧ (v = 0 ∨ v < m)) b (n + 2) w) := by
  have HC := Lib.hid hc
  clear hc
  by_cases h1 : m ≤ 1
  · go_enter Tryd.func131, Tryd.ntmps131
    go_wp2
    go_ret
    exact ⟨0, rfl, ⟨by omega, Or.inl rfl⟩, HC.out.mono (by omega), grownBy_refl _ _⟩
  · by_cases h2 : 200 < m
    · go_enter Tryd.func131, Tryd.ntmps131
      go_wp2_with fail
      refine (next_any _ _ _ HC.out (by omega)).mono ?_
      rintro e w1 ⟨v, rfl, ⟨v0, v1⟩, c1, g1⟩
      have C1 := Lib.hid c1; have G1 := Lib.hid g1; clear c1 g1
      go_wp2_with fail
      refine (next_any _ _ _ C1.out (by omega)).mono ?_
      rintro e w2 ⟨v', rfl, ⟨v2, v3⟩, c2, g2⟩
      have C2 := Lib.hid c2; have G2 := Lib.hid g2; clear c2 g2
      have e0 := Int.emod_nonneg (v * 256 + v') (show m ≠ 0 by omega)
      have e1 := Int.emod_lt_of_pos (v * 256 + v') (show 0 < m by omega)
      go_wp2
      go_ret
      exact ⟨_, rfl, ⟨e0, Or.inr e1⟩, C2.out.mono (by omega), grownBy_trans G1.out G2.out⟩
    · go_enter Tryd.func131, Tryd.ntmps131
      go_wp2_with fail
      refine (next_any _ _ _ HC.out (by omega)).mono ?_
      rintro e w1 ⟨v, rfl, ⟨v0, v1⟩, c1, g1⟩
      have C1 := Lib.hid c1; have G1 := Lib.hid g1; clear c1 g1
      have e0 := Int.emod_nonneg v (show m ≠ 0 by omega)
      have e1 := Int.emod_lt_of_pos v (show 0 < m by omega)
      go_wp2
      go_ret
      exact ⟨_, rfl, ⟨e0, Or.inr e1⟩, C1.out.mono (by omega), G1.out⟩

theorem one_any (m : Int) (b : Nat) (n : Int) (w : World) (hc : Cur N w b n) (hm : m ≤ 1000000) (hn : n + 2 ≤ 1000000000000) : Calls Tryd.prog 153 #[.pointer (some ⟨b, 0, none⟩), .int .i64 m] w
    fun e w' => ∃ v : Bool, e = .returned (.bool v) ∧ Cur N w' b (n + 2) ∧ w.grownBy w' (some b) := by
  have HC := Lib.hid hc
  clear hc
  go_enter Tryd.func153, Tryd.ntmps153
  go_wp2_with fail
  refine (pick_any _ _ _ _ HC.out (by omega) (by omega)).mono ?_
  rintro e w1 ⟨v, rfl, hv, c1, g1⟩
  have C1 := Lib.hid c1; have G1 := Lib.hid g1; clear c1 g1 hv
  go_wp2
  go_ret
  exact ⟨_, rfl, C1.out, G1.out⟩

theorem among_any (a : Addr) (cap : Nat) (zs : List Int) (b : Nat) (n : Int) (w : World) (hc : Cur N w b n) (hz : IntsAt w a zs) (h0 : 0 < zs.length) (hm : zs.length ≤ 1000000) (hs : a.spot = none) (hab : a.block ≠ b) (haw : a.block < w.heap.size) (hn : n + 2 ≤ 1000000000000) :
    Calls Tryd.prog 130 #[.pointer (some ⟨b, 0, none⟩), .slice (some a) zs.length cap] w (Drawn N (fun v => v ∈ zs) b (n + 2) w) := by
  have HC := Lib.hid hc
  have HZ := Lib.hid hz
  obtain ⟨ab, ao, _⟩ := a
  simp only at hs hab haw
  subst hs
  clear hc hz
  generalize hl : zs.length = l at *
  have HL := Lib.hid hl
  clear hl
  go_enter Tryd.func130, Tryd.ntmps130
  go_wp2_with fail
  refine (pick_any _ _ _ _ HC.out (by omega) (by omega)).mono ?_
  rintro e w1 ⟨v, rfl, ⟨v0, v1⟩, c1, g1⟩
  have hv : v < l := by omega
  obtain ⟨k, rfl⟩ := Int.eq_ofNat_of_zero_le v0
  have hkl : k < zs.length := by rw [HL.out]; omega
  have hcell : w1.cell? ⟨ab, ao + k, none⟩ = some (.int .i64 zs[k]) := (World.cell?_of_block (w := w) (a := ⟨ab, ao + k, none⟩) (g1.block ab haw (by simpa using hab))).trans (HZ.out k hkl)
  have C1 := Lib.hid c1; have G1 := Lib.hid g1; clear c1 g1 v1
  generalize hzk : zs[k] = z at *
  have HK := Lib.hid hzk
  clear hzk
  go_wp2
  go_ret
  exact ⟨z, rfl, by rw [← HK.out]; exact List.getElem_mem _, C1.out, G1.out⟩

theorem elem_any (p : Int) (b : Nat) (n : Int) (w : World) (hc : Cur N w b n) (hm : p ≤ 1000000) (hn : n + 2 ≤ 1000000000000) : Calls Tryd.prog 274 #[.pointer (some ⟨b, 0, none⟩), .int .i64 p] w (Drawn N (fun v => 0 ≤ v ∧ (v = 0 ∨ v < p)) b (n + 2) w) := by
  have HC := Lib.hid hc
  clear hc
  go_enter Tryd.func274, Tryd.ntmps274
  go_wp2_with (go_at_call 189; refine (l1Most_any _ _ _).mono ?_; rintro e w' ⟨rfl, rfl⟩)
  refine (pick_any _ _ _ _ HC.out (by omega) (by omega)).mono ?_
  rintro e w1 ⟨v, rfl, ⟨v0, v1⟩, c1, g1⟩
  have hv : v = 0 ∨ v < p := by omega
  have C1 := Lib.hid c1; have G1 := Lib.hid g1; have HV := Lib.hid hv; clear c1 g1 v1 hv
  go_wp2
  go_ret
  exact ⟨_, rfl, ⟨v0, HV.out⟩, C1.out, G1.out⟩

theorem Cur.lt {w : World} {b : Nat} {n : Int} (h : Cur N w b n) : b < w.heap.size := by
  obtain ⟨a, len, cap, at', seed, hb, h0, h1, hl, hx⟩ := h.ex
  rcases Nat.lt_or_ge b w.heap.size with h | h
  · exact h
  · rw [Array.getElem?_eq_none h] at hb; cases hb
theorem Cur.carry {w w' : World} {b : Nat} {n : Int} (h : Cur N w b n) (hw : ∀ k, k < w.heap.size → w'.heap[k]? = w.heap[k]?) (hs : w.heap.size ≤ w'.heap.size) : Cur N w' b n := by
  have hbl := h.lt
  obtain ⟨a, len, cap, at', seed, hb, h0, h1, hl, hx⟩ := h.ex
  have hnb := h.nb
  refine ⟨by omega, a, len, cap, at', seed, (hw b hbl).trans hb, h0, h1, hl, fun k hk => ?_⟩
  obtain ⟨d, x, ha, hd, hs', hsp, hc, x0, x1⟩ := hx k hk
  exact ⟨d, x, ha, hd, hs', hsp, (World.cell?_of_block (w := w) (a := ⟨d.block, d.off + k, none⟩) (hw d.block (by omega))).trans hc, x0, x1⟩
/-- What is written above N, but not in the cursor's block, leaves the cursor alone. -/
theorem Cur.only {S : Nat → Prop} {w w' : World} {b : Nat} {n : Int} (h : Cur N w b n) (ho : Only S w w') (hb : ¬ S b) (hS : ∀ k, S k → N ≤ k) : Cur N w' b n := by
  have hbl := h.lt
  obtain ⟨hnb, a, len, cap, at', seed, hh, h0, h1, hl, hx⟩ := h
  have hs := ho.size
  refine ⟨by omega, a, len, cap, at', seed, (ho.block b hbl hb).trans hh, h0, h1, hl, fun k hk => ?_⟩
  obtain ⟨d, x, ha, hd, hs', hsp, hc, x0, x1⟩ := hx k hk
  exact ⟨d, x, ha, hd, hs', hsp, (World.cell?_of_block (w := w) (a := ⟨d.block, d.off + k, none⟩) (ho.block d.block (by omega) (fun h' => by have := hS _ h'; omega))).trans hc, x0, x1⟩
theorem Cur.start {w : World} {cv : Value} (h : CodeAt w cv) : Cur w.heap.size (w.alloc (.cells #[cv, .int .i64 0, .int .u64 0] 140)) w.heap.size 0 := by
  obtain ⟨a, len, cap, rfl, hl, hx⟩ := h
  refine ⟨by simp, a, len, cap, 0, 0, alloc_heap_new _ _, by omega, by omega, hl, fun k hk => ?_⟩
  obtain ⟨d, x, ha, hs', hsp, hc, x0, x1⟩ := hx k hk
  exact ⟨d, x, ha, by omega, hs', hsp, (World.cell?_of_block (w := w) (a := ⟨d.block, d.off + k, none⟩) (alloc_heap_old _ _ _ hs')).trans hc, x0, x1⟩
theorem Cur.alloc {w : World} {b : Nat} {n : Int} (h : Cur N w b n) (o : Obj) : Cur N (w.alloc o) b n :=
  h.carry (fun k hk => alloc_heap_old w o k hk) (by simp)
theorem among_new (zs : List Int) (t : TypeId) (b : Nat) (n : Int) (w : World) (hc : Cur N w b n) (h0 : 0 < zs.length) (hm : zs.length ≤ 1000000) (hn : n + 2 ≤ 1000000000000) :
    Calls Tryd.prog 130 #[.pointer (some ⟨b, 0, none⟩), .slice (some ⟨w.heap.size, 0, none⟩) zs.length zs.length] (w.alloc (.cells (zs.map (Value.int .i64)).toArray t)) (Drawn N (fun v => v ∈ zs) b (n + 2) w) := by
  refine (among_any ⟨w.heap.size, 0, none⟩ zs.length zs b n _ (hc.alloc _) (intsAt_new w zs t) h0 hm rfl (by have := hc.lt; simp; omega) (by simp) hn).mono ?_
  rintro e w' ⟨v, rfl, hv, hc', hg⟩
  exact ⟨v, rfl, hv, hc', grownBy_trans (grownBy_alloc _ _ _) hg⟩

theorem prime_any (b : Nat) (n : Int) (w : World) (hc : Cur N w b n) (hn : n + 2 ≤ 1000000000000) : Calls Tryd.prog 151 #[.pointer (some ⟨b, 0, none⟩)] w (Drawn N (fun v => v ∈ [(2 : Int), 3, 5, 7, 2, 3, 5, 11, 13, 97]) b (n + 2) w) := by
  have HC := Lib.hid hc
  clear hc
  go_enter Tryd.func151, Tryd.ntmps151
  go_wp2_with fail
  refine (among_new [(2 : Int), 3, 5, 7, 2, 3, 5, 11, 13, 97] _ _ _ _ HC.out (by decide) (by decide) hn).mono ?_
  rintro e w1 ⟨v, rfl, hv, c1, g1⟩
  have C1 := Lib.hid c1; have G1 := Lib.hid g1; have HV := Lib.hid hv; clear c1 g1 hv
  go_wp2
  go_ret
  exact ⟨_, rfl, HV.out, C1.out, G1.out⟩

theorem anyPrime_any (b : Nat) (n : Int) (w : World) (hc : Cur N w b n) (hn : n + 4 ≤ 1000000000000) : Calls Tryd.prog 128 #[.pointer (some ⟨b, 0, none⟩)] w (Drawn N anyP b (n + 4) w) := by
  have HC := Lib.hid hc
  clear hc
  go_enter Tryd.func128, Tryd.ntmps128
  go_wp2_with fail
  refine (one_any _ _ _ _ HC.out (by decide) (by omega)).mono ?_
  rintro e w1 ⟨v, rfl, c1, g1⟩
  have C1 := Lib.hid c1; have G1 := Lib.hid g1; clear c1 g1
  cases v
  · go_wp2_with fail
    refine (prime_any _ _ _ C1.out (by omega)).mono ?_
    rintro e w2 ⟨v, rfl, hv, c2, g2⟩
    have C2 := Lib.hid c2; have G2 := Lib.hid g2; have HV := Lib.hid hv; clear c2 g2 hv
    go_wp2
    go_ret
    exact ⟨_, rfl, by have h := HV.out; simp [anyP] at h ⊢; omega, C2.out.mono (by omega), grownBy_trans G1.out G2.out⟩
  · go_wp2_with fail
    refine (among_new [(-1 : Int), 0, 1, 4, 9, 91, 98, 101] _ _ _ _ C1.out (by decide) (by decide) (by omega)).mono ?_
    rintro e w2 ⟨v, rfl, hv, c2, g2⟩
    have C2 := Lib.hid c2; have G2 := Lib.hid g2; have HV := Lib.hid hv; clear c2 g2 hv
    go_wp2
    go_ret
    exact ⟨_, rfl, by have h := HV.out; simp [anyP] at h ⊢; omega, C2.out.mono (by omega), grownBy_trans G1.out G2.out⟩

theorem anyElem_any (p : Int) (b : Nat) (n : Int) (w : World) (hc : Cur N w b n) (hp : -1000 ≤ p) (hp' : p ≤ 1000) (hn : n + 4 ≤ 1000000000000) : Calls Tryd.prog 203 #[.pointer (some ⟨b, 0, none⟩), .int .i64 p] w (Drawn N (fun v => -1 ≤ v ∧ v ≤ 1001 ∨ v = p ∨ v = p + 1) b (n + 4) w) := by
  have HC := Lib.hid hc
  clear hc
  go_enter Tryd.func203, Tryd.ntmps203
  go_wp2_with fail
  refine (one_any _ _ _ _ HC.out (by decide) (by omega)).mono ?_
  rintro e w1 ⟨v, rfl, c1, g1⟩
  have C1 := Lib.hid c1; have G1 := Lib.hid g1; clear c1 g1
  cases v
  · go_wp2_with fail
    refine (elem_any _ _ _ _ C1.out (by omega) (by omega)).mono ?_
    rintro e w2 ⟨v, rfl, hv, c2, g2⟩
    have C2 := Lib.hid c2; have G2 := Lib.hid g2; have HV := Lib.hid hv; clear c2 g2 hv
    go_wp2
    go_ret
    exact ⟨_, rfl, by have h := HV.out; omega, C2.out.mono (by omega), grownBy_trans G1.out G2.out⟩
  · go_wp2_with fail
    refine (among_new [(-1 : Int), p, p + 1] _ _ _ _ C1.out (by simp) (by simp) (by omega)).mono ?_
    rintro e w2 ⟨v, rfl, hv, c2, g2⟩
    have C2 := Lib.hid c2; have G2 := Lib.hid g2; have HV := Lib.hid hv; clear c2 g2 hv
    go_wp2
    go_ret
    exact ⟨_, rfl, by have h := HV.out; simp at h; omega, C2.out.mono (by omega), grownBy_trans G1.out G2.out⟩


end Go.Proofs.YtpeaeminjbjlnaaDoor.Bd

/-
  Drawn matrices: their state while they are made. Conditions: small sizes.
-/
namespace Go.Proofs.YtpeaeminjbjlnaaDoor
open Go.RowKit
set_option linter.unusedVariables false

theorem mxSide_any {N : Nat} (b : Nat) (n : Int) (w : World) (hc : Bd.Cur N w b n) (hn : n + 2 ≤ 1000000000000) :
    Calls Tryd.prog 179 #[.pointer (some ⟨b, 0, none⟩)] w (Bd.Drawn N (fun v => 0 ≤ v ∧ v ≤ 24) b (n + 2) w) := by
  have HC := Lib.hid hc
  clear hc
  go_enter Tryd.func179, Tryd.ntmps179
  go_wp2_with fail
  refine (Bd.among_new [(0 : Int), 1, 1, 2, 2, 2, 3, 3, 3, 4, 4, 5, 6, 8, 24] _ _ _ _ HC.out (by decide) (by decide) hn).mono ?_
  rintro e w1 ⟨v, rfl, hv, c1, g1⟩
  have C1 := Lib.hid c1; have G1 := Lib.hid g1; have HV := Lib.hid hv; clear c1 g1 hv
  go_wp2
  go_ret
  exact ⟨_, rfl, by have h := HV.out; simp at h; omega, C1.out, G1.out⟩

theorem l1Least_any (x y : Int) (w : World) : Calls Tryd.prog 190 #[.int .i64 x, .int .i64 y] w fun e w' => e = .returned (.int .i64 (min x y)) ∧ w = w' := by
  by_cases h : x < y
  · have HM := Lib.hid (show min x y = x by omega)
    go_enter Tryd.func190, Tryd.ntmps190
    go_wp2
    go_ret
    exact ⟨by rw [HM.out]; rfl, rfl⟩
  · have HM := Lib.hid (show min x y = y by omega)
    go_enter Tryd.func190, Tryd.ntmps190
    go_wp2
    go_ret
    exact ⟨by rw [HM.out]; rfl, rfl⟩

/-- a matrix in the making: its rows the call's own above B, its variable in block q, the result in block r, the cursor in block b -/
structure DM (N b q r B : Nat) (p : Int) (rows cols : Nat) (v : Value) (vs : List Value) (w0 : World) (n : Int) (L : List (List Int)) (w : World) : Prop where
  own : OwnM B w v vs L
  len : L.length = rows
  ok : RowsOk p cols L
  cur : Bd.Cur N w b n
  box : w.heap[q]? = some (.cells #[.int .i64 cols, v] 39 (0, 0))
  res : w.heap[r]? = some (.cells #[.int .i64 0, .slice none 0 0] 39 (0, 0))
  on : Only (fun k => k = b ∨ B ≤ k) w0 w
  nB : N ≤ B
  bB : b < B
  bq : b ≠ q
  br : b ≠ r
section
variable {N b q r B : Nat} {p : Int} {rows cols : Nat} {v : Value} {vs : List Value} {w0 : World} {n : Int} {L : List (List Int)} {w : World}
theorem DM.draw (h : DM N b q r B p rows cols v vs w0 n L w) {m : Int} {w' : World} (hc : Bd.Cur N w' b m) (hg : w.grownBy w' (some b)) : DM N b q r B p rows cols v vs w0 m L w' := by
  have ho : Only (· = b) w w' := Only.of_grown hg fun k hk => (Option.some.inj hk).symm
  refine ⟨h.own.only ho fun k hk hk' => ?_, h.len, h.ok, hc, (hg.block q (lt_of_blk h.box) (by simpa using Ne.symm h.bq)).trans h.box, (hg.block r (lt_of_blk h.res) (by simpa using Ne.symm h.br)).trans h.res, h.on.trans (ho.mono fun k hk => Or.inl hk), h.nB, h.bB, h.bq, h.br⟩
  have h1 := (h.own.lt hk).1
  have h2 := h.bB
  have h3 : k = b := hk'
  omega
theorem DM.drew (h : DM N b q r B p rows cols v vs w0 n L w) : DM N b q r B p rows cols v vs w0 n L w.drew :=
  h.draw (h.cur.only (Only.drew (fun _ => False) w) (fun h => h) (fun _ h => h.elim)) ⟨rfl, rfl, rfl, Nat.le_refl _, fun _ _ _ => rfl⟩
theorem DM.more (h : DM N b q r B p rows cols v vs w0 n L w) {m : Int} (hm : n ≤ m) : DM N b q r B p rows cols v vs w0 m L w :=
  ⟨h.own, h.len, h.ok, h.cur.mono hm, h.box, h.res, h.on, h.nB, h.bB, h.bq, h.br⟩
/-- an element is written -/
theorem DM.put (h : DM N b q r B p rows cols v vs w0 n L w) {i j : Nat} (hi : i < rows) (hj : j < cols) :
    ∃ g cap gi ci, v = .slice (some ⟨g, 0, none⟩) rows cap ∧ gi ≠ g ∧ gi ≠ q ∧ g ≠ b ∧ gi ≠ b ∧ w.cell? ⟨q, 1, none⟩ = some v ∧ w.cell? ⟨g, i, none⟩ = some (.slice (some ⟨gi, 0, none⟩) cols ci) ∧ w.cell? ⟨gi, j, none⟩ = some (.int .i64 (at2 L i j)) ∧ w.frozen? ⟨gi, j, none⟩ = false ∧
      (0 ≤ at2 L i j ∧ at2 L i j < p) ∧ Hits (vs.getD i nilS) gi ∧
      ∀ x, 0 ≤ x → x < p → DM N b q r B p rows cols v vs w0 n (L.set i ((L.getD i []).set j x)) (w.setCell ⟨gi, j, none⟩ (.int .i64 x)) := by
  have hl := h.len
  obtain ⟨g, cap, hv, hg0, hg1, hhit⟩ := h.own.head (by intro h0; rw [h0] at hl; simp at hl; omega)
  rw [hl] at hv
  subst hv
  have hrow := h.ok _ (getD_mem (show i < L.length by omega))
  obtain ⟨gi, ci, a1, a2, a3, a4, d1, d2, d3, d4⟩ := h.own.elemAt hl.symm (by omega : i < L.length) (j := j) (by rw [hrow.1]; exact hj)
  rw [hrow.1] at d1
  have hB := h.bB
  have hgq : gi ≠ q := fun e => foot_ne h.box h.own (Foot.at (e ▸ a4))
  have hgr : gi ≠ r := fun e => foot_ne h.res h.own (Foot.at (e ▸ a4))
  have hval : 0 ≤ at2 L i j ∧ at2 L i j < p := by
    unfold at2
    rw [getD_lt (by rw [hrow.1]; exact hj)]
    exact hrow.2 _ (List.getElem_mem _)
  refine ⟨g, cap, gi, ci, rfl, a2, hgq, by omega, by omega, cell_blk h.box 1, d1, d2, d3, hval, a4, fun x hx0 hx1 => ?_⟩
  obtain ⟨e1, e2⟩ := d4 x
  refine ⟨e1, by rw [List.length_set]; exact hl, ?_, h.cur.only e2 (by omega) (fun k hk => by have := h.nB; omega), (e2.block q (lt_of_blk h.box) (Ne.symm hgq)).trans h.box, (e2.block r (lt_of_blk h.res) (Ne.symm hgr)).trans h.res, h.on.trans (e2.mono fun k hk => Or.inr (by omega)), h.nB, h.bB, h.bq, h.br⟩
  intro row hrow'
  rcases List.mem_or_eq_of_mem_set hrow' with h1 | h1
  · exact h.ok row h1
  · rw [h1]
    refine ⟨by rw [List.length_set]; exact hrow.1, fun z hz => ?_⟩
    rcases List.mem_or_eq_of_mem_set hz with h2 | h2
    · exact hrow.2 z h2
    · rw [h2]; exact ⟨hx0, hx1⟩
theorem DM.row (h : DM N b q r B p rows cols v vs w0 n L w) {i : Nat} (hi : i < rows) : ∃ g cap a c, v = .slice (some ⟨g, 0, none⟩) rows cap ∧ w.cell? ⟨q, 1, none⟩ = some v ∧ w.cell? ⟨g, i, none⟩ = some (.slice a cols c) := by
  have hl := h.len
  obtain ⟨g, cap, hv, hg0, hg1, hhit⟩ := h.own.head (by intro h0; rw [h0] at hl; simp at hl; omega)
  have hrow := h.ok _ (getD_mem (show i < L.length by omega))
  obtain ⟨a, c, he⟩ := row_slice h.own i
  rw [hrow.1] at he
  rw [hl] at hv
  subst hv
  have hc := h.own.cell hl.symm (j := i) (by omega)
  rw [he] at hc
  exact ⟨g, cap, a, c, rfl, cell_blk h.box 1, hc⟩
end

end Go.Proofs.YtpeaeminjbjlnaaDoor

/-
  The state of the specification's reduction, and what its steps do to it. Conditions: the elements are small.
-/
import Derived.Test.YtpeaeminjbjlnaaDoorSpecM4
namespace Go.Proofs.YtpeaeminjbjlnaaDoor
open Go.RowKit
set_option linter.unusedVariables false

structure MidS (B : Nat) (v u : Value) (vs0 us0 : List Value) (w0 : World) (R T : List (List Int)) (w : World) : Prop where
  ex : ∃ vs us, Two B w v vs u us R T ∧ (∀ x ∈ vs, x ∈ vs0) ∧ (∀ x ∈ us, x ∈ us0)
  on : Only (Feet v vs0 u us0) w0 w
  keep : ∀ (k : Nat) (cs : Array Value), w0.heap[k]? = some (.cells cs 39 (0, 0)) → w.heap[k]? = some (.cells cs 39 (0, 0))
section
variable {B : Nat} {v u : Value} {vs0 us0 : List Value} {w0 : World} {R T : List (List Int)} {w : World}
theorem MidS.next {vs us vs' us' : List Value} {R' T' : List (List Int)} {w' : World} (h : MidS B v u vs0 us0 w0 R T w) (t : Two B w v vs u us R T) (h1 : ∀ x ∈ vs, x ∈ vs0) (h2 : ∀ x ∈ us, x ∈ us0)
    (t' : Two B w' v vs' u us' R' T') (b1 : ∀ x ∈ vs', x ∈ vs) (b2 : ∀ x ∈ us', x ∈ us) (o : Only (Feet v vs u us) w w') : MidS B v u vs0 us0 w0 R' T' w' := by
  refine ⟨⟨vs', us', t', fun x hx => h1 x (b1 x hx), fun x hx => h2 x (b2 x hx)⟩, h.on.trans (o.mono fun k hk => hk.mono h1 h2), fun k cs hk => ?_⟩
  have := h.keep k cs hk
  refine (o.block k (lt_of_blk this) ?_).trans this
  rintro (hh | hh)
  · exact foot_ne this t.mR hh
  · exact foot_ne this t.mT hh
theorem MidS.drew (h : MidS B v u vs0 us0 w0 R T w) : MidS B v u vs0 us0 w0 R T w.drew := by
  obtain ⟨vs, us, t, s1, s2⟩ := h.ex
  exact h.next t s1 s2 ⟨t.mR.only (Only.drew (fun _ => False) w) (fun _ _ h => h), t.mT.only (Only.drew (fun _ => False) w) (fun _ _ h => h), t.ap⟩ (fun x h => h) (fun x h => h) (Only.drew _ _)
theorem Two.setR {vs us : List Value} {w' : World} {r : Nat} {zs : List Int} (t : Two B w v vs u us R T) (hr : r < R.length) (ho : Only (Hits (vs.getD r nilS)) w w') (hz : OwnInts B w' (vs.getD r nilS) zs) :
    Two B w' v vs u us (R.set r zs) T ∧ Only (Feet v vs u us) w w' :=
  ⟨⟨t.mR.setRow hr ho hz, t.mT.only ho fun k hk hk' => t.ap k (Foot.at hk') hk, t.ap⟩, ho.mono fun k hk => Or.inl (Foot.at hk)⟩
theorem Two.setT {vs us : List Value} {w' : World} {r : Nat} {zs : List Int} (t : Two B w v vs u us R T) (hr : r < T.length) (ho : Only (Hits (us.getD r nilS)) w w') (hz : OwnInts B w' (us.getD r nilS) zs) :
    Two B w' v vs u us R (T.set r zs) ∧ Only (Feet v vs u us) w w' :=
  ⟨⟨t.mR.only ho fun k hk hk' => t.ap k hk (Foot.at hk'), t.mT.setRow hr ho hz, t.ap⟩, ho.mono fun k hk => Or.inr (Foot.at hk)⟩

variable {m n n' : Nat} {p : Int}
theorem MidS.elem (h : MidS B v u vs0 us0 w0 R T w) (hf : Fit p m n n' R T) {i c : Nat} (hi : i < m) (hc : c < n) :
    ∃ g cap gi ci, v = .slice (some ⟨g, 0, none⟩) m cap ∧ w.cell? ⟨g, i, none⟩ = some (.slice (some ⟨gi, 0, none⟩) n ci) ∧ w.cell? ⟨gi, c, none⟩ = some (.int .i64 (at2 R i c)) := by
  obtain ⟨vs, us, t, _, _⟩ := h.ex
  have lR := hf.lR
  obtain ⟨g, cap, rfl, _⟩ := t.mR.head (by intro h; rw [h] at lR; simp at lR; omega)
  have hrow := hf.oR _ (getD_mem (show i < R.length by omega))
  obtain ⟨gi, ci, _, _, _, _, d1, d2, _⟩ := t.mR.elemAt rfl (i := i) (j := c) (by omega) (by rw [hrow.1]; exact hc)
  rw [hrow.1] at d1
  exact ⟨g, cap, gi, ci, by rw [lR], d1, d2⟩
theorem one_row {vs : List Value} {L : List (List Int)} (t : OwnM B w v vs L) (hl : L.length = m) (ho : RowsOk p n L) {i : Nat} (hi : i < m) :
    ∃ g cap a c, v = .slice (some ⟨g, 0, none⟩) m cap ∧ vs.getD i nilS = .slice a n c ∧ w.cell? ⟨g, i, none⟩ = some (.slice a n c) := by
  obtain ⟨g, cap, rfl, _⟩ := t.head (by intro h; rw [h] at hl; simp at hl; omega)
  have hrow := ho _ (getD_mem (show i < L.length by omega))
  obtain ⟨a, c, he⟩ := row_slice t i
  rw [hrow.1] at he
  have hc := t.cell rfl (j := i) (by omega)
  rw [he] at hc
  exact ⟨g, cap, a, c, by rw [hl], he, hc⟩
theorem MidS.scaleR (h : MidS B v u vs0 us0 w0 R T w) (hf : Fit p m n n' R T) {r : Nat} (hr : r < m) (y : Int) (hn : n ≤ 1000) (hp : 2 ≤ p) (hp2 : p ≤ 1000) (hy0 : 0 ≤ y) (hy1 : y ≤ 1000) :
    ∃ g cap a c, v = .slice (some ⟨g, 0, none⟩) m cap ∧ w.cell? ⟨g, r, none⟩ = some (.slice a n c) ∧
      Calls Tryd.prog 257 #[.int .i64 p, .slice a n c, .int .i64 y] w fun e w' => e = .returned (.tuple #[]) ∧ MidS B v u vs0 us0 w0 (divL p R r y) T w' ∧ w'.cell? ⟨g, r, none⟩ = some (.slice a n c) := by
  obtain ⟨vs, us, t, s1, s2⟩ := h.ex
  have lR := hf.lR
  obtain ⟨g, cap, a, c, hv, hva, hc⟩ := one_row t.mR lR hf.oR hr
  refine ⟨g, cap, a, c, hv, hc, ?_⟩
  have hrow := hf.oR _ (getD_mem (show r < R.length by omega))
  have hown := t.mR.row r
  rw [hva] at hown
  refine (mxScale_any p y _ _ B w hown (by rw [hrow.1]; omega) hp hp2 hy0 hy1 (fun z hz => by have := hrow.2 z hz; omega)).mono ?_
  rintro e w' ⟨rfl, h1, h2⟩
  rw [← hva] at h1 h2
  obtain ⟨t', o⟩ := t.setR (by omega) h2 h1
  refine ⟨rfl, h.next t s1 s2 t' (fun x h => h) (fun x h => h) o, ?_⟩
  subst hv
  have := t'.mR.cell (by rw [List.length_set, lR]) (j := r) (by rw [List.length_set]; omega)
  rwa [hva] at this
theorem MidS.scaleT (h : MidS B v u vs0 us0 w0 R T w) (hf : Fit p m n n' R T) {r : Nat} (hr : r < m) (y : Int) (hn : n' ≤ 1000) (hp : 2 ≤ p) (hp2 : p ≤ 1000) (hy0 : 0 ≤ y) (hy1 : y ≤ 1000) :
    ∃ g cap a c, u = .slice (some ⟨g, 0, none⟩) m cap ∧ w.cell? ⟨g, r, none⟩ = some (.slice a n' c) ∧
      Calls Tryd.prog 257 #[.int .i64 p, .slice a n' c, .int .i64 y] w fun e w' => e = .returned (.tuple #[]) ∧ MidS B v u vs0 us0 w0 R (divL p T r y) w' ∧ w'.cell? ⟨g, r, none⟩ = some (.slice a n' c) := by
  obtain ⟨vs, us, t, s1, s2⟩ := h.ex
  have lT := hf.lT
  obtain ⟨g, cap, a, c, hv, hva, hc⟩ := one_row t.mT lT hf.oT hr
  refine ⟨g, cap, a, c, hv, hc, ?_⟩
  have hrow := hf.oT _ (getD_mem (show r < T.length by omega))
  have hown := t.mT.row r
  rw [hva] at hown
  refine (mxScale_any p y _ _ B w hown (by rw [hrow.1]; omega) hp hp2 hy0 hy1 (fun z hz => by have := hrow.2 z hz; omega)).mono ?_
  rintro e w' ⟨rfl, h1, h2⟩
  rw [← hva] at h1 h2
  obtain ⟨t', o⟩ := t.setT (by omega) h2 h1
  refine ⟨rfl, h.next t s1 s2 t' (fun x h => h) (fun x h => h) o, ?_⟩
  subst hv
  have := t'.mT.cell (by rw [List.length_set, lT]) (j := r) (by rw [List.length_set]; omega)
  rwa [hva] at this
theorem rows_apart {vs : List Value} {L : List (List Int)} (t : OwnM B w v vs L) {i r : Nat} (hne : i ≠ r) : ∀ q, Hits (vs.getD i nilS) q → Value.blk' (vs.getD r nilS) ≠ some q := by
  intro q h1 h2
  rw [(t.row r).blk] at h2
  exact t.ap i r hne q h1 h2
theorem MidS.lessR (h : MidS B v u vs0 us0 w0 R T w) (hf : Fit p m n n' R T) {i r : Nat} (hi : i < m) (hr : r < m) (hne : i ≠ r) (k : Int) (hn : n ≤ 1000) (hp : 2 ≤ p) (hp2 : p ≤ 1000) (hk0 : 0 ≤ k) (hk1 : k ≤ 1000) :
    ∃ g cap a c a2 c2, v = .slice (some ⟨g, 0, none⟩) m cap ∧ w.cell? ⟨g, i, none⟩ = some (.slice a n c) ∧ w.cell? ⟨g, r, none⟩ = some (.slice a2 n c2) ∧
      Calls Tryd.prog 258 #[.int .i64 p, .slice a n c, .slice a2 n c2, .int .i64 k] w fun e w' => e = .returned (.tuple #[]) ∧ MidS B v u vs0 us0 w0 (subL p R i r k) T w' := by
  obtain ⟨vs, us, t, s1, s2⟩ := h.ex
  have lR := hf.lR
  obtain ⟨g, cap, a, c, hv, hva, hc⟩ := one_row t.mR lR hf.oR hi
  obtain ⟨g2, cap2, a2, c2, hv2, hva2, hc2⟩ := one_row t.mR lR hf.oR hr
  rw [hv] at hv2
  simp only [Value.slice.injEq, Option.some.injEq, Addr.mk.injEq, and_true, true_and] at hv2
  obtain ⟨rfl, rfl⟩ := hv2
  refine ⟨g, cap, a, c, a2, c2, hv, hc, hc2, ?_⟩
  have hrow := hf.oR _ (getD_mem (show i < R.length by omega))
  have hrow2 := hf.oR _ (getD_mem (show r < R.length by omega))
  have hown := t.mR.row i
  have hown2 := (t.mR.row r).read
  have hap := rows_apart t.mR hne
  rw [hva] at hown hap
  rw [hva2] at hown2 hap
  refine (mxLess_any p k _ _ _ _ B w hown hown2 (fun _ => hap) (by rw [hrow.1, hrow2.1]) (by rw [hrow.1]; omega) hp hp2 hk0 hk1 (fun z hz => by have := hrow.2 z hz; omega) (fun z hz => by have := hrow2.2 z hz; omega)).mono ?_
  rintro e w' ⟨rfl, h1, h2⟩
  rw [← hva] at h1 h2
  obtain ⟨t', o⟩ := t.setR (by omega) h2 h1
  exact ⟨rfl, h.next t s1 s2 t' (fun x h => h) (fun x h => h) o⟩
theorem MidS.lessT (h : MidS B v u vs0 us0 w0 R T w) (hf : Fit p m n n' R T) {i r : Nat} (hi : i < m) (hr : r < m) (hne : i ≠ r) (k : Int) (hn : n' ≤ 1000) (hp : 2 ≤ p) (hp2 : p ≤ 1000) (hk0 : 0 ≤ k) (hk1 : k ≤ 1000) :
    ∃ g cap a c a2 c2, u = .slice (some ⟨g, 0, none⟩) m cap ∧ w.cell? ⟨g, i, none⟩ = some (.slice a n' c) ∧ w.cell? ⟨g, r, none⟩ = some (.slice a2 n' c2) ∧
      Calls Tryd.prog 258 #[.int .i64 p, .slice a n' c, .slice a2 n' c2, .int .i64 k] w fun e w' => e = .returned (.tuple #[]) ∧ MidS B v u vs0 us0 w0 R (subL p T i r k) w' := by
  obtain ⟨vs, us, t, s1, s2⟩ := h.ex
  have lT := hf.lT
  obtain ⟨g, cap, a, c, hv, hva, hc⟩ := one_row t.mT lT hf.oT hi
  obtain ⟨g2, cap2, a2, c2, hv2, hva2, hc2⟩ := one_row t.mT lT hf.oT hr
  rw [hv] at hv2
  simp only [Value.slice.injEq, Option.some.injEq, Addr.mk.injEq, and_true, true_and] at hv2
  obtain ⟨rfl, rfl⟩ := hv2
  refine ⟨g, cap, a, c, a2, c2, hv, hc, hc2, ?_⟩
  have hrow := hf.oT _ (getD_mem (show i < T.length by omega))
  have hrow2 := hf.oT _ (getD_mem (show r < T.length by omega))
  have hown := t.mT.row i
  have hown2 := (t.mT.row r).read
  have hap := rows_apart t.mT hne
  rw [hva] at hown hap
  rw [hva2] at hown2 hap
  refine (mxLess_any p k _ _ _ _ B w hown hown2 (fun _ => hap) (by rw [hrow.1, hrow2.1]) (by rw [hrow.1]; omega) hp hp2 hk0 hk1 (fun z hz => by have := hrow.2 z hz; omega) (fun z hz => by have := hrow2.2 z hz; omega)).mono ?_
  rintro e w' ⟨rfl, h1, h2⟩
  rw [← hva] at h1 h2
  obtain ⟨t', o⟩ := t.setT (by omega) h2 h1
  exact ⟨rfl, h.next t s1 s2 t' (fun x h => h) (fun x h => h) o⟩
/-- what the four stores that exchange two rows read and leave -/
theorem MidS.swap (h : MidS B v u vs0 us0 w0 R T w) (hf : Fit p m n n' R T) {r i : Nat} (hr : r < m) (hi : i < m) (hne : r ≠ i) :
    ∃ ga ca gt ct xr xi yr yi, v = .slice (some ⟨ga, 0, none⟩) m ca ∧ u = .slice (some ⟨gt, 0, none⟩) m ct ∧ ga ≠ gt ∧ (∀ (k : Nat) (cs : Array Value), w0.heap[k]? = some (.cells cs 39 (0, 0)) → k ≠ ga ∧ k ≠ gt) ∧
      (∃ a c, xr = .slice a n c) ∧ (∃ a c, xi = .slice a n c) ∧ (∃ a c, yr = .slice a n' c) ∧ (∃ a c, yi = .slice a n' c) ∧
      w.cell? ⟨ga, r, none⟩ = some xr ∧ w.cell? ⟨ga, i, none⟩ = some xi ∧ w.cell? ⟨gt, r, none⟩ = some yr ∧ w.cell? ⟨gt, i, none⟩ = some yi ∧
      w.frozen? ⟨ga, r, none⟩ = false ∧ w.frozen? ⟨ga, i, none⟩ = false ∧ w.frozen? ⟨gt, r, none⟩ = false ∧ w.frozen? ⟨gt, i, none⟩ = false ∧
      MidS B v u vs0 us0 w0 (swapL R r i) (swapL T r i) ((((w.setCell ⟨ga, i, none⟩ xr).setCell ⟨gt, i, none⟩ yr).setCell ⟨ga, r, none⟩ xi).setCell ⟨gt, r, none⟩ yi) := by
  obtain ⟨vs, us, t, s1, s2⟩ := h.ex
  have lR := hf.lR
  have lT := hf.lT
  obtain ⟨ga, ca, a1, c1, hv, e1, d1⟩ := one_row t.mR lR hf.oR hr
  obtain ⟨ga', ca', a2, c2, hv', e2, d2⟩ := one_row t.mR lR hf.oR hi
  obtain ⟨gt, ct, a3, c3, hu, e3, d3⟩ := one_row t.mT lT hf.oT hr
  obtain ⟨gt', ct', a4, c4, hu', e4, d4⟩ := one_row t.mT lT hf.oT hi
  rw [hv] at hv'
  rw [hu] at hu'
  simp only [Value.slice.injEq, Option.some.injEq, Addr.mk.injEq, and_true, true_and] at hv' hu'
  obtain ⟨rfl, rfl⟩ := hv'
  obtain ⟨rfl, rfl⟩ := hu'
  subst hv hu
  obtain ⟨hg, t', b1, b2, o⟩ := t.swap4 lR lT hr hi hne
  rw [e1, e2, e3, e4] at t' o
  rw [e1, e2] at b1
  rw [e3, e4] at b2
  refine ⟨ga, ca, gt, ct, _, _, _, _, rfl, rfl, hg, fun k cs hk => ?_, ⟨a1, c1, rfl⟩, ⟨a2, c2, rfl⟩, ⟨a3, c3, rfl⟩, ⟨a4, c4, rfl⟩, d1, d2, d3, d4, t.mR.free lR.symm r, t.mR.free lR.symm i, t.mT.free lT.symm r, t.mT.free lT.symm i, ?_⟩
  · have hk' := h.keep k cs hk
    exact ⟨fun e => foot_ne hk' t.mR (Or.inl (by rw [e]; rfl)), fun e => foot_ne hk' t.mT (Or.inl (by rw [e]; rfl))⟩
  · refine h.next t s1 s2 t' b1 b2 (o.mono fun k hk => ?_)
    rcases hk with rfl | rfl
    · exact Or.inl (Or.inl rfl)
    · exact Or.inr (Or.inl rfl)
end

end Go.Proofs.YtpeaeminjbjlnaaDoor

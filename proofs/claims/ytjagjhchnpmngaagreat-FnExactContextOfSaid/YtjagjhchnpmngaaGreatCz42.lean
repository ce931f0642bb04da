/-
 A term that came in: its nodes can be read. Conditions: none.
-/
import Derived.Test.YtjagjhchnpmngaaGreatCz05
import Derived.Test.YtjagjhchnpmngaaGreatCz04
import Derived.Test.YtjagjhchnpmngaaGreatCz03
import Derived.Test.YtjagjhchnpmngaaGreatCz02
import Derived.Test.YtjagjhchnpmngaaGreatCz01
import Derived.Test.YtjagjhchnpmngaaGreatCz00
import Derived.Test.YtjagjhchnpmngaaGreatCz06
import Derived.Test.YtjagjhchnpmngaaGreatCz07
import Derived.Test.YtjagjhchnpmngaaGreatCz41
set_option linter.unusedVariables false
set_option linter.unusedSimpArgs false
set_option maxRecDepth 100000
namespace Go.Proofs.YtjagjhchnpmngaaGreat
open Go.ChangeShapes Go.WideShapes Go.ChangeAt Go.RowKit Go.Deep Go.Joins
section
variable {H : Type} {enc : TypeId × Value → H} {W : World} {sp : Nat → Bool} {held : Bool}
theorem trod_threeN {t : TypeId} {f0 f1 f2 : Field} {fuel : Nat} {cs : List Value} {x : DataW H × List MemPlace} (ht : Tryz.prog.underlying t = some (.struct #[f0, f1, f2])) (h : DataW.trod enc Tryz.prog W 0 sp held fuel t cs = some x) :
 cs.length = Tryz.prog.cellsOf t ∧ ∃ y0 y1 y2 n, DataW.trod enc Tryz.prog W 0 sp held n f0.type ((cs.drop f0.offset).take (Tryz.prog.cellsOf f0.type)) = some y0 ∧
  DataW.trod enc Tryz.prog W 0 sp held n f1.type ((cs.drop f1.offset).take (Tryz.prog.cellsOf f1.type)) = some y1 ∧ DataW.trod enc Tryz.prog W 0 sp held n f2.type ((cs.drop f2.offset).take (Tryz.prog.cellsOf f2.type)) = some y2 := by
 obtain ⟨xs, n, _, -, hl, hlen, hf⟩ := DataW.trod_struct ht h
 refine ⟨hl, ?_⟩
 match xs, hlen with
 | [y0, y1, y2], _ => exact ⟨y0, y1, y2, n, by simpa using hf 0 f0 rfl, by simpa using hf 1 f1 rfl, by simpa using hf 2 f2 rfl⟩
theorem trod_oneN {t : TypeId} {f0 : Field} {fuel : Nat} {cs : List Value} {x : DataW H × List MemPlace} (ht : Tryz.prog.underlying t = some (.struct #[f0])) (h : DataW.trod enc Tryz.prog W 0 sp held fuel t cs = some x) :
 cs.length = Tryz.prog.cellsOf t ∧ ∃ y0 n, DataW.trod enc Tryz.prog W 0 sp held n f0.type ((cs.drop f0.offset).take (Tryz.prog.cellsOf f0.type)) = some y0 := by
 obtain ⟨xs, n, _, -, hl, hlen, hf⟩ := DataW.trod_struct ht h
 refine ⟨hl, ?_⟩
 match xs, hlen with
 | [y0], _ => exact ⟨y0, n, by simpa using hf 0 f0 rfl⟩
theorem threeN {α : Type} {l : List α} (h : l.length = 3) : ∃ c0 c1 c2, l = [c0, c1, c2] := by
 match l, h with
 | [c0, c1, c2], _ => exact ⟨c0, c1, c2, rfl⟩
theorem oneN {α : Type} {l : List α} (h : l.length = 1) : ∃ c0, l = [c0] := by
 match l, h with
 | [c0], _ => exact ⟨c0, rfl⟩
theorem nodes_in {fuel : Nat} {cs : List Value} {x : DataW H × List MemPlace} (h : DataW.trod enc Tryz.prog W 0 sp held fuel 26 cs = some x) : ∃ v ns, cs = [v] ∧ RdR argNodeE W v ns ∧ ns.length ≤ 9223372036854775807 ∧ ∀ e ∈ ns, okNd e := by
 rcases open_slice Tryz.underlying26 h with ⟨hcs, _⟩ | ⟨a, len, cap, m, n, D, Pl, rfl, hb, hl, hm, hmm, rfl, hx⟩
 ·exact ⟨_, [], hcs, RdR.nil argNodeE W, by decide, fun _ h => by cases h⟩
 ·unfold maxLen at hm
  have hlm : len ≤ m := by rw [hmm]; split <;> omega
  have hc3 : Tryz.prog.cellsOf 139 = 3 := by kernel_rfl
  have hc1 : Tryz.prog.cellsOf 3 = 1 := by kernel_rfl
  have hcs1 : Tryz.prog.cellsOf 9 = 1 := by kernel_rfl
  have each : ∀ i, i < len → ∃ g : Nd, ∀ j, j < 4 → (j < 3 → W.cell? ((a.add (i * 3)).add j) = (nodeC g)[j]?) ∧ okNd g := by
   intro i hi
   obtain ⟨cs', h1, h2⟩ := hx i (by omega)
   rw [hc3] at h1
   obtain ⟨_, hlen, hcell⟩ := World.cells?_some h1
   obtain ⟨-, y0, y1, y2, k, f0, f1, f2⟩ := trod_threeN Tryz.underlying139 h2
   simp only [hc1, hcs1] at f0 f1 f2
   obtain ⟨n0, e0, _⟩ := DataW.trod_int Tryz.underlying3 f0
   obtain ⟨n1, e1, _⟩ := DataW.trod_int Tryz.underlying3 f1
   obtain ⟨s2, e2, _, hs⟩ := Go.DataW.trod_string Tryz.underlying9 f2
   obtain ⟨c0, c1, c2, rfl⟩ := threeN hlen
   simp at e0 e1 e2
   subst e0 e1 e2
   exact ⟨⟨n0, n1, s2⟩, fun j _ => ⟨fun hj => hcell j hj, by unfold okNd; unfold maxLen at hs; simp only; omega⟩⟩
  have hch : ∃ G : Nat → Nd, ∀ i, i < len → ∀ j, j < 4 → (j < 3 → W.cell? ((a.add (i * 3)).add j) = (nodeC (G i))[j]?) ∧ okNd (G i) := by
   haveI : Inhabited Nd := ⟨nd0⟩
   exact choose_lt each
  obtain ⟨G, hG⟩ := hch
  refine ⟨_, (List.range len).map G, rfl, ⟨some a, cap, by simp, fun hne => ?_⟩, by simp; omega, fun e he => ?_⟩
  rotate_left
  ·obtain ⟨i, hi, rfl⟩ := List.mem_map.1 he
   exact (hG i (List.mem_range.1 hi) 0 (by omega)).2
  have h0 : 0 < len := by
   rcases Nat.eq_zero_or_pos len with h | h
   ·subst h; exact absurd rfl hne
   ·exact h
  obtain ⟨b, off, spot⟩ := a
  have hc00 : W.cell? ((⟨b, off, spot⟩ : Addr).add (0 * 3) |>.add 0) = some (.int .i64 (G 0).k) := (hG 0 h0 0 (by omega)).1 (by omega)
  have hspot : spot = none := by
   have := World.cell?_spot hc00
   simpa [Addr.add] using this
  subst hspot
  refine ⟨⟨b, off, none⟩, rfl, rfl, ?_, fun i hi j hj => ?_⟩
  ·have h1 := World.block_lt_of_cell? W _ hc00
   simpa [Addr.add] using h1
  ·have hi' : i < len := by simpa using hi
   have hj3 : j < 3 := hj
   have h1 := (hG i hi' j (by omega)).1 hj3
   rw [add_off, add_off] at h1
   show W.cell? ⟨b, off + i * 3 + j, none⟩ = _
   rw [h1]
   simp [argNodeE]
end
section
variable {H : Type} {enc : TypeId × Value → H} {W : World} {sp : Nat → Bool} {held : Bool}
theorem trod_twoN {t : TypeId} {f0 f1 : Field} {fuel : Nat} {cs : List Value} {x : DataW H × List MemPlace} (ht : Tryz.prog.underlying t = some (.struct #[f0, f1])) (h : DataW.trod enc Tryz.prog W 0 sp held fuel t cs = some x) :
 cs.length = Tryz.prog.cellsOf t ∧ ∃ y0 y1 n, DataW.trod enc Tryz.prog W 0 sp held n f0.type ((cs.drop f0.offset).take (Tryz.prog.cellsOf f0.type)) = some y0 ∧
  DataW.trod enc Tryz.prog W 0 sp held n f1.type ((cs.drop f1.offset).take (Tryz.prog.cellsOf f1.type)) = some y1 := by
 obtain ⟨xs, n, _, -, hl, hlen, hf⟩ := DataW.trod_struct ht h
 refine ⟨hl, ?_⟩
 match xs, hlen with
 | [y0, y1], _ => exact ⟨y0, y1, n, by simpa using hf 0 f0 rfl, by simpa using hf 1 f1 rfl⟩
theorem twoN {α : Type} {l : List α} (h : l.length = 2) : ∃ c0 c1, l = [c0, c1] := by
 match l, h with
 | [c0, c1], _ => exact ⟨c0, c1, rfl⟩
theorem termc_in {fuel : Nat} {cs : List Value} {x : DataW H × List MemPlace} (h : DataW.trod enc Tryz.prog W 0 sp held fuel 28 cs = some x) : ∃ v ns, cs = [v] ∧ RdR argNodeE W v ns ∧ ns.length ≤ 9223372036854775807 ∧ ∀ e ∈ ns, okNd e := by
 have hcl : Tryz.prog.cellsOf 26 = 1 := by kernel_rfl
 have hc1 : Tryz.prog.cellsOf 28 = 1 := by kernel_rfl
 obtain ⟨hl, y0, k, f0⟩ := trod_oneN Tryz.underlying28 h
 obtain ⟨c0, rfl⟩ := oneN (hl.trans hc1)
 simp only [hcl] at f0
 obtain ⟨gv, ns, e0, hg, l1, l2⟩ := nodes_in f0
 simp at e0
 subst e0
 exact ⟨_, ns, rfl, hg, l1, l2⟩
theorem rule_in {r : Reach} {b0 : Nat} {v : Value} {d : DataW H} {p : List MemPlace} (hv : Value.okWide Tryz.prog W r b0 30 v) (h : DataW.Trod enc Tryz.prog W 0 sp held 30 v d p) :
 ∃ s u t x y, v = .agg #[.string s, u, t] ∧ s.size ≤ 9223372036854775807 ∧ RdR argNodeE W u x ∧ RdR argNodeE W t y ∧ (x.length ≤ 9223372036854775807 ∧ y.length ≤ 9223372036854775807) ∧ (∀ e ∈ x, okNd e) ∧ ∀ e ∈ y, okNd e := by
 obtain ⟨cs, rfl, hsz⟩ := okWide_struct Tryz.underlying30 hv
 obtain ⟨l⟩ := cs
 have hct : Tryz.prog.cellsOf 28 = 1 := by kernel_rfl
 have hcs : Tryz.prog.cellsOf 9 = 1 := by kernel_rfl
 have hc3 : Tryz.prog.cellsOf 30 = 3 := by kernel_rfl
 obtain ⟨c0, c1, c2, rfl⟩ := threeN (show l.length = 3 from hsz.trans hc3)
 obtain ⟨fuel, hf⟩ := h
 obtain ⟨-, y0, y1, y2, k, f0, f1, f2⟩ := trod_threeN Tryz.underlying30 hf
 simp only [hct, hcs, Value.cells] at f0 f1 f2
 obtain ⟨s2, e2, _, hs⟩ := Go.DataW.trod_string Tryz.underlying9 f0
 obtain ⟨u, x, e0, hx, l1, l2⟩ := termc_in f1
 obtain ⟨t, y, e1, hy, l3, l4⟩ := termc_in f2
 simp at e0 e1 e2
 subst e0 e1 e2
 exact ⟨s2, _, _, x, y, rfl, by unfold maxLen at hs; omega, hx, hy, ⟨l1, l3⟩, l2, l4⟩
theorem match_in {r : Reach} {b0 : Nat} {v : Value} {d : DataW H} {p : List MemPlace} (hv : Value.okWide Tryz.prog W r b0 32 v) (h : DataW.Trod enc Tryz.prog W 0 sp held 32 v d p) :
 ∃ u t x y, v = .agg #[u, t] ∧ IntsV W u x ∧ IntsV W t y ∧ x.length ≤ 9223372036854775807 ∧ y.length ≤ 9223372036854775807 := by
 obtain ⟨cs, rfl, hsz⟩ := okWide_struct Tryz.underlying32 hv
 obtain ⟨l⟩ := cs
 have hci : Tryz.prog.cellsOf 23 = 1 := by kernel_rfl
 have hc2 : Tryz.prog.cellsOf 32 = 2 := by kernel_rfl
 obtain ⟨c0, c1, rfl⟩ := twoN (show l.length = 2 from hsz.trans hc2)
 obtain ⟨fuel, hf⟩ := h
 obtain ⟨-, y0, y1, k, f0, f1⟩ := trod_twoN Tryz.underlying32 hf
 simp only [hci, Value.cells] at f0 f1
 obtain ⟨u, x, e0, hx, l1⟩ := ints_in f0
 obtain ⟨t, y, e1, hy, l2⟩ := ints_in f1
 simp at e0 e1
 subst e0 e1
 exact ⟨_, _, x, y, rfl, hx, hy, l1, l2⟩
end
end Go.Proofs.YtjagjhchnpmngaaGreat
namespace Go.Proofs.YtjagjhchnpmngaaGreat.fnExactContextOf
open Go.ChangeShapes Go.WideShapes Go.ChangeAt Go.RowKit
set_option maxRecDepth 100000 in
theorem contract (H : Type) (enc : TypeId × Value → H) (W : World) (base : Nat) (args : Array Value) (ds gs : List (DataW H)) (before : List MemPlace)
 (hval : ∀ (j : Nat) t v, Tryz.f3.params[j]? = some t → args[j]? = some v → Value.okWide Tryz.prog W .any base t v)
 (hW : DataW.Whole enc Tryz.prog Tryz.f3.params.toList Rows.fnExactContextOfSpec.vars false W args.toList ds gs before) :
 Calls Tryz.prog 3 args W fun e W' => ∃ v, e = .returned v ∧ Rows.fnExactContextOfSpec.post enc Tryz.prog Tryz.f3 false true false false W args v W' := by
 have hW' := hW
 obtain ⟨p, q, hA0, hV, rfl, hfz, hnd⟩ := hW
 have hA : DataW.TrodAll enc Tryz.prog W 0 (fun _ => true) true Tryz.f3.params.toList args.toList ds p := hA0
 rw [Tryz.params3] at hA hval
 obtain ⟨v0, vs0, d0, ds0, p0, q0, hargs, rfl, rfl, h0, r0⟩ := trodAll_cons hA
 obtain ⟨v1, vs1, d1, ds1, p1, q1, rfl, rfl, rfl, h1, r1⟩ := trodAll_cons r0
 obtain ⟨v2, vs2, d2, ds2, p2, q2, rfl, rfl, rfl, h2, r2⟩ := trodAll_cons r1
 obtain ⟨rfl, rfl, rfl⟩ := trodAll_nil r2
 obtain rfl : args = #[v0, v1, v2] := by cases args; simp_all
 obtain rfl : gs = [] := by
  match gs, hV with
  | [], _ => rfl
  | _ :: _, h => exact h.elim
 have lt0 : ∀ x ∈ p0, x.block < W.heap.size := by obtain ⟨m, hm⟩ := h0; exact DataW.trod_lt m _ _ _ hm
 have lt1 : ∀ x ∈ p1, x.block < W.heap.size := by obtain ⟨m, hm⟩ := h1; exact DataW.trod_lt m _ _ _ hm
 have lt2 : ∀ x ∈ p2, x.block < W.heap.size := by obtain ⟨m, hm⟩ := h2; exact DataW.trod_lt m _ _ _ hm
 obtain ⟨ev, iv, ov, g, rfl, he, hi, ho, hok⟩ := graph_in (hval 0 25 v0 rfl rfl) h0
 obtain ⟨s, ru, rv, rx, ry, rfl, hs, hx, hy, hl, hox, hoy⟩ := rule_in (hval 1 30 v1 rfl rfl) h1
 obtain ⟨mu, mv, mW, mE, rfl, hw, hE, hlw, hle⟩ := match_in (hval 2 32 v2 rfl rfl) h2
 clear hA0
 refine (fnContextOf_any g s rx ry mW mE ev iv ov ru rv mu mv W he hi ho hok hx hy hs hl hox hoy hw hE hlw hle).mono fun e W' ⟨he, hg⟩ => ?_
 subst he
 have bel := below_of_grown hg
 exact ⟨_, rfl, _, _, _, [], _, _, hW', trodAll_mk1 (shut_bool Tryz.underlying4 _),
  (trodAll_cons_mk (Below.trod laidOut (by kernel_rfl) (of_decide_eq_true (by kernel_rfl)) h0 bel lt0) (trodAll_cons_mk (Below.trod laidOut (by kernel_rfl) (of_decide_eq_true (by kernel_rfl)) h1 bel lt1) (trodAll_cons_mk (Below.trod laidOut (by kernel_rfl) (of_decide_eq_true (by kernel_rfl)) h2 bel lt2) trodAll_mk0))),
  Below.trodVars laidOut bel (by kernel_rfl) hV, bel.frame _, fun h => by cases h⟩
noncomputable def laidWorld (os : Os) : World := World.holding Tryz.prog os ⟨#[], #[], []⟩
set_option maxRecDepth 100000 in
theorem laid_met (os : Os) : laidMet Tryz.prog Rows.fnExactContextOfRow.laid ((laidWorld os).forCall (fun _ _ => 0) ⟨#[], #[.agg #[.int .i64 0, .slice none 0 0, .slice none 0 0, .slice none 0 0], .agg #[.string ⟨#[]⟩, .slice none 0 0, .slice none 0 0], .agg #[.slice none 0 0, .slice none 0 0]], []⟩).memory :=
 laidMet_of_run' 8 (by kernel_rfl) (by kernel_rfl)
set_option maxRecDepth 100000 in
theorem reads (os : Os) {H : Type} (enc : TypeId × Value → H) : ∃ places, DataW.whole enc Tryz.prog ((laidWorld os).forCall (fun _ _ => 0) ⟨#[], #[.agg #[.int .i64 0, .slice none 0 0, .slice none 0 0, .slice none 0 0], .agg #[.string ⟨#[]⟩, .slice none 0 0, .slice none 0 0], .agg #[.slice none 0 0, .slice none 0 0]], []⟩).memory Tryz.f3.params.toList Rows.fnExactContextOfSpec.vars false #[Value.agg #[.int .i64 0, .slice none 0 0, .slice none 0 0, .slice none 0 0], .agg #[.string ⟨#[]⟩, .slice none 0 0, .slice none 0 0], .agg #[.slice none 0 0, .slice none 0 0]].toList 8 = some ([.agg [.lit (.int .i64 0), .nil, .nil, .nil], .agg [.lit (.string []), .agg [.nil], .agg [.nil]], .agg [.nil, .nil]], [], places) :=
 ⟨[], by kernel_rfl⟩
set_option maxRecDepth 100000 in
theorem lifted (os : Os) (started : os.Started) (H : Type) (enc : TypeId × Value → H) (F : Stop.Interp) :
 ReturnsInHanded {} Tryz.checked os 3 .any ((OpenSpec.ofChange Rows.fnExactContextOfSpec).preRow enc Tryz.prog Tryz.f3 Rows.fnExactContextOfRow.domain false Rows.fnExactContextOfRow.laid) (((OpenSpec.ofChange Rows.fnExactContextOfSpec).at F).post enc Tryz.prog Tryz.f3 false true false false) := by
 obtain ⟨places, hx⟩ := reads os enc
 refine returnsInHanded_of_row (C := Tryz.checked) (s := OpenSpec.ofChange Rows.fnExactContextOfSpec) own started (by kernel_rfl) Tryz.func3
  (witness_row_at (enc := enc) (C := Tryz.checked) false (laidWorld os) #[.agg #[.int .i64 0, .slice none 0 0, .slice none 0 0, .slice none 0 0], .agg #[.string ⟨#[]⟩, .slice none 0 0, .slice none 0 0], .agg #[.slice none 0 0, .slice none 0 0]] rfl (by kernel_rfl) (by kernel_rfl) (by kernel_rfl)
   (OpenSpec.preRow_of_cond 8 hx (by kernel_rfl) (fun k hk => by cases hk) (by kernel_rfl) (laid_met os))) ?_
 intro W base args ds gs before hval hW _ _ _ hL _ _
 exact contract H enc W base args ds gs before hval hW
set_option maxRecDepth 100000 in
theorem shut : joinedFacts Tryz.pinned.checked.prog 3 Tryz.f3 (OpenSpec.ofChange Rows.fnExactContextOfSpec).bare Rows.fnExactContextOfRow = true := by kernel_rfl
set_option maxRecDepth 100000 in
theorem said : Rows.FnExactContextOfSaid :=
 OpenClaim.holds_of_cond 3 Tryz.f3 rfl rfl rfl rfl rfl rfl rfl ⟨rfl, rfl, rfl, rfl, rfl⟩ rfl rfl rfl rfl rfl (by kernel_rfl) Tryz.func3 shut
  (of_decide_eq_true (by kernel_rfl)) (by unfold Func.isWrapper; first | (rw [if_pos (by decide +kernel)]; kernel_rfl) | (rw [if_neg (by decide +kernel)]; exact ⟨rfl, rfl⟩))
  (fun os started H enc _ F => by rw [OpenClaim.pre_eq_preRow]; exact lifted os started H enc F)
#print axioms said
end Go.Proofs.YtjagjhchnpmngaaGreat.fnExactContextOf

/-
  A circuit that came in: its gates and its outputs can be read. Conditions: none.
-/
import Derived.Test.YtlpgjnjhhgjkmaaBa00
import Derived.Test.YtlpgjnjhhgjkmaaBa01
import Derived.WalkKit
import Derived.ProofKit
import Derived.OpenShut
import Derived.ChangeOld
import Derived.OpenVars
import Derived.Deep.Slices
import Derived.Lib.SmallJoins
import Derived.Test.YtlpgjnjhhgjkmaaBa03
namespace Go.Proofs.Ytlpgjnjhhgjkmaa
open Go.ChangeShapes Go.WideShapes Go.ChangeAt Go.RowKit Go.Deep Go.Joins
set_option linter.unusedVariables false
set_option maxRecDepth 100000

section
variable {H : Type} {enc : TypeId × Value → H} {W : World} {sp : Nat → Bool} {held : Bool}
theorem add_off (b off k : Nat) : (⟨b, off, none⟩ : Addr).add k = ⟨b, off + k, none⟩ := by
  unfold Addr.add
  split
  · rename_i h; subst h; rfl
  · rfl
theorem ints_in {fuel : Nat} {cs : List Value} {x : DataW H × List MemPlace} (h : DataW.trod enc Try.prog W 0 sp held fuel 23 cs = some x) : ∃ v zs, cs = [v] ∧ IntsV W v zs ∧ zs.length ≤ 9223372036854775807 := by
  rcases open_ints Try.underlying23 Try.underlying3 (by kernel_rfl) h with ⟨hcs, _⟩ | ⟨x, l, c, zs, hcs, _, hl, hm, hz, _, hcell, hwz⟩
  · exact ⟨_, [], hcs, IntsV.nil W, by decide⟩
  · unfold maxLen at hm
    have hlz : l ≤ zs.length := by rw [hz]; split <;> omega
    refine ⟨_, zs.take l, hcs, ?_, by rw [List.length_take]; omega⟩
    have hlen : (zs.take l).length = l := by rw [List.length_take]; omega
    refine ⟨some x, c, by rw [hlen], fun hne => ?_⟩
    have h0 : 0 < l := by
      rcases Nat.eq_zero_or_pos l with h | h
      · subst h; exact absurd rfl hne
      · exact h
    obtain ⟨b, off, spot⟩ := x
    have hspot : spot = none := by
      have := World.cell?_spot (hcell 0 (by omega))
      simpa [Addr.add] using this
    subst hspot
    refine ⟨⟨b, off, none⟩, rfl, rfl, ?_, fun i hi => ?_⟩
    · have h1 := hcell 0 (by omega)
      exact World.block_lt_of_cell? W _ h1
    · have h1 := hcell i (by omega)
      rw [add_off] at h1
      rw [h1, List.getElem_take, List.getD_eq_getElem?_getD, List.getElem?_eq_getElem (by omega)]
      rfl
end
end Go.Proofs.Ytlpgjnjhhgjkmaa

/-
  A graph that came in: its edges and its lists of wires can be read. Conditions: none.
-/
namespace Go.Proofs.Ytlpgjnjhhgjkmaa
open Go.ChangeShapes Go.WideShapes Go.ChangeAt Go.RowKit Go.Deep Go.Joins
set_option linter.unusedVariables false
set_option maxRecDepth 100000

section
variable {H : Type} {enc : TypeId × Value → H} {W : World} {sp : Nat → Bool} {held : Bool}
theorem edges_in {fuel : Nat} {cs : List Value} {x : DataW H × List MemPlace} (h : DataW.trod enc Try.prog W 0 sp held fuel 22 cs = some x) : ∃ v es, cs = [v] ∧ RdE argEdE W v es ∧ es.length ≤ 9223372036854775807 ∧ ∀ e ∈ es, okEd e := by
  rcases open_slice Try.underlying22 h with ⟨hcs, _⟩ | ⟨a, len, cap, m, n, D, Pl, rfl, hb, hl, hm, hmm, rfl, hx⟩
  · exact ⟨_, [], hcs, ⟨[], rfl, RdR.nil argEdE W, by simp⟩, by decide, by simp⟩
  · unfold maxLen at hm
    have hlm : len ≤ m := by rw [hmm]; split <;> omega
    have hc4 : Try.prog.cellsOf 67 = 4 := by kernel_rfl
    have hc1 : Try.prog.cellsOf 3 = 1 := by kernel_rfl
    have hcl : Try.prog.cellsOf 23 = 1 := by kernel_rfl
    have each : ∀ i, i < len → ∃ g : XE, (∀ j, j < 4 → W.cell? ((a.add (i * 4)).add j) = (edgeC g)[j]?) ∧ IntsV W g.iv g.ed.i ∧ IntsV W g.ov g.ed.o ∧ okEd g.ed := by
      intro i hi
      obtain ⟨cs', h1, h2⟩ := hx i (by omega)
      rw [hc4] at h1
      obtain ⟨_, hlen, hcell⟩ := World.cells?_some h1
      obtain ⟨y0, y1, y2, y3, k, _, _, f0, f1, f2, f3⟩ := trod_struct4 Try.underlying67 h2
      simp only [hc1, hcl] at f0 f1 f2 f3
      obtain ⟨n0, e0, _⟩ := DataW.trod_int Try.underlying3 f0
      obtain ⟨n1, e1, _⟩ := DataW.trod_int Try.underlying3 f1
      obtain ⟨v2, z2, e2, r2, b2⟩ := ints_in f2
      obtain ⟨v3, z3, e3, r3, b3⟩ := ints_in f3
      match cs', hlen with
      | [c0, c1, c2, c3], _ =>
        simp at e0 e1 e2 e3
        subst e0 e1 e2 e3
        exact ⟨⟨⟨n0, n1, z2, z3⟩, c2, c3⟩, fun j hj => hcell j hj, r2, r3, b2, b3⟩
    have hch : ∃ G : Nat → XE, ∀ i, i < len → (∀ j, j < 4 → W.cell? ((a.add (i * 4)).add j) = (edgeC (G i))[j]?) ∧ IntsV W (G i).iv (G i).ed.i ∧ IntsV W (G i).ov (G i).ed.o ∧ okEd (G i).ed := by
      haveI : Inhabited XE := ⟨xe0⟩
      exact choose_lt each
    obtain ⟨G, hG⟩ := hch
    refine ⟨_, eds ((List.range len).map G), rfl, ⟨(List.range len).map G, rfl, ⟨some a, cap, by simp, fun hne => ?_⟩, fun x hx => ?_⟩, by simp [eds]; omega, fun e he => ?_⟩
    · have h0 : 0 < len := by
        rcases Nat.eq_zero_or_pos len with h | h
        · subst h; exact absurd rfl hne
        · exact h
      obtain ⟨b, off, spot⟩ := a
      have hc00 : W.cell? ((⟨b, off, spot⟩ : Addr).add (0 * 4) |>.add 0) = some (.int .i64 (G 0).ed.k) := (hG 0 h0).1 0 (by omega)
      have hspot : spot = none := by
        have := World.cell?_spot hc00
        simpa [Addr.add] using this
      subst hspot
      refine ⟨⟨b, off, none⟩, rfl, rfl, ?_, fun i hi j hj => ?_⟩
      · have h1 := World.block_lt_of_cell? W _ hc00
        simpa [Addr.add] using h1
      · have hi' : i < len := by simpa using hi
        have h1 := (hG i hi').1 j hj
        rw [add_off, add_off] at h1
        show W.cell? ⟨b, off + i * 4 + j, none⟩ = _
        rw [h1]
        simp [argEdE]
    · obtain ⟨i, hi, rfl⟩ := List.mem_map.1 hx
      have := hG i (List.mem_range.1 hi)
      exact ⟨this.2.1, this.2.2.1⟩
    · obtain ⟨x, hx, rfl⟩ := List.mem_map.1 he
      obtain ⟨i, hi, rfl⟩ := List.mem_map.1 hx
      exact (hG i (List.mem_range.1 hi)).2.2.2
theorem graph_in {r : Reach} {b0 : Nat} {v : Value} {d : DataW H} {p : List MemPlace} (hv : Value.okWide Try.prog W r b0 25 v) (h : DataW.Trod enc Try.prog W 0 sp held 25 v d p) :
    ∃ ev iv ov g, v = grV g.n ev iv ov ∧ RdE argEdE W ev g.es ∧ IntsV W iv g.i ∧ IntsV W ov g.o ∧ okG g := by
  obtain ⟨v0, v1, v2, v3, y0, y1, y2, y3, k, rfl, _, _, h0, h1, h2, h3⟩ := open_agg4 Try.underlying25 (by kernel_rfl) (by kernel_rfl) hv h
  obtain ⟨n, e0, _⟩ := DataW.trod_int Try.underlying3 h0
  obtain ⟨ev, es, e1, he, l1, l1'⟩ := edges_in h1
  obtain ⟨iv, is, e2, hi, l2⟩ := ints_in h2
  obtain ⟨ov, os, e3, ho, l3⟩ := ints_in h3
  simp only [List.cons.injEq, and_true] at e0 e1 e2 e3
  subst e0 e1 e2 e3
  exact ⟨_, _, _, ⟨n, es, is, os⟩, rfl, he, hi, ho, l1, l1', l2, l3⟩
end
end Go.Proofs.Ytlpgjnjhhgjkmaa

/-
  One step of the reduction on two lists of rows at once (the closure of impl.reduction). Conditions: the elements are small, the indices within.
-/
import Derived.Test.YtpeaeminjbjlnaaDoorApply
namespace Go.Proofs.YtpeaeminjbjlnaaDoor
open Go.RowKit
set_option linter.unusedVariables false

structure Two (B : Nat) (w : World) (v : Value) (vs : List Value) (u : Value) (us : List Value) (R T : List (List Int)) : Prop where
  mR : OwnM B w v vs R
  mT : OwnM B w u us T
  ap : ∀ k, Foot v vs k → ¬ Foot u us k
def Feet (v : Value) (vs : List Value) (u : Value) (us : List Value) (k : Nat) : Prop := Foot v vs k ∨ Foot u us k
theorem Foot.mono {v : Value} {vs vs' : List Value} (h : ∀ x ∈ vs', x ∈ vs) {k : Nat} (hk : Foot v vs' k) : Foot v vs k := by
  rcases hk with hk | ⟨x, hx, hk⟩
  · exact Or.inl hk
  · exact Or.inr ⟨x, h x hx, hk⟩
/-- the captured variables -/
structure Caps (w : World) (N bp br ba : Nat) (p : Int) (v u : Value) : Prop where
  cp : w.cell? ⟨bp, 0, none⟩ = some (.int .i64 p)
  cr : w.cell? ⟨br, 0, none⟩ = some v
  ca : w.cell? ⟨ba, 0, none⟩ = some u
  np : N ≤ bp
  nr : N ≤ br
  na : N ≤ ba
  lp : bp < w.heap.size
  lr : br < w.heap.size
  la : ba < w.heap.size
theorem Caps.only {S : Nat → Prop} {w w' : World} {N bp br ba : Nat} {p : Int} {v u : Value} (h : Caps w N bp br ba p v u) (ho : Only S w w') (hs : ∀ k, S k → k < N) : Caps w' N bp br ba p v u := by
  have h1 := h.np; have h2 := h.nr; have h3 := h.na
  refine ⟨(World.cell?_of_block (w := w) (a := ⟨bp, 0, none⟩) (ho.block bp h.lp fun h' => ?_)).trans h.cp, (World.cell?_of_block (w := w) (a := ⟨br, 0, none⟩) (ho.block br h.lr fun h' => ?_)).trans h.cr,
    (World.cell?_of_block (w := w) (a := ⟨ba, 0, none⟩) (ho.block ba h.la fun h' => ?_)).trans h.ca, h1, h2, h3, Nat.lt_of_lt_of_le h.lp ho.size, Nat.lt_of_lt_of_le h.lr ho.size, Nat.lt_of_lt_of_le h.la ho.size⟩
  all_goals have := hs _ h'; omega

/-- equal rows: nothing is done -/
theorem step_same (p : Int) (r : Nat) (v u : Value) (N bp br ba : Nat) (w : World) (hc : Caps w N bp br ba p v u) :
    Calls Tryd.prog 254 #[opV 0 r r 0, .pointer (some ⟨bp, 0, none⟩), .pointer (some ⟨br, 0, none⟩), .pointer (some ⟨ba, 0, none⟩)] w fun e w' => e = .returned (.tuple #[]) ∧ Only (fun _ => False) w w' := by
  unfold opV
  clear hc
  go_enter Tryd.func254, Tryd.ntmps254
  go_wp2
  refine bodyPost_ret (results_none rfl _ _ _) rfl ?_
  exact ⟨rfl, Only.of_grown (grownBy_alloc _ _ none) (by simp)⟩

set_option maxRecDepth 100000 in
set_option maxHeartbeats 1000000 in
theorem step_do (p : Int) (kind : Int) (r k : Nat) (by' : Int) (v u : Value) (vs us : List Value) (R T R' T' : List (List Int)) (B N bp br ba : Nat) (w : World) (hc : Caps w N bp br ba p v u) (h2 : Two B w v vs u us R T) (hN : ∀ k, Feet v vs u us k → k < N)
    (hk : kind = 1 ∨ kind = 2 ∨ (kind = 0 ∧ (r : Int) ≠ k))
    (hA : ∀ w1, OwnM B w1 v vs R → Calls Tryd.prog 196 #[opV kind r k by', .int .i64 p, v] w1 fun e w' => e = .returned (.tuple #[]) ∧ ∃ vs', OwnM B w' v vs' R' ∧ (∀ x ∈ vs', x ∈ vs) ∧ Only (Foot v vs) w1 w')
    (hB : ∀ w1, OwnM B w1 u us T → Calls Tryd.prog 196 #[opV kind r k by', .int .i64 p, u] w1 fun e w' => e = .returned (.tuple #[]) ∧ ∃ us', OwnM B w' u us' T' ∧ (∀ x ∈ us', x ∈ us) ∧ Only (Foot u us) w1 w') :
    Calls Tryd.prog 254 #[opV kind r k by', .pointer (some ⟨bp, 0, none⟩), .pointer (some ⟨br, 0, none⟩), .pointer (some ⟨ba, 0, none⟩)] w fun e w' => e = .returned (.tuple #[]) ∧
      ∃ vs' us', Two B w' v vs' u us' R' T' ∧ (∀ x ∈ vs', x ∈ vs) ∧ (∀ x ∈ us', x ∈ us) ∧ Only (Feet v vs u us) w w' := by
  have HC := Lib.hid hc; have H2 := Lib.hid h2; have HN := Lib.hid hN; have HA := Lib.hid hA; have HB := Lib.hid hB
  clear hc h2 hN hA hB
  unfold opV at *
  have fin : ∀ w1 w2 w3 vs' us', Only (fun _ => False) w w1 → OwnM B w2 v vs' R' ∧ (∀ x ∈ vs', x ∈ vs) ∧ Only (Foot v vs) w1 w2 → OwnM B w3 u us' T' ∧ (∀ x ∈ us', x ∈ us) ∧ Only (Foot u us) w2 w3 →
      Two B w3 v vs' u us' R' T' ∧ (∀ x ∈ vs', x ∈ vs) ∧ (∀ x ∈ us', x ∈ us) ∧ Only (Feet v vs u us) w w3 := by
    intro w1 w2 w3 vs' us' o1 ⟨m1, s1, o2⟩ ⟨m2, s2, o3⟩
    refine ⟨⟨m1.only o3 fun k hk hk' => H2.out.ap k (hk.mono s1) hk', m2, fun k hk hk' => H2.out.ap k (hk.mono s1) (hk'.mono s2)⟩, s1, s2, ?_⟩
    exact ((o1.mono fun _ h => h.elim).trans (o2.mono fun k hk => Or.inl hk)).trans (o3.mono fun k hk => Or.inr hk)
  have FIN := Lib.hid fin
  clear fin
  have cp := HC.out.cp
  have cr := HC.out.cr
  have ca := HC.out.ca
  have lp := HC.out.lp
  have lr := HC.out.lr
  have la := HC.out.la
  have HA1 := Lib.hid fun o => HA.out (w.alloc o) (H2.out.mR.carry (grownBy_alloc w o none))
  have HB1 := Lib.hid fun o w2 (ho : Only (Foot v vs) (w.alloc o) w2) => HB.out w2 ((H2.out.mT.carry (grownBy_alloc w o none)).only ho fun k hk hk' => H2.out.ap k hk' hk)
  have FIN1 := Lib.hid fun o w2 w3 vs' us' h1 h2 => FIN.out (w.alloc o) w2 w3 vs' us' (Only.of_grown (grownBy_alloc w o none) (by simp)) h1 h2
  have after : ∀ w1 w2, Only (fun _ => False) w w1 → (∀ j (h : j < 4), w1.cell? ⟨w.heap.size, j, none⟩ = (#[Value.int .i64 kind, .int .i64 r, .int .i64 k, .int .i64 by'])[j]?) → Only (Foot v vs) w1 w2 → w.heap.size < w1.heap.size →
      (w2.cell? ⟨w.heap.size, 0, none⟩ = some (.int .i64 kind) ∧ w2.cell? ⟨w.heap.size, 1, none⟩ = some (.int .i64 r) ∧ w2.cell? ⟨w.heap.size, 2, none⟩ = some (.int .i64 k) ∧ w2.cell? ⟨w.heap.size, 3, none⟩ = some (.int .i64 by')) ∧
      w2.cell? ⟨bp, 0, none⟩ = some (.int .i64 p) ∧ w2.cell? ⟨br, 0, none⟩ = some v ∧ w2.cell? ⟨ba, 0, none⟩ = some u := by
    intro w1 w2 o1 hb o2 hlt
    have c1 := (HC.out.only o1 (fun _ h => h.elim)).only o2 fun k hk => HN.out k (Or.inl hk)
    have hn : ¬ Foot v vs w.heap.size := by
      intro h
      have h1 := HN.out _ (Or.inl h)
      have h2 := HC.out.np
      omega
    have hcell : ∀ j, w2.cell? ⟨w.heap.size, j, none⟩ = w1.cell? ⟨w.heap.size, j, none⟩ := fun j => World.cell?_of_block (a := ⟨w.heap.size, j, none⟩) (o2.block w.heap.size hlt hn)
    refine ⟨⟨?_, ?_, ?_, ?_⟩, c1.cp, c1.cr, c1.ca⟩
    · rw [hcell, hb 0 (by omega)]; rfl
    · rw [hcell, hb 1 (by omega)]; rfl
    · rw [hcell, hb 2 (by omega)]; rfl
    · rw [hcell, hb 3 (by omega)]; rfl
  have AFTER := Lib.hid fun w2 => after (w.alloc (.cells #[Value.int .i64 kind, .int .i64 r, .int .i64 k, .int .i64 by'] 183)) w2 (Only.of_grown (grownBy_alloc w _ none) (by simp)) (fun j _ => box_cell w _ _ j) |> fun h a => h a (by simp)
  clear after
  rcases hk with rfl | rfl | ⟨rfl, hne⟩
  all_goals
    go_enter Tryd.func254, Tryd.ntmps254
    go_wp2_with (
      go_at_call 196
      first
        | (with_reducible refine (HA1.out _).mono ?_
           rintro e w2 ⟨rfl, vs', a1, a2, a3⟩
           obtain ⟨⟨d0, d1, d2, d3⟩, e1, e2, e3⟩ := AFTER.out _ a3
           have A1 := Lib.hid a1; have A2 := Lib.hid a2; have A3 := Lib.hid a3
           clear a1 a2 a3)
        | (with_reducible refine (HB1.out _ _ A3.out).mono ?_
           rintro e w3 ⟨rfl, us', a1, a2, a3⟩
           have A4 := Lib.hid a1; have A5 := Lib.hid a2; have A6 := Lib.hid a3
           clear a1 a2 a3))
    go_end0
    exact ⟨rfl, vs', us', FIN1.out _ _ _ _ _ ⟨A1.out, A2.out, A3.out⟩ ⟨A4.out, A5.out, A6.out⟩⟩

end Go.Proofs.YtpeaeminjbjlnaaDoor

/-
  Graphs: what they are, when they are valid and monogamous, in plain Lean; how they lie in memory. Conditions: as each says.
-/
import Derived.Test.YtghfifpicklonaaDoorBc04
import Derived.Test.YtghfifpicklonaaDoorBc00
import Derived.Deep.CutRange
import Derived.Test.YtghfifpicklonaaDoorBc03
import Derived.BigQuiet
import Derived.Shelf.Abstract
import Derived.Test.YtghfifpicklonaaDoorBc01
namespace Go.Proofs.YtghfifpicklonaaDoor
open Go.RowKit
set_option linter.unusedVariables false
set_option maxRecDepth 100000

structure Ed where
  k : Int
  v : Int
  i : List Int
  o : List Int
deriving DecidableEq
structure Gr where
  n : Int
  es : List Ed
  i : List Int
  o : List Int
deriving DecidableEq
def gr0 : Gr := ⟨0, [], [], []⟩
def edW (k : Int) : Nat × Nat := if k = 3 ∨ k = 11 then (1, 2) else if k = 4 ∨ k = 12 then (1, 0) else if k = 5 ∨ k = 9 then (2, 1) else if k = 6 ∨ k = 10 then (0, 1) else (1, 1)
def valB (k v : Int) : Bool := if k = 7 ∨ k = 13 then inB v 0 96 else decide (v = 0)
def edB (e : Ed) : Bool := inB e.k 3 14 && valB e.k e.v && decide ((e.i.length, e.o.length) = edW e.k)
def wiresE (es : List Ed) : List Int := es.flatMap fun e => e.i ++ e.o
def wiresL (g : Gr) : List Int := g.i ++ (g.o ++ wiresE g.es)
def rngB (n : Int) (l : List Int) : Bool := l.all fun x => inB x 0 (n - 1)
/-- Is it a graph? -/
def grB (g : Gr) : Bool :=
  inB g.n 0 100 && decide (g.es.length ≤ 60 ∧ g.i.length ≤ 12 ∧ g.o.length ≤ 12) && g.es.all edB && rngB g.n (wiresL g) && (List.range g.n.toNat).all fun w => decide ((w : Int) ∈ wiresL g)
/-- Where each wire comes from, and where it goes. -/
def fromL (g : Gr) : List Int := g.i ++ g.es.flatMap fun e => e.o
def toL (g : Gr) : List Int := g.o ++ g.es.flatMap fun e => e.i
def permB (l : List Int) (n : Int) : Bool := decide ((l.length : Int) = n) && rngB n l && decide l.Nodup
def monB (g : Gr) : Bool := permB (fromL g) g.n && permB (toL g) g.n
theorem mem_wires {g : Gr} {x : Int} : x ∈ wiresL g ↔ x ∈ fromL g ∨ x ∈ toL g := by
  unfold wiresL fromL toL wiresE
  simp only [List.mem_append, List.mem_flatMap]
  constructor
  · rintro (h | h | ⟨e, he, h | h⟩)
    · exact Or.inl (Or.inl h)
    · exact Or.inr (Or.inl h)
    · exact Or.inr (Or.inr ⟨e, he, h⟩)
    · exact Or.inl (Or.inr ⟨e, he, h⟩)
  · rintro ((h | ⟨e, he, h⟩) | (h | ⟨e, he, h⟩))
    · exact Or.inl h
    · exact Or.inr (Or.inr ⟨e, he, Or.inr h⟩)
    · exact Or.inr (Or.inl h)
    · exact Or.inr (Or.inr ⟨e, he, Or.inl h⟩)
theorem rngB_iff {n : Int} {l : List Int} : rngB n l = true ↔ ∀ x ∈ l, 0 ≤ x ∧ x < n := by
  unfold rngB inB
  simp only [List.all_eq_true, decide_eq_true_iff]
  constructor
  · intro h x hx
    have := h x hx
    omega
  · intro h x hx
    have := h x hx
    omega
/-- Each number below n once: as many as n, none twice. -/
theorem perm_count {l : List Int} {n : Nat} (hr : ∀ x ∈ l, 0 ≤ x ∧ x < (n : Int)) : (l.length = n ∧ l.Nodup) ↔ ∀ w, w < n → l.count (w : Int) = 1 := by
  have hperm : ∀ l : List Int, (∀ x ∈ l, 0 ≤ x ∧ x < (n : Int)) → l.Nodup → l.length ≤ n := by
    intro l hr hd
    have h1 := List.Nodup.length_le_of_subset (l₁ := l) (l₂ := (List.range n).map fun i : Nat => (i : Int)) hd (fun x hx => by
      have := hr x hx
      exact List.mem_map.2 ⟨x.toNat, List.mem_range.2 (by omega), by omega⟩)
    simpa using h1
  constructor
  · rintro ⟨hl, hd⟩ w hw
    have hle : l.count (w : Int) ≤ 1 := List.nodup_iff_count.1 hd _
    rcases Nat.lt_or_ge 0 (l.count (w : Int)) with h | h
    · omega
    · exfalso
      have hn : ¬ (w : Int) ∈ l := List.count_eq_zero.1 (by omega)
      have h2 := hperm ((w : Int) :: l) (fun x hx => by
        rcases List.mem_cons.1 hx with rfl | hx
        · omega
        · exact hr x hx) (List.nodup_cons.2 ⟨hn, hd⟩)
      simp at h2
      omega
  · intro h
    have hd : l.Nodup := List.nodup_iff_count.2 fun a => by
      by_cases ha : a ∈ l
      · have hx := hr a ha
        have := h a.toNat (by omega)
        rw [Int.toNat_of_nonneg hx.1] at this
        omega
      · rw [List.count_eq_zero.2 ha]
        omega
    refine ⟨?_, hd⟩
    have h1 := hperm l hr hd
    have h2 : ((List.range n).map fun i : Nat => (i : Int)).length ≤ l.length := List.Nodup.length_le_of_subset (by
        rw [List.nodup_iff_pairwise_ne] 
        refine List.Pairwise.map _ (fun a b hab => ?_) (List.nodup_range)
        intro e
        exact hab (by omega)) (fun x hx => by
      obtain ⟨i, hi, rfl⟩ := List.mem_map.1 hx
      have := h i (List.mem_range.1 hi)
      exact List.count_pos_iff.1 (by omega))
    simp at h2
    omega
/-! ### layout -/
/-- An edge with the two slices that hold its wires. -/
structure XE where
  ed : Ed
  iv : Value
  ov : Value
def edgeC (x : XE) : List Value := [.int .i64 x.ed.k, .int .i64 x.ed.v, x.iv, x.ov]
def edgeE : Lay XE := ⟨84, 4, edgeC, fun _ => rfl, by decide⟩
def argEdE : Lay XE := ⟨122, 4, edgeC, fun _ => rfl, by decide⟩
def e0 : Ed := ⟨0, 0, [], []⟩
def xe0 : XE := ⟨e0, nilS, nilS⟩
def eds (xs : List XE) : List Ed := xs.map XE.ed
/-- A list of edges that can be read. -/
def RdE (E : Lay XE) (w : World) (v : Value) (es : List Ed) : Prop :=
  ∃ xs : List XE, eds xs = es ∧ RdR E w v xs ∧ ∀ x ∈ xs, IntsV w x.iv x.ed.i ∧ IntsV w x.ov x.ed.o
def grV (n : Int) (ev iv ov : Value) : Value := .agg #[.int .i64 n, ev, iv, ov]
/-- The lists of wires of the call's own edges. -/
def rowsE (xs : List XE) : List Asrt := xs.flatMap fun x => [OI x.iv x.ed.i, OI x.ov x.ed.o]
/-- A list of edges that is the call's own. -/
def OE (v : Value) (xs : List XE) : Asrt := Bag (OR edgeE v xs :: rowsE xs)
theorem RdE.carry {E : Lay XE} {w w' : World} {v : Value} {es : List Ed} (h : RdE E w v es) (hg : w.grownBy w' none) : RdE E w' v es := by
  obtain ⟨xs, h1, h2, h3⟩ := h
  exact ⟨xs, h1, h2.carry hg, fun x hx => ⟨(h3 x hx).1.carry hg, (h3 x hx).2.carry hg⟩⟩
theorem RdE.shape {E : Lay XE} {w : World} {v : Value} {es : List Ed} (h : RdE E w v es) : ∃ a c, v = .slice a es.length c := by
  obtain ⟨xs, h1, h2, _⟩ := h
  obtain ⟨a, c, rfl, _⟩ := h2
  exact ⟨a, c, by rw [← h1]; simp [eds]⟩
theorem OE.read {w : World} {v : Value} {xs : List XE} (h : (OE v xs).holds w) : RdE edgeE w v (eds xs) := by
  have ha := Sep.all (show Sep w (OR edgeE v xs :: rowsE xs) from h)
  refine ⟨xs, rfl, OwnR.read (show OwnR edgeE 0 w v xs from ha (OR edgeE v xs) (by simp)), fun x hx => ?_⟩
  exact ⟨OwnInts.read (show OwnInts 0 w x.iv x.ed.i from ha (OI x.iv x.ed.i) (List.mem_cons_of_mem _ (List.mem_flatMap.2 ⟨x, hx, by simp⟩))), OwnInts.read (show OwnInts 0 w x.ov x.ed.o from ha (OI x.ov x.ed.o) (List.mem_cons_of_mem _ (List.mem_flatMap.2 ⟨x, hx, by simp⟩)))⟩
theorem rowsE_snoc (xs : List XE) (x : XE) : rowsE (xs ++ [x]) = rowsE xs ++ [OI x.iv x.ed.i, OI x.ov x.ed.o] := by
  unfold rowsE
  rw [List.flatMap_append]
  simp
theorem eds_at {xs : List XE} {i : Nat} : (eds xs).getD i e0 = (xs.getD i xe0).ed := by
  unfold eds
  rw [List.getD_eq_getElem?_getD, List.getElem?_map, List.getD_eq_getElem?_getD]
  cases xs[i]? <;> rfl
/-- What the memory holds of edge i. -/
theorem RdE.at {E : Lay XE} (h1 : E.sz = 4) (h2 : E.cs = edgeC) {w : World} {a : Option Addr} {n c : Nat} {es : List Ed} (h : RdE E w (.slice a n c) es) {i : Nat} (hi : i < es.length) :
    ∃ b o iv ov, a = some ⟨b, o, none⟩ ∧ b < w.heap.size ∧ w.cell? ⟨b, o + i * 4, none⟩ = some (.int .i64 (es.getD i e0).k) ∧ w.cell? ⟨b, o + i * 4 + 1, none⟩ = some (.int .i64 (es.getD i e0).v) ∧
      w.cell? ⟨b, o + i * 4 + 2, none⟩ = some iv ∧ w.cell? ⟨b, o + i * 4 + 3, none⟩ = some ov ∧ IntsV w iv (es.getD i e0).i ∧ IntsV w ov (es.getD i e0).o := by
  obtain ⟨xs, rfl, hr, hx⟩ := h
  have hil : i < xs.length := by simpa [eds] using hi
  obtain ⟨b, o, rfl, hb, hc⟩ := hr.at hil
  rw [eds_at, List.getD_eq_getElem?_getD, List.getElem?_eq_getElem hil]
  simp only [Option.getD_some]
  have hm := hx xs[i] (List.getElem_mem _)
  refine ⟨b, o, xs[i].iv, xs[i].ov, rfl, hb, ?_, ?_, ?_, ?_, hm.1, hm.2⟩
  · have := hc 0 (by omega)
    rw [h1, h2] at this
    exact this
  · have := hc 1 (by omega)
    rw [h1, h2] at this
    exact this
  · have := hc 2 (by omega)
    rw [h1, h2] at this
    exact this
  · have := hc 3 (by omega)
    rw [h1, h2] at this
    exact this
end Go.Proofs.YtghfifpicklonaaDoor

/-
  SimplifyGates in the reference. Conditions: at most 2,000,000 gates and outputs.
-/
namespace Go.Proofs.YtghfifpicklonaaDoor
open Go.RowKit
set_option linter.unusedVariables false
set_option maxRecDepth 100000

end Go.Proofs.YtghfifpicklonaaDoor

/-
  SimplifyGates in the reference: the whole function. Conditions: at most 2,000,000 gates and outputs.
-/
namespace Go.Proofs.YtghfifpicklonaaDoor
open Go.RowKit
set_option linter.unusedVariables false
set_option maxRecDepth 100000

end Go.Proofs.YtghfifpicklonaaDoor

/-
  What the exact laws on circuits ask of sizes, and the order of parts. Conditions: none.
-/
namespace Go.Proofs.YtghfifpicklonaaDoor
open Go.RowKit
set_option linter.unusedVariables false
set_option maxRecDepth 100000

end Go.Proofs.YtghfifpicklonaaDoor

/-
  How much a graph takes of a budget. Conditions: lengths are those of slices.
-/
namespace Go.Proofs.YtghfifpicklonaaDoor
open Go.RowKit
set_option linter.unusedVariables false
set_option maxRecDepth 100000

theorem bq4 {w : World} {k : Nat} {x y z u : Value} {t : TypeId} (h : w.heap[k]? = some (.cells #[x, y, z, u] t (0, 0))) :
    w.cell? ⟨k, 0, none⟩ = some x ∧ w.cell? ⟨k, 1, none⟩ = some y ∧ w.cell? ⟨k, 2, none⟩ = some z ∧ w.cell? ⟨k, 3, none⟩ = some u ∧ w.frozen? ⟨k, 0, none⟩ = false ∧ w.frozen? ⟨k, 1, none⟩ = false ∧ w.frozen? ⟨k, 2, none⟩ = false ∧ w.frozen? ⟨k, 3, none⟩ = false :=
  ⟨cell_of_row w k 0 _ _ _ h, cell_of_row w k 1 _ _ _ h, cell_of_row w k 2 _ _ _ h, cell_of_row w k 3 _ _ _ h, frozen_of_row w k 0 _ _ h, frozen_of_row w k 1 _ _ h, frozen_of_row w k 2 _ _ h, frozen_of_row w k 3 _ _ h⟩
def totE (e : Ed) : Nat := e.i.length + e.o.length
def totEs : List Ed → Nat
  | [] => 0
  | e :: es => totE e + totEs es
def totG (g : Gr) : Nat := g.es.length + totEs g.es + g.i.length + g.o.length
theorem totEs_take (es : List Ed) (k : Nat) (hk : k < es.length) : totEs (es.take (k + 1)) = totEs (es.take k) + totE (es.getD k e0) := by
  induction es generalizing k with
  | nil => simp at hk
  | cons e es ih =>
    cases k with
    | zero => simp [totEs]
    | succ k =>
      have := ih k (by simpa using hk)
      simp only [List.take_succ_cons, totEs, List.getD_cons_succ]
      omega
theorem totEs_le (es : List Ed) (k : Nat) : totEs (es.take k) ≤ totEs es := by
  induction es generalizing k with
  | nil => simp
  | cons e es ih =>
    cases k with
    | zero => simp [totEs]
    | succ k =>
      have := ih k
      simp only [List.take_succ_cons, totEs]
      omega
theorem tot_mem {es : List Ed} {e : Ed} (h : e ∈ es) : e.i.length + e.o.length ≤ totEs es := by
  induction es with
  | nil => cases h
  | cons x es ih =>
    unfold totEs totE
    rcases List.mem_cons.1 h with rfl | h
    · omega
    · have := ih h
      omega
def okEd (e : Ed) : Prop := e.i.length ≤ 9223372036854775807 ∧ e.o.length ≤ 9223372036854775807
theorem szEdge_any (k v : Int) (iv ov : Value) (e : Ed) (left : Int) (w : World) (hi : IntsV w iv e.i) (ho : IntsV w ov e.o) (h0 : 0 ≤ left) (h1 : left ≤ 1048576) (hok : okEd e) :
    Calls Tryd.prog 96 #[.agg #[.int .i64 k, .int .i64 v, iv, ov], .int .i64 left] w fun x w' => x = .returned (.int .i64 (lft left (totE e))) ∧ w.grownBy w' none := by
  obtain ⟨ia, ic, rfl⟩ := hi.shape
  obtain ⟨oa, oc, rfl⟩ := ho.shape
  obtain ⟨hk1, hk2⟩ := hok
  unfold totE lft
  clear hi ho
  generalize e.i.length = n1 at *
  generalize e.o.length = n2 at *
  have HC := Lib.hid fun W => szIntS_any ia n1 ic left W h0 h1 hk1
  by_cases h : left - n1 < 0
  · rw [if_pos (by omega)]
    rw [if_pos h] at HC
    go_enter Tryd.func96, Tryd.ntmps96
    go_wp2_with (go_at_call 52; refine (HC.out _).mono ?_; rintro e w' ⟨rfl, rfl⟩)
    go_ret
    exact ⟨rfl, gr1 _ _⟩
  · rw [if_neg h] at HC
    obtain ⟨m, hm⟩ : ∃ m, m = left - n1 := ⟨_, rfl⟩
    rw [← hm] at HC
    have hm0 : 0 ≤ m := by omega
    have HD := Lib.hid fun W => szIntS_any oa n2 oc m W (by omega) (by omega) hk2
    by_cases h' : m - n2 < 0
    · rw [if_pos h'] at HD
      rw [if_pos (by omega)]
      clear hm
      go_enter Tryd.func96, Tryd.ntmps96
      go_wp2_with (first
        | (go_at_call 52; with_reducible refine (HC.out _).mono ?_; rintro e w' ⟨rfl, rfl⟩)
        | (go_at_call 52; with_reducible refine (HD.out _).mono ?_; rintro e w' ⟨rfl, rfl⟩))
      go_ret
      exact ⟨rfl, gr1 _ _⟩
    · rw [if_neg h'] at HD
      rw [if_neg (by omega), show left - ((n1 + n2 : Nat) : Int) = m - n2 by omega]
      obtain ⟨m2, hm2⟩ : ∃ m2, m2 = m - n2 := ⟨_, rfl⟩
      rw [← hm2] at HD ⊢
      have hm20 : 0 ≤ m2 := by omega
      clear hm hm2
      go_enter Tryd.func96, Tryd.ntmps96
      go_wp2_with (first
        | (go_at_call 52; with_reducible refine (HC.out _).mono ?_; rintro e w' ⟨rfl, rfl⟩)
        | (go_at_call 52; with_reducible refine (HD.out _).mono ?_; rintro e w' ⟨rfl, rfl⟩))
      go_ret
      exact ⟨rfl, gr1 _ _⟩
set_option maxHeartbeats 2000000 in
theorem szEdgeS_any (a : Option Addr) (n c : Nat) (es : List Ed) (left : Int) (w : World) (hv : RdE argEdE w (.slice a n c) es) (hn : n = es.length) (h0 : 0 ≤ left) (h1 : left ≤ 1048576) (hl : n ≤ 9223372036854775807) (hok : ∀ e ∈ es, okEd e) :
    Calls Tryd.prog 51 #[.slice a n c, .int .i64 left] w fun x w' => x = .returned (.int .i64 (lft left (es.length + totEs es))) ∧ w.grownBy w' none := by
  have HV := Lib.hid hv; have HOK := Lib.hid hok
  have HN := Lib.hid hn
  clear hv hok
  have hwr := wrap_id (x := left - n) (by omega) (by omega)
  by_cases h : left - n < 0
  · rw [show lft left (es.length + totEs es) = -1 by unfold lft; rw [if_pos (by omega)]]
    clear hn
    go_enter Tryd.func51, Tryd.ntmps51
    go_wp2
    go_ret
    exact ⟨rfl, grownBy_refl _ _⟩
  · obtain ⟨m, hm⟩ : ∃ m, m = left - n := ⟨_, rfl⟩
    have hre : lft left (es.length + totEs es) = lft m (totEs es) := by
      unfold lft
      rw [← hn, show left - ((n + totEs es : Nat) : Int) = m - (totEs es : Int) by omega]
    rw [hre]
    have hm0 : 0 ≤ m := by omega
    have hm1 : m ≤ 1048576 := by omega
    have HMM := Lib.hid hm
    have hwr2 : IntKind.i64.wrap (left - (n : Int)) = m := by rw [hm]; exact hwr
    have hm00 : ¬ m < 0 := by omega
    clear hre hn hwr h hm
    go_enter Tryd.func51, Tryd.ntmps51
    go_wp2_with fail
    go_loopw [1, 5] (fun lv i wr => ∃ k : Nat, k ≤ n ∧ i = .int .i64 k ∧ lv = .int .i64 (m - totEs (es.take k)) ∧ 0 ≤ m - (totEs (es.take k) : Int) ∧ w.grownBy wr none) (fun _ i _ => n - (intOf i).toNat)
    case atStart => exact ⟨0, by omega, rfl, by simp [totEs], by simp [totEs]; exact hm0, grownBy_refl _ _⟩
    case round =>
      obtain ⟨k, hk, rfl, rfl, hp, hg⟩ := hrel
      have HG := Lib.hid hg
      clear hg
      by_cases hlt : k < n
      · have hke : k < es.length := by rw [← HN.out]; exact hlt
        obtain ⟨b, o, iv, ov, rfl, _, q0, q1, q2, q3, hi, ho⟩ := (HV.out.carry HG.out).at rfl rfl hke
        have HT := Lib.hid (totEs_take es k hke)
        have HLE := Lib.hid (totEs_le es (k + 1))
        have HC := Lib.hid (szEdge_any (es.getD k e0).k (es.getD k e0).v iv ov (es.getD k e0) (m - totEs (es.take k)) wr hi ho hp (by omega) (HOK.out _ (by rw [List.getD_eq_getElem?_getD, List.getElem?_eq_getElem hke]; exact List.getElem_mem _)))
        generalize es.getD k e0 = e at *
        generalize totEs (es.take k) = t at *
        generalize hS : totEs (es.take (k + 1)) = s at *
        clear hi ho hke
        by_cases h2 : m - (s : Int) < 0
        · have he : lft (m - t) (totE e) = -1 := by unfold lft; rw [if_pos (by have := HT.out; omega)]
          rw [he] at HC
          have hfin : lft m (totEs es) = -1 := by unfold lft; rw [if_pos (by have := HLE.out; omega)]
          have HF := Lib.hid hfin
          clear he hfin hp h2
          obtain ⟨ek, ev, ei, eo⟩ := e
          simp only at q0 q1 HC
          go_wp2_with (
            go_at_call 96
            with_reducible refine HC.out.mono ?_
            rintro x w2 ⟨rfl, hg2⟩
            have HG2 := Lib.hid (grownBy_trans HG.out hg2)
            clear hg2)
          go_ret
          exact ⟨(by rw [HF.out]; try rfl), HG2.out⟩
        · have he : lft (m - t) (totE e) = m - s := by unfold lft; rw [if_neg (by have := HT.out; omega)]; have := HT.out; omega
          rw [he] at HC
          have hp2 : ¬ (m - (s : Int)) < 0 := h2
          obtain ⟨r, hr⟩ : ∃ r, r = m - (s : Int) := ⟨_, rfl⟩
          rw [← hr] at HC hp2
          have HR := Lib.hid hr
          clear he h2 hr hp
          obtain ⟨ek, ev, ei, eo⟩ := e
          simp only at q0 q1 HC
          go_wp2_with (
            go_at_call 96
            with_reducible refine HC.out.mono ?_
            rintro x w2 ⟨rfl, hg2⟩
            have HG2 := Lib.hid (grownBy_trans HG.out hg2)
            clear hg2)
          go_roundw
          case rel => exact ⟨k + 1, by omega, by go_num, by rw [hS, HR.out], by rw [hS, ← HR.out]; omega, HG2.out⟩
          case measure => simp [intOf]; omega
      · have hkn : k = n := by omega
        subst hkn
        have htk : es.take k = es := List.take_of_length_le (by rw [← HN.out]; exact Nat.le_refl _)
        have hfin : lft m (totEs es) = m - totEs es := by unfold lft; rw [htk] at hp; rw [if_neg (by omega)]
        rw [htk]
        have HF := Lib.hid hfin
        clear hfin hlt
        go_wp2
        go_ret
        exact ⟨(by rw [HF.out]; try rfl), HG.out⟩
end Go.Proofs.YtghfifpicklonaaDoor

/-
  How much a graph takes of a budget; own copies of edges and graphs. Conditions: lengths are small.
-/
namespace Go.Proofs.YtghfifpicklonaaDoor
open Go.RowKit
set_option linter.unusedVariables false
set_option maxRecDepth 100000

theorem info_edge : (Tryd.prog.info? edgeE.ty).map (fun i => (i.zero, i.size, i.bytes)) = some (some (.agg #[.int .i64 0, .int .i64 0, .slice none 0 0, .slice none 0 0]), edgeE.sz, 64) := by kernel_rfl
theorem zeroEdge_cells : (Value.agg #[.int .i64 0, .int .i64 0, .slice none 0 0, .slice none 0 0]).cells.toList = edgeE.cs xe0 := rfl
def edV (x : XE) : Value := .agg #[.int .i64 x.ed.k, .int .i64 x.ed.v, x.iv, x.ov]
theorem edge_cells {w : World} {g n cap B : Nat} {xs : List XE} (h : OwnR edgeE B w (.slice (some ⟨g, 0, none⟩) n cap) xs) (hn : n = xs.length) {i : Nat} (hi : i < xs.length) :
    w.cell? ⟨g, i * 4, none⟩ = some (.int .i64 (xs.getD i xe0).ed.k) ∧ w.cell? ⟨g, i * 4 + 1, none⟩ = some (.int .i64 (xs.getD i xe0).ed.v) ∧
      w.cell? ⟨g, i * 4 + 2, none⟩ = some (xs.getD i xe0).iv ∧ w.cell? ⟨g, i * 4 + 3, none⟩ = some (xs.getD i xe0).ov := by
  have e : xs.getD i xe0 = xs[i] := by rw [List.getD_eq_getElem?_getD, List.getElem?_eq_getElem hi]; rfl
  rw [e]
  have hc := fun j hj => h.cell hn (i := i) (j := j) hi hj
  exact ⟨hc 0 (by decide), hc 1 (by decide), hc 2 (by decide), hc 3 (by decide)⟩
theorem edge_free {w : World} {g n cap B : Nat} {xs : List XE} (h : OwnR edgeE B w (.slice (some ⟨g, 0, none⟩) n cap) xs) (hn : n = xs.length) (i : Nat) :
    w.frozen? ⟨g, i * 4, none⟩ = false ∧ w.frozen? ⟨g, i * 4 + 1, none⟩ = false ∧ w.frozen? ⟨g, i * 4 + 2, none⟩ = false ∧ w.frozen? ⟨g, i * 4 + 3, none⟩ = false :=
  ⟨h.free hn _, h.free hn _, h.free hn _, h.free hn _⟩
/-- all four cells of an edge are written -/
theorem Sep.setX {w : World} {g n cap : Nat} {xs : List XE} {l : List Asrt} (h : Sep w (OR edgeE (.slice (some ⟨g, 0, none⟩) n cap) xs :: l)) (hn : n = xs.length) {i : Nat} (hi : i < xs.length) (y : XE) :
    Sep ((((w.setCell ⟨g, i * 4, none⟩ (.int .i64 y.ed.k)).setCell ⟨g, i * 4 + 1, none⟩ (.int .i64 y.ed.v)).setCell ⟨g, i * 4 + 2, none⟩ y.iv).setCell ⟨g, i * 4 + 3, none⟩ y.ov)
      (OR edgeE (.slice (some ⟨g, 0, none⟩) n cap) (xs.set i y) :: l) := by
  have h1 := h.setR (E := edgeE) hn (i := i) (j := 0) (y := ⟨⟨y.ed.k, xs[i].ed.v, [], []⟩, xs[i].iv, xs[i].ov⟩) (u := .int .i64 y.ed.k) hi (by decide) rfl
  have h2 := h1.setR (E := edgeE) (by simpa using hn) (i := i) (j := 1) (y := ⟨⟨y.ed.k, y.ed.v, [], []⟩, xs[i].iv, xs[i].ov⟩) (u := .int .i64 y.ed.v) (by simpa using hi) (by decide) (by simp [edgeE, edgeC])
  have h3 := h2.setR (E := edgeE) (by simpa using hn) (i := i) (j := 2) (y := ⟨⟨y.ed.k, y.ed.v, [], []⟩, y.iv, xs[i].ov⟩) (u := y.iv) (by simpa using hi) (by decide) (by simp [edgeE, edgeC])
  have h4 := h3.setR (E := edgeE) (by simpa using hn) (i := i) (j := 3) (y := y) (u := y.ov) (by simpa using hi) (by decide) (by simp [edgeE, edgeC])
  simp only [List.set_set] at h4
  exact h4
def okG (g : Gr) : Prop := g.es.length ≤ 9223372036854775807 ∧ (∀ e ∈ g.es, okEd e) ∧ g.i.length ≤ 9223372036854775807 ∧ g.o.length ≤ 9223372036854775807
theorem szGraph_any (n : Int) (ev iv ov : Value) (g : Gr) (left : Int) (w : World) (he : RdE argEdE w ev g.es) (hi : IntsV w iv g.i) (ho : IntsV w ov g.o) (h0 : 0 ≤ left) (h1 : left ≤ 1048576) (hok : okG g) :
    Calls Tryd.prog 22 #[grV n ev iv ov, .int .i64 left] w fun x w' => x = .returned (.int .i64 (lft left (totG g))) ∧ w.grownBy w' none := by
  obtain ⟨ea, ec, rfl⟩ := he.shape
  obtain ⟨ia, ic, rfl⟩ := hi.shape
  obtain ⟨oa, oc, rfl⟩ := ho.shape
  obtain ⟨hk1, hk2, hk3, hk4⟩ := hok
  have HA := Lib.hid fun W (h : w.grownBy W none) => szEdgeS_any ea g.es.length ec g.es left W (he.carry h) rfl h0 h1 hk1 hk2
  unfold totG grV
  clear he hi ho hk2
  generalize g.es.length + totEs g.es = t1 at *
  generalize g.es.length = t0 at *
  generalize g.i.length = n1 at *
  generalize g.o.length = n2 at *
  have HK := Lib.hid fun o => gr1 w o
  by_cases h : left - t1 < 0
  · rw [show lft left (t1 + n1 + n2) = -1 by unfold lft; rw [if_pos (by omega)]]
    rw [show lft left t1 = -1 by unfold lft; rw [if_pos h]] at HA
    go_enter Tryd.func22, Tryd.ntmps22
    go_wp2_with (
      go_at_call 51
      with_reducible refine (HA.out _ (HK.out _)).mono ?_
      rintro e w2 ⟨rfl, hg2⟩
      have HG2 := Lib.hid (grownBy_trans (HK.out _) hg2)
      clear hg2)
    go_ret
    exact ⟨rfl, HG2.out⟩
  · rw [show lft left t1 = left - t1 by unfold lft; rw [if_neg h]] at HA
    obtain ⟨m, hm⟩ : ∃ m, m = left - (t1 : Int) := ⟨_, rfl⟩
    rw [← hm] at HA
    have hm0 : ¬ m < 0 := by omega
    have HC := Lib.hid fun W => szIntS_any ia n1 ic m W (by omega) (by omega) hk3
    by_cases h' : m - n1 < 0
    · rw [if_pos h'] at HC
      rw [show lft left (t1 + n1 + n2) = -1 by unfold lft; rw [if_pos (by omega)]]
      clear hm h h'
      have HS := Lib.hid ((Sep.start w).box #[.int .i64 n, .slice ea t0 ec, .slice ia n1 ic, .slice oa n2 oc] 51)
      go_enter Tryd.func22, Tryd.ntmps22
      go_wp2_with (first
        | (go_at_call 51
           with_reducible refine (HA.out _ (HK.out _)).mono ?_
           rintro e w2 ⟨rfl, hg2⟩
           have hs2 := HS.out.grown hg2
           have HG2 := Lib.hid (show w.grownBy w2 none from hs2.tl.hd)
           obtain ⟨x0, x1, x2, x3, _⟩ := bq4 hs2.hd
           clear hg2 hs2)
        | (go_at_call 52; with_reducible refine (HC.out _).mono ?_; rintro e w' ⟨rfl, rfl⟩))
      go_ret
      exact ⟨rfl, HG2.out⟩
    · rw [if_neg h'] at HC
      obtain ⟨m2, hm2⟩ : ∃ m2, m2 = m - (n1 : Int) := ⟨_, rfl⟩
      rw [← hm2] at HC
      have hm20 : ¬ m2 < 0 := by omega
      have HD := Lib.hid fun W => szIntS_any oa n2 oc m2 W (by omega) (by omega) hk4
      by_cases h2 : m2 - n2 < 0
      · rw [if_pos h2] at HD
        rw [show lft left (t1 + n1 + n2) = -1 by unfold lft; rw [if_pos (by omega)]]
        clear hm h h' hm2 h2
        have HS := Lib.hid ((Sep.start w).box #[.int .i64 n, .slice ea t0 ec, .slice ia n1 ic, .slice oa n2 oc] 51)
        go_enter Tryd.func22, Tryd.ntmps22
        go_wp2_with (first
          | (go_at_call 51
             with_reducible refine (HA.out _ (HK.out _)).mono ?_
             rintro e w2 ⟨rfl, hg2⟩
             have hs2 := HS.out.grown hg2
             have HG2 := Lib.hid (show w.grownBy w2 none from hs2.tl.hd)
             obtain ⟨x0, x1, x2, x3, _⟩ := bq4 hs2.hd
             clear hg2 hs2)
          | (go_at_call 52; with_reducible refine (HC.out _).mono ?_; rintro e w' ⟨rfl, rfl⟩)
          | (go_at_call 52; with_reducible refine (HD.out _).mono ?_; rintro e w' ⟨rfl, rfl⟩))
        go_ret
        exact ⟨rfl, HG2.out⟩
      · rw [if_neg h2] at HD
        rw [show lft left (t1 + n1 + n2) = m2 - n2 by unfold lft; rw [if_neg (by omega)]; omega]
        obtain ⟨m3, hm3⟩ : ∃ m3, m3 = m2 - (n2 : Int) := ⟨_, rfl⟩
        rw [← hm3] at HD ⊢
        have hm30 : ¬ m3 < 0 := by omega
        clear hm h h' hm2 h2 hm3
        have HS := Lib.hid ((Sep.start w).box #[.int .i64 n, .slice ea t0 ec, .slice ia n1 ic, .slice oa n2 oc] 51)
        go_enter Tryd.func22, Tryd.ntmps22
        go_wp2_with (first
          | (go_at_call 51
             with_reducible refine (HA.out _ (HK.out _)).mono ?_
             rintro e w2 ⟨rfl, hg2⟩
             have hs2 := HS.out.grown hg2
             have HG2 := Lib.hid (show w.grownBy w2 none from hs2.tl.hd)
             obtain ⟨x0, x1, x2, x3, _⟩ := bq4 hs2.hd
             clear hg2 hs2)
          | (go_at_call 52; with_reducible refine (HC.out _).mono ?_; rintro e w' ⟨rfl, rfl⟩)
          | (go_at_call 52; with_reducible refine (HD.out _).mono ?_; rintro e w' ⟨rfl, rfl⟩))
        go_ret
        exact ⟨rfl, HG2.out⟩
end Go.Proofs.YtghfifpicklonaaDoor

/-
  Generators and edges in the program. Conditions: none.
-/
namespace Go.Proofs.YtghfifpicklonaaDoor
open Go.RowKit
set_option linter.unusedVariables false
set_option maxRecDepth 100000

theorem isGenerator_any (k : Int) (w : World) : Calls Tryd.prog 155 #[.int .i64 k] w fun e w' => e = .returned (.bool (inB k 3 14)) ∧ w' = w := by
  have HW := Lib.hid fun W => within_any k 3 14 W
  rw [show decide (3 ≤ k ∧ k ≤ 14) = inB k 3 14 from rfl] at HW
  generalize inB k 3 14 = b at *
  go_enter Tryd.func155, Tryd.ntmps155
  go_wp2_with (go_at_call 74; with_reducible refine (HW.out _).mono ?_; rintro e w3 ⟨rfl, rfl⟩)
  go_ret
  exact ⟨rfl, rfl⟩
def hvB (k : Int) : Bool := decide (k = 7 ∨ k = 13)
theorem hasValue_any (k : Int) (w : World) : Calls Tryd.prog 105 #[.int .i64 k] w fun e w' => e = .returned (.bool (hvB k)) ∧ w' = w := by
  by_cases h7 : k = 7
  · subst h7
    go_enter Tryd.func105, Tryd.ntmps105
    go_wp2
    go_ret
    exact ⟨rfl, rfl⟩
  · have e7 : (k == 7) = false := by simpa using h7
    by_cases h13 : k = 13
    · subst h13
      go_enter Tryd.func105, Tryd.ntmps105
      go_wp2
      go_ret
      exact ⟨rfl, rfl⟩
    · have e13 : (k == 13) = false := by simpa using h13
      have hv : hvB k = false := decide_eq_false (by omega)
      rw [hv]
      clear h7 h13 hv
      go_enter Tryd.func105, Tryd.ntmps105
      go_wp2
      go_ret
      exact ⟨rfl, rfl⟩
theorem valB_hv (k v : Int) : valB k v = if hvB k = true then inB v 0 96 else decide (v = 0) := by
  unfold valB hvB
  by_cases h : k = 7 ∨ k = 13 <;> simp [h]
theorem isGeneratorValue_any (k v : Int) (w : World) : Calls Tryd.prog 156 #[.int .i64 k, .int .i64 v] w fun e w' => e = .returned (.bool (valB k v)) ∧ w' = w := by
  have HH := Lib.hid fun W => hasValue_any k W
  have HW := Lib.hid fun W => within_any v 0 96 W
  rw [show decide (0 ≤ v ∧ v ≤ 96) = inB v 0 96 from rfl] at HW
  rw [valB_hv]
  cases hb : hvB k
  · rw [hb] at HH
    clear hb
    by_cases hv : v = 0
    · subst hv
      go_enter Tryd.func156, Tryd.ntmps156
      go_wp2_with (go_at_call 105; with_reducible refine (HH.out _).mono ?_; rintro e w3 ⟨rfl, rfl⟩)
      go_ret
      exact ⟨rfl, rfl⟩
    · have ev : (v == 0) = false := by simpa using hv
      have hd : decide (v = 0) = false := decide_eq_false hv
      rw [hd]
      clear hv hd
      go_enter Tryd.func156, Tryd.ntmps156
      go_wp2_with (go_at_call 105; with_reducible refine (HH.out _).mono ?_; rintro e w3 ⟨rfl, rfl⟩)
      go_ret
      exact ⟨rfl, rfl⟩
  · rw [hb] at HH
    clear hb
    rw [if_pos rfl]
    generalize inB v 0 96 = b at *
    go_enter Tryd.func156, Tryd.ntmps156
    go_wp2_with (first
      | (go_at_call 105; with_reducible refine (HH.out _).mono ?_; rintro e w3 ⟨rfl, rfl⟩)
      | (go_at_call 74; with_reducible refine (HW.out _).mono ?_; rintro e w3 ⟨rfl, rfl⟩))
    go_ret
    exact ⟨rfl, rfl⟩
set_option maxHeartbeats 2000000 in
theorem generatorWires_any (k : Int) (w : World) (h : inB k 3 14 = true) : Calls Tryd.prog 157 #[.int .i64 k] w fun e w' => e = .returned (.agg #[.int .i64 (edW k).1, .int .i64 (edW k).2]) ∧ w.grownBy w' none := by
  rw [inB_iff] at h
  have hk : k = 3 ∨ k = 4 ∨ k = 5 ∨ k = 6 ∨ k = 7 ∨ k = 8 ∨ k = 9 ∨ k = 10 ∨ k = 11 ∨ k = 12 ∨ k = 13 ∨ k = 14 := by omega
  clear h
  rcases hk with rfl | rfl | rfl | rfl | rfl | rfl | rfl | rfl | rfl | rfl | rfl | rfl
  all_goals
    go_enter Tryd.func157, Tryd.ntmps157
    go_wp2_with fail
    refine bodyPost_ret_by (v := .agg #[.int .i64 _, .int .i64 _]) ?_ rfl ⟨rfl, ?_⟩
    · simp [results, go_sem, *, edW]
    · first
        | exact gr3 _ _ _ _
        | exact gr2 _ _ _
set_option maxHeartbeats 4000000 in
theorem isEdge_any (k v : Int) (iv ov : Value) (is os : List Int) (w : World) (hi : IntsV w iv is) (ho : IntsV w ov os) :
    Calls Tryd.prog 134 #[.agg #[.int .i64 k, .int .i64 v, iv, ov]] w fun e w' => e = .returned (.bool (edB ⟨k, v, is, os⟩)) ∧ w.grownBy w' none := by
  obtain ⟨a1, c1, rfl⟩ := hi.shape
  obtain ⟨a2, c2, rfl⟩ := ho.shape
  clear hi ho
  have HA := Lib.hid fun W => isGenerator_any k W
  have HB := Lib.hid fun W => isGeneratorValue_any k v W
  have HS0 := Lib.hid ((Sep.start w).box #[.int .i64 k, .int .i64 v, .slice a1 is.length c1, .slice a2 os.length c2] 84)
  have HK0 := Lib.hid (show w.grownBy _ none from HS0.out.tl.hd)
  have hed : edB ⟨k, v, is, os⟩ = (inB k 3 14 && (valB k v && decide ((is.length, os.length) = edW k))) := by unfold edB; rw [Bool.and_assoc]
  rw [hed]
  clear hed
  generalize is.length = n1 at *
  generalize os.length = n2 at *
  cases h1 : inB k 3 14
  · rw [h1] at HA
    clear h1
    go_enter Tryd.func134, Tryd.ntmps134
    go_wp2_with (go_at_call 155; with_reducible refine (HA.out _).mono ?_; rintro e w3 ⟨rfl, rfl⟩)
    go_ret
    exact ⟨rfl, HK0.out⟩
  · rw [h1] at HA
    have HC := Lib.hid fun W => generatorWires_any k W h1
    clear h1
    cases h2 : valB k v
    · rw [h2] at HB
      clear h2
      go_enter Tryd.func134, Tryd.ntmps134
      go_wp2_with (first
        | (go_at_call 155; with_reducible refine (HA.out _).mono ?_; rintro e w3 ⟨rfl, rfl⟩)
        | (go_at_call 156; with_reducible refine (HB.out _).mono ?_; rintro e w3 ⟨rfl, rfl⟩))
      go_ret
      exact ⟨rfl, HK0.out⟩
    · rw [h2] at HB
      clear h2
      generalize edW k = ew at *
      obtain ⟨e1, e2⟩ := ew
      simp only at HC
      have hcmp : ∀ W, (binOp .eql 174 (.agg #[.int .i64 e1, .int .i64 e2]) (.agg #[.int .i64 n1, .int .i64 n2])).run Tryd.prog W = .ok (.bool (decide ((n1, n2) = (e1, e2)))) W := by
        intro W
        by_cases a : n1 = e1 <;> by_cases b : n2 = e2
        · subst a b; simp [go_sem]
        · have b' : ¬ (e2 : Int) = n2 := by omega
          simp [go_sem, a, b, b']
        · have a' : ¬ (e1 : Int) = n1 := by omega
          simp [go_sem, a, b, a']
        · have a' : ¬ (e1 : Int) = n1 := by omega
          simp [go_sem, a, b, a']
      generalize decide ((n1, n2) = (e1, e2)) = d at *
      go_enter Tryd.func134, Tryd.ntmps134
      go_upto_region 3 with (first
        | (go_at_call 155; with_reducible refine (HA.out _).mono ?_; rintro e w3 ⟨rfl, rfl⟩)
        | (go_at_call 156; with_reducible refine (HB.out _).mono ?_; rintro e w3 ⟨rfl, rfl⟩))
      have hs1 := HS0.out.dr
      obtain ⟨x0, x1, x2, x3, _⟩ := bq4 hs1.hd
      have HS1 := Lib.hid hs1
      clear hs1
      go_region_law (
        (try go_simp)
        go_at_call 157
        with_reducible refine (HC.out _).mono ?_
        rintro e w5 ⟨rfl, hg5⟩
        have hs5 := HS1.out.grown hg5
        obtain ⟨y0, y1, y2, y3, _⟩ := bq4 hs5.hd
        have HK5 := Lib.hid (show w.grownBy w5 none from hs5.tl.hd)
        clear hg5 hs5)
      all_goals
        go_wp2_with fail
        go_ret
        exact ⟨(by simp only [Bool.true_and]; rfl), HK5.out⟩
end Go.Proofs.YtghfifpicklonaaDoor

/-
  Kinds, leaves and edges in the reference. Conditions: lengths are small where they are asked.
-/
namespace Go.Proofs.YtghfifpicklonaaDoor
open Go.RowKit
set_option linter.unusedVariables false
set_option maxRecDepth 100000

theorem tmKind_any (k : Int) (w : World) (h : inB k 3 14 = true) : Calls Tryd.prog 153 #[.int .i64 k] w fun e w' => e = .returned (.tuple #[.int .i64 (edW k).1, .int .i64 (edW k).2]) ∧ w' = w := by
  rw [inB_iff] at h
  have hk : k = 3 ∨ k = 4 ∨ k = 5 ∨ k = 6 ∨ k = 7 ∨ k = 8 ∨ k = 9 ∨ k = 10 ∨ k = 11 ∨ k = 12 ∨ k = 13 ∨ k = 14 := by omega
  clear h
  rcases hk with rfl | rfl | rfl | rfl | rfl | rfl | rfl | rfl | rfl | rfl | rfl | rfl
  all_goals
    go_enter Tryd.func153, Tryd.ntmps153
    go_wp2_with fail
    refine bodyPost_ret_by (v := .tuple #[.int .i64 _, .int .i64 _]) ?_ rfl ⟨rfl, rfl⟩
    simp [results, go_sem, *, edW]
theorem tmLeaf_any (k v : Int) (w : World) (h : inB k 3 14 = true) : Calls Tryd.prog 152 #[.agg #[.int .i64 k, .int .i64 v, .string ⟨#[]⟩]] w fun e w' => e = .returned (.bool (valB k v)) ∧ w.grownBy w' none := by
  have hk := inB_iff.1 h
  have HA := Lib.hid fun W => l1In_any k 1 14 W
  rw [decide_eq_true (show 1 ≤ k ∧ k ≤ 14 by omega)] at HA
  have HB := Lib.hid fun W => l1In_any v 0 96 W
  rw [show decide (0 ≤ v ∧ v ≤ 96) = inB v 0 96 from rfl] at HB
  have e1 : (k == 1) = false := by simp; omega
  rw [valB_hv]
  by_cases h7 : k = 7
  · subst h7
    rw [show hvB 7 = true from rfl, if_pos rfl]
    generalize inB v 0 96 = b at *
    clear h hk
    go_enter Tryd.func152, Tryd.ntmps152
    go_wp2_with (first
      | (go_at_call 68; with_reducible refine (HA.out _).mono ?_; rintro e w3 ⟨rfl, rfl⟩)
      | (go_at_call 68; with_reducible refine (HB.out _).mono ?_; rintro e w3 ⟨rfl, rfl⟩))
    go_ret
    exact ⟨rfl, gr1 _ _⟩
  · have e7 : (k == 7) = false := by simpa using h7
    by_cases h13 : k = 13
    · subst h13
      rw [show hvB 13 = true from rfl, if_pos rfl]
      generalize inB v 0 96 = b at *
      clear h hk
      go_enter Tryd.func152, Tryd.ntmps152
      go_wp2_with (first
        | (go_at_call 68; with_reducible refine (HA.out _).mono ?_; rintro e w3 ⟨rfl, rfl⟩)
        | (go_at_call 68; with_reducible refine (HB.out _).mono ?_; rintro e w3 ⟨rfl, rfl⟩))
      go_ret
      exact ⟨rfl, gr1 _ _⟩
    · have e13 : (k == 13) = false := by simpa using h13
      rw [show hvB k = false from decide_eq_false (by omega), if_neg (by simp)]
      clear h hk h7 h13
      by_cases hv : v = 0
      · subst hv
        go_enter Tryd.func152, Tryd.ntmps152
        go_wp2_with (go_at_call 68; with_reducible refine (HA.out _).mono ?_; rintro e w3 ⟨rfl, rfl⟩)
        go_ret
        exact ⟨rfl, gr1 _ _⟩
      · have ev : (v == 0) = false := by simpa using hv
        rw [decide_eq_false hv]
        clear hv
        go_enter Tryd.func152, Tryd.ntmps152
        go_wp2_with (go_at_call 68; with_reducible refine (HA.out _).mono ?_; rintro e w3 ⟨rfl, rfl⟩)
        go_ret
        exact ⟨rfl, gr1 _ _⟩
theorem l1All_rng (n : Int) (v : Value) (zs : List Int) (w : World) (hv : IntsV w v zs) (hl : zs.length ≤ 1000000) : Calls Tryd.prog 99 #[v, .int .i64 0, .int .i64 (n - 1)] w fun e w' => e = .returned (.bool (rngB n zs)) ∧ w = w' :=
  l1All_any 0 (n - 1) v zs w hv hl
set_option maxHeartbeats 4000000 in
theorem hgEdge_any (n : Int) (iv ov : Value) (x : Ed) (w : World) (hi : IntsV w iv x.i) (ho : IntsV w ov x.o) (hn0 : 0 ≤ n) (hn1 : n ≤ 100) :
    Calls Tryd.prog 132 #[.agg #[.int .i64 x.k, .int .i64 x.v, iv, ov], .int .i64 n] w fun e w' => e = .returned (.bool (edB x && (rngB n x.i && rngB n x.o))) ∧ w.grownBy w' none := by
  obtain ⟨k, v, is, os⟩ := x
  simp only at hi ho ⊢
  have HI := Lib.hid hi; have HO := Lib.hid ho
  obtain ⟨a1, c1, rfl⟩ := hi.shape
  obtain ⟨a2, c2, rfl⟩ := ho.shape
  clear hi ho
  have HA := Lib.hid fun W => l1In_any k 3 14 W
  rw [show decide (3 ≤ k ∧ k ≤ 14) = inB k 3 14 from rfl] at HA
  have HS0 := Lib.hid ((Sep.start w).box #[.int .i64 k, .int .i64 v, .slice a1 is.length c1, .slice a2 os.length c2] 84)
  have HK0 := Lib.hid (show w.grownBy _ none from HS0.out.tl.hd)
  have hed : edB ⟨k, v, is, os⟩ = (inB k 3 14 && (valB k v && decide ((is.length, os.length) = edW k))) := by unfold edB; rw [Bool.and_assoc]
  rw [hed]
  have hwr : IntKind.i64.wrap (n - 1) = n - 1 := by rw [IntKind.wrap_i64]; omega
  clear hed
  cases h1 : inB k 3 14
  · rw [h1] at HA
    rw [Bool.false_and, Bool.false_and]
    clear h1
    generalize is.length = n1 at *
    generalize os.length = n2 at *
    go_enter Tryd.func132, Tryd.ntmps132
    go_wp2_with (go_at_call 68; with_reducible refine (HA.out _).mono ?_; rintro e w3 ⟨rfl, rfl⟩)
    go_ret
    exact ⟨rfl, HK0.out⟩
  · rw [h1] at HA
    rw [Bool.true_and]
    have HB := Lib.hid fun W => tmLeaf_any k v W h1
    have HC := Lib.hid fun W => tmKind_any k W h1
    clear h1
    cases h2 : valB k v
    · rw [h2] at HB
      rw [Bool.false_and, Bool.false_and]
      clear h2
      generalize is.length = n1 at *
      generalize os.length = n2 at *
      go_enter Tryd.func132, Tryd.ntmps132
      go_wp2_with (first
        | (go_at_call 68; with_reducible refine (HA.out _).mono ?_; rintro e w3 ⟨rfl, rfl⟩)
        | (go_at_call 152
           with_reducible refine (HB.out _).mono ?_
           rintro e w4 ⟨rfl, hg4⟩
           have HK4 := Lib.hid (grownBy_trans HK0.out hg4)
           clear hg4))
      go_ret
      exact ⟨rfl, HK4.out⟩
    · rw [h2] at HB
      rw [Bool.true_and]
      clear h2
      have hew : (edW k).1 ≤ 2 ∧ (edW k).2 ≤ 2 := by unfold edW; (repeat' split) <;> simp
      generalize edW k = ew at *
      obtain ⟨m1, m2⟩ := ew
      simp only at HC hew
      by_cases hn1' : is.length = m1
      · by_cases hn2' : os.length = m2
        · rw [decide_eq_true (show (is.length, os.length) = (m1, m2) by rw [hn1', hn2']), Bool.true_and]
          have HAI := Lib.hid fun W (h : w.grownBy W none) => l1All_rng n _ is W (HI.out.carry h) (by omega)
          have HAO := Lib.hid fun W (h : w.grownBy W none) => l1All_rng n _ os W (HO.out.carry h) (by omega)
          rw [hn1', hn2'] at HS0 HK0 ⊢
          rw [hn1'] at HAI
          rw [hn2'] at HAO
          clear hew hn1' hn2'
          cases hb1 : rngB n is
          · rw [hb1] at HAI
            clear hb1
            go_enter Tryd.func132, Tryd.ntmps132
            go_wp2_with (first
              | (go_at_call 68; with_reducible refine (HA.out _).mono ?_; rintro e w3 ⟨rfl, rfl⟩)
              | (go_at_call 152
                 with_reducible refine (HB.out _).mono ?_
                 rintro e w4 ⟨rfl, hg4⟩
                 have hs4 := HS0.out.grown hg4
                 have HK4 := Lib.hid (grownBy_trans HK0.out hg4)
                 obtain ⟨x0, x1, x2, x3, _⟩ := bq4 hs4.hd
                 clear hg4 hs4)
              | (go_at_call 153; with_reducible refine (HC.out _).mono ?_; rintro e w3 ⟨rfl, rfl⟩)
              | (go_at_call 99; with_reducible refine (HAI.out _ HK4.out).mono ?_; rintro e w3 ⟨rfl, rfl⟩))
            go_ret
            exact ⟨rfl, HK4.out⟩
          · rw [hb1] at HAI
            rw [Bool.true_and]
            generalize rngB n os = b2 at *
            clear hb1
            go_enter Tryd.func132, Tryd.ntmps132
            go_wp2_with (first
              | (go_at_call 68; with_reducible refine (HA.out _).mono ?_; rintro e w3 ⟨rfl, rfl⟩)
              | (go_at_call 152
                 with_reducible refine (HB.out _).mono ?_
                 rintro e w4 ⟨rfl, hg4⟩
                 have hs4 := HS0.out.grown hg4
                 have HK4 := Lib.hid (grownBy_trans HK0.out hg4)
                 obtain ⟨x0, x1, x2, x3, _⟩ := bq4 hs4.hd
                 clear hg4 hs4)
              | (go_at_call 153; with_reducible refine (HC.out _).mono ?_; rintro e w3 ⟨rfl, rfl⟩)
              | (go_at_call 99; with_reducible refine (HAI.out _ HK4.out).mono ?_; rintro e w3 ⟨rfl, rfl⟩)
              | (go_at_call 99; with_reducible refine (HAO.out _ HK4.out).mono ?_; rintro e w3 ⟨rfl, rfl⟩))
            go_ret
            exact ⟨rfl, HK4.out⟩
        · rw [decide_eq_false (show ¬ (is.length, os.length) = (m1, m2) by simp [hn2']), Bool.false_and]
          have hb2 : ((os.length : Int) == (m2 : Int)) = false := by rw [beq_eq_false_iff_ne]; omega
          have hb1 : ((is.length : Int) == (m1 : Int)) = true := by rw [beq_iff_eq]; omega
          clear hew hn1' hn2' HI HO
          generalize is.length = n1 at *
          generalize os.length = n2 at *
          go_enter Tryd.func132, Tryd.ntmps132
          go_wp2_with (first
            | (go_at_call 68; with_reducible refine (HA.out _).mono ?_; rintro e w3 ⟨rfl, rfl⟩)
            | (go_at_call 152
               with_reducible refine (HB.out _).mono ?_
               rintro e w4 ⟨rfl, hg4⟩
               have hs4 := HS0.out.grown hg4
               have HK4 := Lib.hid (grownBy_trans HK0.out hg4)
               obtain ⟨x0, x1, x2, x3, _⟩ := bq4 hs4.hd
               clear hg4 hs4)
            | (go_at_call 153; with_reducible refine (HC.out _).mono ?_; rintro e w3 ⟨rfl, rfl⟩))
          go_ret
          exact ⟨rfl, HK4.out⟩
      · rw [decide_eq_false (show ¬ (is.length, os.length) = (m1, m2) by simp [hn1']), Bool.false_and]
        have hb1 : ((is.length : Int) == (m1 : Int)) = false := by rw [beq_eq_false_iff_ne]; omega
        clear hew hn1' HI HO
        generalize is.length = n1 at *
        generalize os.length = n2 at *
        go_enter Tryd.func132, Tryd.ntmps132
        go_wp2_with (first
          | (go_at_call 68; with_reducible refine (HA.out _).mono ?_; rintro e w3 ⟨rfl, rfl⟩)
          | (go_at_call 152
             with_reducible refine (HB.out _).mono ?_
             rintro e w4 ⟨rfl, hg4⟩
             have hs4 := HS0.out.grown hg4
             have HK4 := Lib.hid (grownBy_trans HK0.out hg4)
             obtain ⟨x0, x1, x2, x3, _⟩ := bq4 hs4.hd
             clear hg4 hs4)
          | (go_at_call 153; with_reducible refine (HC.out _).mono ?_; rintro e w3 ⟨rfl, rfl⟩))
        go_ret
        exact ⟨rfl, HK4.out⟩
end Go.Proofs.YtghfifpicklonaaDoor

/-
  All lists of wires of a graph visited. Conditions: the visiting function keeps what others hold.
-/
namespace Go.Proofs.YtghfifpicklonaaDoor
open Go.RowKit
set_option linter.unusedVariables false
set_option maxRecDepth 100000

/-- What every later world holds of edge i. -/
theorem RdE.atK {E : Lay XE} (h1 : E.sz = 4) (h2 : E.cs = edgeC) {w : World} {a : Option Addr} {n c : Nat} {es : List Ed} (h : RdE E w (.slice a n c) es) {i : Nat} (hi : i < es.length) :
    ∃ b o iv ov, a = some ⟨b, o, none⟩ ∧ ∀ W, w.grownBy W none → (W.cell? ⟨b, o + i * 4, none⟩ = some (.int .i64 (es.getD i e0).k) ∧ W.cell? ⟨b, o + i * 4 + 1, none⟩ = some (.int .i64 (es.getD i e0).v) ∧
      W.cell? ⟨b, o + i * 4 + 2, none⟩ = some iv ∧ W.cell? ⟨b, o + i * 4 + 3, none⟩ = some ov) ∧ IntsV W iv (es.getD i e0).i ∧ IntsV W ov (es.getD i e0).o := by
  obtain ⟨b, o, iv, ov, ha, hb, q0, q1, q2, q3, hi', ho⟩ := h.at h1 h2 hi
  refine ⟨b, o, iv, ov, ha, fun W hg => ⟨⟨?_, ?_, ?_, ?_⟩, hi'.carry hg, ho.carry hg⟩⟩
  · exact (World.cell?_of_block (a := ⟨b, o + i * 4, none⟩) (hg.block b hb (by simp))).trans q0
  · exact (World.cell?_of_block (a := ⟨b, o + i * 4 + 1, none⟩) (hg.block b hb (by simp))).trans q1
  · exact (World.cell?_of_block (a := ⟨b, o + i * 4 + 2, none⟩) (hg.block b hb (by simp))).trans q2
  · exact (World.cell?_of_block (a := ⟨b, o + i * 4 + 3, none⟩) (hg.block b hb (by simp))).trans q3
/-- A function value that takes list after list: A P is what it has made behind the wires P. -/
def VisFn (g : FuncId) (lb : Array Value) (A : List Int → Asrt) : Prop :=
  ∀ (P x : List Int) (v : Value) (w0 W : World) (l : List Asrt), Sep W (A P :: KeepA w0 :: l) → IntsV w0 v x → x.length ≤ 1000000 → Calls Tryd.prog g (#[v] ++ lb) W fun e w' => e = .returned (.tuple #[]) ∧ Sep w' (A (P ++ x) :: KeepA w0 :: l)
theorem wiresE_take (es : List Ed) (k : Nat) (hk : k < es.length) : wiresE (es.take (k + 1)) = wiresE (es.take k) ++ ((es.getD k e0).i ++ (es.getD k e0).o) := by
  unfold wiresE
  rw [List.take_succ_eq_append_getElem hk, List.flatMap_append, List.getD_eq_getElem?_getD, List.getElem?_eq_getElem hk]
  simp
set_option maxHeartbeats 2000000 in
theorem lists_any (g : FuncId) (lb : Array Value) (eg : ∀ args w, (callFunc g args).run Tryd.prog w = .ok (.enter g args) w) (A : List Int → Asrt) (hV : VisFn g lb A) (n : Int) (ev iv ov : Value) (G : Gr) (w0 w : World) (l : List Asrt)
    (he : RdE edgeE w0 ev G.es) (hi : IntsV w0 iv G.i) (ho : IntsV w0 ov G.o) (hl : G.es.length ≤ 1000000) (hli : G.i.length ≤ 1000000) (hlo : G.o.length ≤ 1000000) (hle : ∀ e ∈ G.es, e.i.length ≤ 1000000 ∧ e.o.length ≤ 1000000) (hs : Sep w (A [] :: KeepA w0 :: l)) :
    Calls Tryd.prog 135 #[grV n ev iv ov, .func (.func g) #[] lb] w fun e w' => e = .returned (.tuple #[]) ∧ Sep w' (A (wiresL G) :: KeepA w0 :: l) := by
  have HE := Lib.hid he; have HI := Lib.hid hi; have HO := Lib.hid ho; have HV := Lib.hid hV
  obtain ⟨ea, ec, rfl⟩ := he.shape
  obtain ⟨ia, ic, rfl⟩ := hi.shape
  obtain ⟨oa, oc, rfl⟩ := ho.shape
  unfold grV wiresL
  obtain ⟨_, es, is, os⟩ := G
  simp only at HE HI HO hl hli hlo hle ⊢
  have HLE := Lib.hid hle; have HLO := Lib.hid (show ∀ y : List Int, y = os → y.length ≤ 1000000 from fun y e => by rw [e]; exact hlo)
  clear he hi ho hV
  have hs0 := (hs.box #[.int .i64 n, .slice ea es.length ec, .slice ia is.length ic, .slice oa os.length oc] 56).s2.under Sep.s2 (by simp +contextual)
  have HS0 := Lib.hid hs0
  have HA := Lib.hid (HV.out [] is _ w0 _ _ hs0 HI.out hli)
  clear hs hs0 hli hlo hle
  generalize hm : es.length = m at *
  have HM := Lib.hid hm
  clear hm
  generalize is.length = n1 at *
  generalize os.length = n2 at *
  have HIV := Lib.hid HI.out; have HOV := Lib.hid HO.out
  go_enter Tryd.func135, Tryd.ntmps135
  go_wp2_with (first
    | (go_at_fn g
       with_reducible refine HA.out.mono ?_
       rintro e w2 ⟨rfl, hs2⟩
       obtain ⟨x0, x1, x2, x3, _⟩ := bq4 hs2.tl.tl.hd
       have HS2 := Lib.hid hs2
       have HB := Lib.hid (HV.out _ os _ w0 _ _ hs2 HO.out (HLO.out _ rfl))
       clear hs2)
    | (go_at_fn g
       with_reducible refine HB.out.mono ?_
       rintro e w3 ⟨rfl, hs3⟩
       obtain ⟨y0, y1, y2, y3, _⟩ := bq4 hs3.tl.tl.hd
       have HS3 := Lib.hid hs3
       clear hs3))
  rw [List.nil_append] at HS3
  have HS3' := Lib.hid (show Sep w3 (A (is ++ (os ++ wiresE (es.take 0))) :: _) from by have := HS3.out; simpa [wiresE] using this)
  clear HS2 HS3 HA HB y0 y1 y2 y3 x0 x1 x2 x3
  go_loopw [5, 17] (fun _ i wr => ∃ k : Nat, k ≤ m ∧ i = .int .i64 k ∧ Sep wr (A (is ++ (os ++ wiresE (es.take k))) :: KeepA w0 :: BxA w.heap.size #[.int .i64 n, .slice ea m ec, .slice ia n1 ic, .slice oa n2 oc] 56 :: l)) (fun _ i _ => m - (intOf i).toNat)
  case atStart => exact ⟨0, by omega, rfl, HS3'.out⟩
  case round =>
    obtain ⟨k, hk, rfl, hs⟩ := hrel
    have HSX := Lib.hid hs
    clear hs HS3'
    by_cases hlt : k < m
    · have hke : k < es.length := by rw [HM.out]; exact hlt
      obtain ⟨b, o, u1, u2, rfl, hat⟩ := HE.out.atK rfl rfl hke
      have HT := Lib.hid (wiresE_take es k hke)
      have hlm := HLE.out _ (show es.getD k e0 ∈ es by rw [List.getD_eq_getElem?_getD, List.getElem?_eq_getElem hke]; exact List.getElem_mem _)
      generalize es.getD k e0 = e at *
      obtain ⟨ek, ev, ei, eo⟩ := e
      simp only at hat HT hlm
      have HLM := Lib.hid (show ∀ y : List Int, y = eo → y.length ≤ 1000000 from fun y e => by rw [e]; exact hlm.2)
      obtain ⟨⟨q0, q1, q2, q3⟩, hi, ho⟩ := hat wr HSX.out.tl.hd
      obtain ⟨a1, c1, rfl⟩ := hi.shape
      obtain ⟨a2, c2, rfl⟩ := ho.shape
      have HAT := Lib.hid hat
      obtain ⟨⟨_, _, _, _⟩, hi0, ho0⟩ := hat w0 (grownBy_refl _ _)
      have hb := (HSX.out.box #[.int .i64 ek, .int .i64 ev, .slice a1 ei.length c1, .slice a2 eo.length c2] 84).s2.under Sep.s2 (by simp +contextual)
      have HA := Lib.hid (HV.out _ ei _ w0 _ _ hb hi0 hlm.1)
      have HO0 := Lib.hid ho0
      clear hb hke hi ho hat hlm hi0 ho0 HAT
      generalize ei.length = m1 at *
      generalize eo.length = m2 at *
      go_wp2_with (first
        | (go_at_fn g
           with_reducible refine HA.out.mono ?_
           rintro e w5 ⟨rfl, hs5⟩
           obtain ⟨y0, y1, y2, y3, _⟩ := bq4 hs5.tl.tl.hd
           have HB := Lib.hid (HV.out _ eo _ w0 _ _ hs5 HO0.out (HLM.out _ rfl))
           clear hs5)
        | (go_at_fn g
           with_reducible refine HB.out.mono ?_
           rintro e w6 ⟨rfl, hs6⟩
           have hs7 := hs6.under Sep.drop2 (by simp +contextual)
           rw [show is ++ (os ++ wiresE (es.take k)) ++ ei ++ eo = is ++ (os ++ wiresE (es.take (k + 1))) by rw [HT.out]; simp] at hs7
           have HS7 := Lib.hid hs7
           clear hs6 hs7))
      go_roundw
      case rel => exact ⟨k + 1, by omega, by go_num, HS7.out⟩
      case measure => simp [intOf]; omega
    · have hkm : k = m := by omega
      subst hkm
      have hs := HSX.out
      rw [List.take_of_length_le (by rw [HM.out]; exact Nat.le_refl _)] at hs
      have HF := Lib.hid (hs.under Sep.drop2 (by simp +contextual))
      clear hs hlt HSX
      go_wp2
      refine bodyPost_end (results_none rfl _ _ _) rfl ?_
      exact ⟨rfl, HF.out⟩
end Go.Proofs.YtghfifpicklonaaDoor

/-
  Is it a graph: the visiting function that marks wires; the program's isGraph. Conditions: lengths are small.
-/
namespace Go.Proofs.YtghfifpicklonaaDoor
open Go.RowKit
set_option linter.unusedVariables false
set_option maxRecDepth 100000

/-- Which wires have been seen, and how many; was each in range? -/
def seenL (n : Nat) (P : List Int) : List Bool := (List.range n).map fun w : Nat => decide ((w : Int) ∈ P)
def cntS (n : Nat) (P : List Int) : Nat := (List.range n).countP fun w : Nat => decide ((w : Int) ∈ P)
theorem seen_len (n : Nat) (P : List Int) : (seenL n P).length = n := by simp [seenL]
theorem seen_at {n : Nat} {P : List Int} {j : Nat} (h : j < n) : (seenL n P).getD j false = decide ((j : Int) ∈ P) := by
  unfold seenL
  rw [List.getD_eq_getElem?_getD, List.getElem?_map, List.getElem?_range h]
  rfl
theorem seen_out {n : Nat} {P : List Int} {x : Int} (h : ¬ (0 ≤ x ∧ x < n)) : seenL n (P ++ [x]) = seenL n P ∧ cntS n (P ++ [x]) = cntS n P := by
  have key : ∀ w : Nat, w < n → (decide ((w : Int) ∈ P ++ [x])) = decide ((w : Int) ∈ P) := by
    intro w hw
    have : ¬ (w : Int) = x := by omega
    simp [this]
  constructor
  · unfold seenL
    exact List.map_congr_left fun w hw => key w (List.mem_range.1 hw)
  · unfold cntS
    exact List.countP_congr fun w hw => by rw [key w (List.mem_range.1 hw)]
theorem seen_old {n : Nat} {P : List Int} {x : Int} (h : x ∈ P) : seenL n (P ++ [x]) = seenL n P ∧ cntS n (P ++ [x]) = cntS n P := by
  have key : ∀ w : Nat, (decide ((w : Int) ∈ P ++ [x])) = decide ((w : Int) ∈ P) := by
    intro w
    by_cases hw : (w : Int) ∈ P
    · simp [hw]
    · have : ¬ (w : Int) = x := fun e => hw (by rw [e]; exact h)
      simp [this]
  constructor
  · unfold seenL
    exact List.map_congr_left fun w hw => key w
  · unfold cntS
    exact List.countP_congr fun w hw => by rw [key w]
theorem seen_new {n j : Nat} {P : List Int} (hj : j < n) (h : ¬ (j : Int) ∈ P) : seenL n (P ++ [(j : Int)]) = (seenL n P).set j true ∧ cntS n (P ++ [(j : Int)]) = cntS n P + 1 := by
  have hs : seenL n (P ++ [(j : Int)]) = (seenL n P).set j true := by
    apply List.ext_getElem (by simp [seenL])
    intro i h1 h2
    rw [List.getElem_set]
    unfold seenL
    simp only [List.getElem_map, List.getElem_range]
    by_cases e : j = i
    · subst e; simp
    · rw [if_neg e]
      have : ¬ (i : Int) = j := by omega
      simp [this]
  refine ⟨hs, ?_⟩
  have e1 : ∀ Q, cntS n Q = nT (seenL n Q) := by
    intro Q
    unfold cntS nT seenL
    rw [List.countP_map]
    rfl
  rw [e1, e1, hs]
  have hl : j < (seenL n P).length := by rw [seen_len]; exact hj
  exact nT_mark hl (by rw [seen_at hj]; exact decide_eq_false h)
theorem rng_snoc {n : Int} {P : List Int} {x : Int} : rngB n (P ++ [x]) = (rngB n P && inB x 0 (n - 1)) := by unfold rngB; simp
theorem bx1' {w : World} {k : Nat} {x : Value} {t : TypeId} (h : w.heap[k]? = some (.cells #[x] t (0, 0))) : w.cell? ⟨k, 0, none⟩ = some x ∧ w.frozen? ⟨k, 0, none⟩ = false :=
  ⟨cell_of_row w k 0 _ _ _ h, frozen_of_row w k 0 _ _ h⟩
/-- What the checks of a graph hold behind the wires P. -/
def SeenA (m gb sb sa gd cb : Nat) (ev iv ov : Value) (P : List Int) : List Asrt :=
  [BxA gb #[.int .i64 m, ev, iv, ov] 56, BxA sb #[.slice (some ⟨sa, 0, none⟩) m m] 160, OR boolE (.slice (some ⟨sa, 0, none⟩) m m) (seenL m P), BxA gd #[.bool (rngB m P)] 4, BxA cb #[.int .i64 (cntS m P)] 3]
set_option maxHeartbeats 4000000 in
theorem isGraph1_fn (m gb sb sa gd cb : Nat) (ev iv ov : Value) (hm : m ≤ 100) :
    VisFn 136 #[.pointer (some ⟨gb, 0, none⟩), .pointer (some ⟨gd, 0, none⟩), .pointer (some ⟨sb, 0, none⟩), .pointer (some ⟨cb, 0, none⟩)] (fun P => Bag (SeenA m gb sb sa gd cb ev iv ov P)) := by
  intro P xs v w0 W l hs hv hl
  have hs0 := Sep.unbag hs
  have HS0 := Lib.hid hs0
  have HV := Lib.hid hv
  obtain ⟨a, c, rfl⟩ := hv.shape
  clear hs hs0 hv
  generalize hlen : xs.length = n at *
  have HN := Lib.hid hlen
  clear hlen
  go_enter Tryd.func136, Tryd.ntmps136
  go_wp2_with fail
  go_loopw [7, 10] (fun _ i wr => ∃ k : Nat, k ≤ n ∧ i = .int .i64 k ∧ Sep wr (SeenA m gb sb sa gd cb ev iv ov (P ++ xs.take k) ++ KeepA w0 :: l)) (fun _ i _ => n - (intOf i).toNat)
  case atStart => exact ⟨0, by omega, rfl, by simpa using HS0.out⟩
  case round =>
    obtain ⟨k, hk, rfl, hs⟩ := hrel
    have HSX := Lib.hid hs
    clear hs HS0
    by_cases hlt : k < n
    · have hkx : k < xs.length := by rw [HN.out]; exact hlt
      obtain ⟨b, o, rfl⟩ := IntsV.addr HV.out (by omega)
      have hkeep : w0.grownBy wr none := HSX.out.tl.tl.tl.tl.tl.hd
      have hc0 := (HV.out.carry hkeep).cellN hkx
      have htk : xs.take (k + 1) = xs.take k ++ [xs.getD k 0] := by rw [List.take_succ_eq_append_getElem hkx, List.getD_eq_getElem?_getD, List.getElem?_eq_getElem hkx]; rfl
      have HTK := Lib.hid (show P ++ xs.take (k + 1) = (P ++ xs.take k) ++ [xs.getD k 0] by rw [htk, List.append_assoc])
      generalize P ++ xs.take k = Q at *
      obtain ⟨Q', hQ'⟩ : ∃ Q', Q' = P ++ xs.take (k + 1) := ⟨_, rfl⟩
      rw [← hQ'] at HTK
      have HQP := Lib.hid hQ'
      clear hQ'
      generalize xs.getD k 0 = x at *
      have HW := Lib.hid fun W => within_any x 0 ((m : Int) - 1) W
      have hS : Sep wr (BxA gb #[.int .i64 m, ev, iv, ov] 56 :: BxA sb #[.slice (some ⟨sa, 0, none⟩) m m] 160 :: OR boolE (.slice (some ⟨sa, 0, none⟩) m m) (seenL m Q) :: BxA gd #[.bool (rngB m Q)] 4 :: BxA cb #[.int .i64 (cntS m Q)] 3 :: KeepA w0 :: l) := HSX.out
      obtain ⟨x0, _⟩ := bq4 hS.hd
      obtain ⟨s0, sf⟩ := bx1' hS.tl.hd
      obtain ⟨g0', gf⟩ := bx1' hS.tl.tl.tl.hd
      obtain ⟨c0', cf⟩ := bx1' hS.tl.tl.tl.tl.hd
      have HS := Lib.hid hS
      have hwr : IntKind.i64.wrap ((m : Int) - 1) = (m : Int) - 1 := by rw [IntKind.wrap_i64]; omega
      clear hkx hkeep htk HSX
      by_cases hin : 0 ≤ x ∧ x ≤ (m : Int) - 1
      · rw [decide_eq_true hin] at HW
        obtain ⟨j, rfl⟩ := Int.eq_ofNat_of_zero_le hin.1
        have hjm : j < m := by omega
        have hrg : rngB m Q' = rngB m Q := by rw [HTK.out, rng_snoc, show inB (j : Int) 0 ((m : Int) - 1) = true from decide_eq_true hin, Bool.and_true]
        have hsc := bool_cell hS.tl.tl.hd (seen_len m Q).symm hjm
        have hsf := bool_free hS.tl.tl.hd (seen_len m Q).symm j
        rw [seen_at hjm] at hsc
        by_cases hold : (j : Int) ∈ Q
        · rw [decide_eq_true hold] at hsc
          have hso := seen_old (n := m) hold
          have HF := Lib.hid (show Sep wr (SeenA m gb sb sa gd cb ev iv ov Q' ++ KeepA w0 :: l) by
            unfold SeenA
            rw [hrg, HTK.out, hso.1, hso.2]
            exact HS.out)
          clear hrg hso hold hS hin
          go_wp2_with (go_at_call 74; with_reducible refine (HW.out _).mono ?_; rintro e w3 ⟨rfl, rfl⟩)
          go_roundw
          case rel => exact ⟨k + 1, by omega, by go_num, by rw [← HQP.out]; exact HF.out⟩
          case measure => simp [intOf]; omega
        · rw [decide_eq_false hold] at hsc
          have hsn := seen_new hjm hold
          have h1 := hS.s3.setBo (seen_len m Q).symm hjm true
          have h2 := (h1.s5).setB 0 (.int .i64 (cntS m Q + 1 : Nat))
          have hcm : cntS m Q ≤ m := by
            have := List.countP_le_length (l := List.range m) (p := fun w : Nat => decide ((w : Int) ∈ Q))
            simpa [cntS] using this
          obtain ⟨c1', cf'⟩ := bx1' h1.s5.hd
          obtain ⟨t0, _⟩ := bq4 h1.tl.hd
          have HF : Hid (Sep ((wr.setCell ⟨sa, j, none⟩ (.bool true)).setCell ⟨cb, 0, none⟩ (.int .i64 (cntS m Q + 1 : Nat))) (SeenA m gb sb sa gd cb ev iv ov Q' ++ KeepA w0 :: l)) := Lib.hid (by
            unfold SeenA
            rw [hrg, HTK.out, hsn.1, hsn.2]
            exact h2.s5.s3.s5.s5)
          have hwc : wrap64 ((cntS m Q : Int) + 1) = ((cntS m Q + 1 : Nat) : Int) := by rw [wrap64_id (by omega) (by omega)]; omega
          clear hrg hsn hold hS hin h1 h2 hcm
          generalize cntS m Q + 1 = cn at *
          generalize cntS m Q = co at *
          go_wp2_with (go_at_call 74; with_reducible refine (HW.out _).mono ?_; rintro e w3 ⟨rfl, rfl⟩)
          go_roundw
          case rel => exact ⟨k + 1, by omega, by go_num, by rw [← HQP.out]; exact HF.out⟩
          case measure => simp [intOf]; omega
      · rw [decide_eq_false hin] at HW
        have hrg : rngB m Q' = false := by rw [HTK.out, rng_snoc, show inB x 0 ((m : Int) - 1) = false from decide_eq_false hin, Bool.and_false]
        have hso := seen_out (n := m) (P := Q) (x := x) (by omega)
        have h1 := hS.s4.setB 0 (.bool false)
        have HF : Hid (Sep (wr.setCell ⟨gd, 0, none⟩ (.bool false)) (SeenA m gb sb sa gd cb ev iv ov Q' ++ KeepA w0 :: l)) := Lib.hid (by
          unfold SeenA
          rw [hrg, HTK.out, hso.1, hso.2]
          exact h1.s4.s4.s4)
        clear hrg hso hS hin h1
        go_wp2_with (go_at_call 74; with_reducible refine (HW.out _).mono ?_; rintro e w3 ⟨rfl, rfl⟩)
        go_roundw
        case rel => exact ⟨k + 1, by omega, by go_num, by rw [← HQP.out]; exact HF.out⟩
        case measure => simp [intOf]; omega
    · have hkn : k = n := by omega
      subst hkn
      have hs := HSX.out
      rw [List.take_of_length_le (by rw [HN.out]; exact Nat.le_refl _)] at hs
      have HF := Lib.hid (Sep.bag hs)
      clear hs hlt HSX
      go_wp2
      refine bodyPost_end (results_none rfl _ _ _) rfl ?_
      exact ⟨rfl, HF.out⟩
end Go.Proofs.YtghfifpicklonaaDoor

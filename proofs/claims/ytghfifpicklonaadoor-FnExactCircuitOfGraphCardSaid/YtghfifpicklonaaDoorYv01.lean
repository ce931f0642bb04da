/-
  What a state space is, in the program and in the reference. Conditions: the rows can be read, their lengths are small; the table of small primes holds what its text lays.
-/
import Derived.Test.YtghfifpicklonaaDoorYv00
import Derived.Test.YtghfifpicklonaaDoorBc01
namespace Go.Proofs.YtghfifpicklonaaDoor
open Go.RowKit
set_option linter.unusedVariables false
set_option maxRecDepth 100000

/-- A state space. -/
structure StSp where
  S : Int
  I : Int
  O : Int
  A : List (List Int)
  B : List (List Int)
  C : List (List Int)
  D : List (List Int)
def shB (r c : Int) (M : List (List Int)) : Bool := decide ((M.length : Int) = r) && M.all fun x => decide ((x.length : Int) = c)
def vcB (p n : Int) (v : List Int) : Bool := decide ((v.length : Int) = n) && v.all (elB p)
def vsB (p n : Int) (M : List (List Int)) : Bool := M.all (vcB p n)
def tbB (p r c : Int) (M : List (List Int)) : Bool := decide ((M.length : Int) = r) && vsB p c M
theorem sh_vs (p r c : Int) (M : List (List Int)) : (shB r c M && vsB p c M) = tbB p r c M := by
  rw [Bool.eq_iff_iff]
  unfold shB tbB vsB vcB
  simp only [Bool.and_eq_true, decide_eq_true_iff, List.all_eq_true]
  exact ⟨fun h => ⟨h.1.1, h.2⟩, fun h => ⟨⟨h.1, fun x hx => (h.2 x hx).1⟩, h.2⟩⟩
def inB3 (n hi : Int) : Bool := decide (0 ≤ n ∧ n ≤ hi)
def ssB (p : Int) (s : StSp) : Bool := fldB p && inB3 s.S 24 && inB3 s.I 8 && inB3 s.O 8 && tbB p s.S s.S s.A && tbB p s.I s.S s.B && tbB p s.S s.O s.C && tbB p s.I s.O s.D
theorem ss_eq (p : Int) (s : StSp) : (fldB p && inB3 s.S 24 && inB3 s.I 8 && inB3 s.O 8 && (shB s.S s.S s.A && shB s.I s.S s.B && shB s.S s.O s.C && shB s.I s.O s.D) && (vsB p s.S s.A && vsB p s.S s.B && vsB p s.O s.C && vsB p s.O s.D)) = ssB p s := by
  unfold ssB
  rw [← sh_vs p s.S s.S, ← sh_vs p s.I s.S, ← sh_vs p s.S s.O, ← sh_vs p s.I s.O]
  simp only [Bool.and_assoc, Bool.and_comm, Bool.and_left_comm]
/-- A state space that can be read. -/
structure RdSs (w : World) (s : StSp) (av bv cv dv : Value) : Prop where
  a : RdS w av s.A
  b : RdS w bv s.B
  c : RdS w cv s.C
  d : RdS w dv s.D
theorem RdSs.carry {w w' : World} {s : StSp} {av bv cv dv : Value} (h : RdSs w s av bv cv dv) (hg : w.grownBy w' none) : RdSs w' s av bv cv dv := ⟨h.a.carry hg, h.b.carry hg, h.c.carry hg, h.d.carry hg⟩
structure SmS (s : StSp) : Prop where
  l : s.A.length ≤ 1048576 ∧ s.B.length ≤ 1048576 ∧ s.C.length ≤ 1048576 ∧ s.D.length ≤ 1048576
  a : ∀ r ∈ s.A, r.length ≤ 1048576
  b : ∀ r ∈ s.B, r.length ≤ 1048576
  c : ∀ r ∈ s.C, r.length ≤ 1048576
  d : ∀ r ∈ s.D, r.length ≤ 1048576
theorem bq7 {w : World} {k : Nat} {x0 x1 x2 x3 x4 x5 x6 : Value} {t : TypeId} (h : w.heap[k]? = some (.cells #[x0, x1, x2, x3, x4, x5, x6] t (0, 0))) :
    w.cell? ⟨k, 0, none⟩ = some x0 ∧ w.cell? ⟨k, 1, none⟩ = some x1 ∧ w.cell? ⟨k, 2, none⟩ = some x2 ∧ w.cell? ⟨k, 3, none⟩ = some x3 ∧ w.cell? ⟨k, 4, none⟩ = some x4 ∧ w.cell? ⟨k, 5, none⟩ = some x5 ∧ w.cell? ⟨k, 6, none⟩ = some x6 :=
  ⟨cell_of_row w k 0 _ _ _ h, cell_of_row w k 1 _ _ _ h, cell_of_row w k 2 _ _ _ h, cell_of_row w k 3 _ _ _ h, cell_of_row w k 4 _ _ _ h, cell_of_row w k 5 _ _ _ h, cell_of_row w k 6 _ _ _ h⟩
theorem bf7 {w : World} {k : Nat} {x0 x1 x2 x3 x4 x5 x6 : Value} {t : TypeId} (h : w.heap[k]? = some (.cells #[x0, x1, x2, x3, x4, x5, x6] t (0, 0))) :
    w.frozen? ⟨k, 0, none⟩ = false ∧ w.frozen? ⟨k, 1, none⟩ = false ∧ w.frozen? ⟨k, 2, none⟩ = false ∧ w.frozen? ⟨k, 3, none⟩ = false ∧ w.frozen? ⟨k, 4, none⟩ = false ∧ w.frozen? ⟨k, 5, none⟩ = false ∧ w.frozen? ⟨k, 6, none⟩ = false :=
  ⟨frozen_of_row w k 0 _ _ h, frozen_of_row w k 1 _ _ h, frozen_of_row w k 2 _ _ h, frozen_of_row w k 3 _ _ h, frozen_of_row w k 4 _ _ h, frozen_of_row w k 5 _ _ h, frozen_of_row w k 6 _ _ h⟩
theorem Sep.boxAt {w : World} {l : List Asrt} (h : Sep w l) (b : Nat) (hb : b = w.heap.size) (cs : Array Value) (t : TypeId) : Sep (w.alloc (.cells cs t)) (BxA b cs t :: l) := hb ▸ h.box cs t
theorem all_false_at {α : Type} {f : α → Bool} {l : List α} {x : α} (h : x ∈ l) (hf : f x = false) : l.all f = false := by
  rw [List.all_eq_false]; exact ⟨x, h, by rw [hf]; simp⟩
theorem all_of_at {f : List Int → Bool} {L : List (List Int)} (h : ∀ k, k < L.length → f (L.getD k []) = true) : L.all f = true := by
  rw [List.all_eq_true]
  intro x hx
  obtain ⟨i, hi, rfl⟩ := List.mem_iff_getElem.1 hx
  have := h i hi
  rwa [List.getD_eq_getElem?_getD, List.getElem?_eq_getElem hi] at this
theorem all_of_int {f : Int → Bool} {l : List Int} (h : ∀ k, k < l.length → f (l.getD k 0) = true) : l.all f = true := by
  rw [List.all_eq_true]
  intro x hx
  obtain ⟨i, hi, rfl⟩ := List.mem_iff_getElem.1 hx
  have := h i hi
  rwa [List.getD_eq_getElem?_getD, List.getElem?_eq_getElem hi] at this
theorem gmi {l : List Int} {k : Nat} (h : k < l.length) : l.getD k 0 ∈ l := by rw [List.getD_eq_getElem?_getD, List.getElem?_eq_getElem h]; exact List.getElem_mem _
set_option maxHeartbeats 1000000 in
theorem isVector_any (p : Int) (v : Value) (zs : List Int) (n : Int) (w : World) (hv : IntsV w v zs) (hl : zs.length ≤ 2000000) :
    Calls Tryd.prog 118 #[.int .i64 p, v, .int .i64 n] w fun e w' => e = .returned (.bool (vcB p n zs)) ∧ w.grownBy w' none := by
  have HV := Lib.hid hv
  have HE := Lib.hid fun a W => isElement_any p a W
  obtain ⟨a, c, rfl⟩ := hv.shape
  generalize hlz : zs.length = m at *
  have HL := Lib.hid hlz
  clear hv hlz
  by_cases hn : (m : Int) = n
  · have hn1 : ((m : Int) != n) = false := by simpa using hn
    have HV1 := Lib.hid (show vcB p n zs = zs.all (elB p) from by unfold vcB; rw [HL.out, decide_eq_true hn, Bool.true_and])
    clear hn
    go_enter Tryd.func118, Tryd.ntmps118
    go_wp2_with fail
    go_loopw [8, 15] (fun _ i wr => ∃ k : Nat, k ≤ m ∧ i = .int .i64 k ∧ (∀ j, j < k → elB p (zs.getD j 0) = true) ∧ w.grownBy wr none) (fun _ i _ => m - (intOf i).toNat)
    case atStart => exact ⟨0, by omega, rfl, fun j hj => by omega, grownBy_refl _ _⟩
    case round =>
      obtain ⟨k, hk, rfl, hall, hg⟩ := hrel
      have HA := Lib.hid hall; have HG := Lib.hid hg
      clear hall hg
      by_cases hlt : k < m
      · have hkz : k < zs.length := by rw [HL.out]; exact hlt
        obtain ⟨b, o, rfl, _, x0⟩ := (HV.out.carry HG.out).atD hkz
        have HC := Lib.hid (HE.out (zs.getD k 0) wr)
        have hki : (k : Int) < (m : Int) := by omega
        cases hb : elB p (zs.getD k 0) with
        | true =>
          rw [hb] at HC
          have HN := Lib.hid (show ∀ j, j < k + 1 → elB p (zs.getD j 0) = true from fun j hj => by
            by_cases e : j = k
            · rw [e]; exact hb
            · exact HA.out j (by omega))
          clear hb hkz
          generalize zs.getD k 0 = x at x0 HC
          go_wp2_with (go_at_call 145; with_reducible refine HC.out.mono ?_; rintro e w2 ⟨rfl, rfl⟩)
          go_roundw
          case rel => exact ⟨k + 1, by omega, by go_num, HN.out, HG.out⟩
          case measure => simp [intOf]; omega
        | false =>
          rw [hb] at HC
          have HF := Lib.hid (show vcB p n zs = false from by rw [HV1.out]; exact all_false_at (gmi hkz) hb)
          clear hb hkz
          generalize zs.getD k 0 = x at x0 HC
          go_wp2_with (go_at_call 145; with_reducible refine HC.out.mono ?_; rintro e w2 ⟨rfl, rfl⟩)
          go_ret
          exact ⟨by rw [HF.out]; try rfl, HG.out⟩
      · have HT := Lib.hid (show vcB p n zs = true from by rw [HV1.out]; exact all_of_int fun j hj => HA.out j (by rw [HL.out] at hj; omega))
        have hki : ¬ (k : Int) < (m : Int) := by omega
        go_wp2_with fail
        go_ret
        exact ⟨by rw [HT.out]; try rfl, HG.out⟩
  · have hn1 : ((m : Int) != n) = true := by simpa using hn
    have HF := Lib.hid (show vcB p n zs = false from by unfold vcB; rw [HL.out, decide_eq_false hn, Bool.false_and])
    clear hn
    go_enter Tryd.func118, Tryd.ntmps118
    go_wp2_with fail
    go_ret
    exact ⟨by rw [HF.out]; try rfl, grownBy_refl _ _⟩
set_option maxHeartbeats 1000000 in
theorem areVectors_any (p : Int) (v : Value) (L : List (List Int)) (n : Int) (w : World) (hv : RdS w v L) (hl : L.length ≤ 2000000) (hle : ∀ r ∈ L, r.length ≤ 2000000) :
    Calls Tryd.prog 76 #[.int .i64 p, v, .int .i64 n] w fun e w' => e = .returned (.bool (vsB p n L)) ∧ w.grownBy w' none := by
  have HV := Lib.hid hv; have HLE := Lib.hid hle
  obtain ⟨a, c, rfl⟩ := hv.shape
  generalize hlz : L.length = m at *
  have HL := Lib.hid hlz
  clear hv hlz hle
  go_enter Tryd.func76, Tryd.ntmps76
  go_wp2_with fail
  go_loopw [8, 11] (fun _ i wr => ∃ k : Nat, k ≤ m ∧ i = .int .i64 k ∧ (∀ j, j < k → vcB p n (L.getD j []) = true) ∧ w.grownBy wr none) (fun _ i _ => m - (intOf i).toNat)
  case atStart => exact ⟨0, by omega, rfl, fun j hj => by omega, grownBy_refl _ _⟩
  case round =>
    obtain ⟨k, hk, rfl, hall, hg⟩ := hrel
    have HA := Lib.hid hall; have HG := Lib.hid hg
    clear hall hg
    by_cases hlt : k < m
    · have hkz : k < L.length := by rw [HL.out]; exact hlt
      obtain ⟨b, o, rv, rfl, _, x0, hr⟩ := (HV.out.carry HG.out).at hkz
      have HC := Lib.hid (isVector_any p rv (L.getD k []) n wr hr (HLE.out _ (gm hkz)))
      have hki : (k : Int) < (m : Int) := by omega
      obtain ⟨ra, rc, rfl⟩ := hr.shape
      generalize hln : (L.getD k []).length = ln at *
      clear hr hln
      cases hb : vcB p n (L.getD k []) with
      | true =>
        rw [hb] at HC
        have HN := Lib.hid (show ∀ j, j < k + 1 → vcB p n (L.getD j []) = true from fun j hj => by
          by_cases e : j = k
          · rw [e]; exact hb
          · exact HA.out j (by omega))
        clear hb hkz
        go_wp2_with (
          go_at_call 118
          with_reducible refine HC.out.mono ?_
          rintro e w2 ⟨rfl, hg⟩
          have HG2 := Lib.hid (grownBy_trans HG.out hg)
          clear hg)
        go_roundw
        case rel => exact ⟨k + 1, by omega, by go_num, HN.out, HG2.out⟩
        case measure => simp [intOf]; omega
      | false =>
        rw [hb] at HC
        have HF := Lib.hid (show vsB p n L = false from all_false_at (gm hkz) hb)
        clear hb hkz
        go_wp2_with (
          go_at_call 118
          with_reducible refine HC.out.mono ?_
          rintro e w2 ⟨rfl, hg⟩
          have HG2 := Lib.hid (grownBy_trans HG.out hg)
          clear hg)
        go_ret
        exact ⟨by rw [HF.out]; try rfl, HG2.out⟩
    · have HT := Lib.hid (show vsB p n L = true from all_of_at fun j hj => HA.out j (by rw [HL.out] at hj; omega))
      have hki : ¬ (k : Int) < (m : Int) := by omega
      go_wp2_with fail
      go_ret
      exact ⟨by rw [HT.out]; try rfl, HG.out⟩
set_option maxHeartbeats 1000000 in
theorem hasShape_any (v : Value) (L : List (List Int)) (r c : Int) (w : World) (hv : RdS w v L) (hl : L.length ≤ 2000000) (hle : ∀ r ∈ L, r.length ≤ 2000000) :
    Calls Tryd.prog 75 #[v, .int .i64 r, .int .i64 c] w fun e w' => e = .returned (.bool (shB r c L)) ∧ w.grownBy w' none := by
  have HV := Lib.hid hv; have HLE := Lib.hid hle
  obtain ⟨a, cp, rfl⟩ := hv.shape
  generalize hlz : L.length = m at *
  have HL := Lib.hid hlz
  clear hv hlz hle
  by_cases hn : (m : Int) = r
  · have hn1 : ((m : Int) != r) = false := by simpa using hn
    subst hn
    have HV1 := Lib.hid (show shB m c L = L.all fun x => decide ((x.length : Int) = c) from by unfold shB; rw [HL.out, decide_eq_true rfl, Bool.true_and])
    go_enter Tryd.func75, Tryd.ntmps75
    go_wp2_with fail
    go_loopw [7, 13] (fun _ i wr => ∃ k : Nat, k ≤ m ∧ i = .int .i64 k ∧ (∀ j, j < k → decide (((L.getD j []).length : Int) = c) = true) ∧ wr = w) (fun _ i _ => m - (intOf i).toNat)
    case atStart => exact ⟨0, by omega, rfl, fun j hj => by omega, rfl⟩
    case round =>
      obtain ⟨k, hk, rfl, hall, hg⟩ := hrel
      subst hg
      have HA := Lib.hid hall
      clear hall
      by_cases hlt : k < m
      · have hkz : k < L.length := by rw [HL.out]; exact hlt
        obtain ⟨b, o, rv, rfl, _, x0, hr⟩ := HV.out.at hkz
        have hki : (k : Int) < (m : Int) := by omega
        obtain ⟨ra, rc, rfl⟩ := hr.shape
        have HGM := Lib.hid (gm hkz)
        generalize hln : (L.getD k []).length = ln at *
        have HLN := Lib.hid hln
        clear hr hln hkz
        by_cases hc : (ln : Int) = c
        · have hc1 : ((ln : Int) != c) = false := by simpa using hc
          have HN := Lib.hid (show ∀ j, j < k + 1 → decide (((L.getD j []).length : Int) = c) = true from fun j hj => by
            by_cases e : j = k
            · rw [e, HLN.out]; exact decide_eq_true hc
            · exact HA.out j (by omega))
          clear hc
          go_wp2_with fail
          go_roundw
          case rel => exact ⟨k + 1, by omega, by go_num, HN.out, (by first | rfl | trivial)⟩
          case measure => simp [intOf]; omega
        · have hc1 : ((ln : Int) != c) = true := by simpa using hc
          have HF := Lib.hid (show shB m c L = false from by rw [HV1.out]; exact all_false_at HGM.out (by rw [HLN.out]; exact decide_eq_false hc))
          clear hc
          go_wp2_with fail
          go_ret
          exact ⟨by rw [HF.out]; try rfl, grownBy_refl _ _⟩
      · have HT := Lib.hid (show shB m c L = true from by rw [HV1.out]; exact all_of_at fun j hj => HA.out j (by rw [HL.out] at hj; omega))
        have hki : ¬ (k : Int) < (m : Int) := by omega
        go_wp2_with fail
        go_ret
        exact ⟨by rw [HT.out]; try rfl, grownBy_refl _ _⟩
  · have hn1 : ((m : Int) != r) = true := by simpa using hn
    have HF := Lib.hid (show shB r c L = false from by unfold shB; rw [HL.out, decide_eq_false hn, Bool.false_and])
    clear hn
    go_enter Tryd.func75, Tryd.ntmps75
    go_wp2_with fail
    go_ret
    exact ⟨by rw [HF.out]; try rfl, grownBy_refl _ _⟩
set_option maxHeartbeats 8000000 in
theorem isSS_any (p : Int) (s : StSp) (av bv cv dv : Value) (w : World) (ht : Tab w) (h : RdSs w s av bv cv dv) (hs : SmS s) :
    Calls Tryd.prog 33 #[.int .i64 p, .agg #[.int .i64 s.S, .int .i64 s.I, .int .i64 s.O, av, bv, cv, dv]] w fun e w' => e = .returned (.bool (ssB p s)) ∧ w.grownBy w' none := by
  have HF := Lib.hid fun W (hw : w.grownBy W none) => (isField_any p W (ht.grown hw)).mono fun e w' h => show e = .returned (.bool (fldB p)) ∧ W.grownBy w' none from ⟨h.1, by rw [← h.2]; exact grownBy_refl _ _⟩
  have HW1 := Lib.hid fun W (hw : w.grownBy W none) => (within_any s.S 0 24 W).mono fun e w' h => show e = .returned (.bool (inB3 s.S 24)) ∧ W.grownBy w' none from ⟨h.1, by rw [← h.2]; exact grownBy_refl _ _⟩
  have HW2 := Lib.hid fun W (hw : w.grownBy W none) => (within_any s.I 0 8 W).mono fun e w' h => show e = .returned (.bool (inB3 s.I 8)) ∧ W.grownBy w' none from ⟨h.1, by rw [← h.2]; exact grownBy_refl _ _⟩
  have HW3 := Lib.hid fun W (hw : w.grownBy W none) => (within_any s.O 0 8 W).mono fun e w' h => show e = .returned (.bool (inB3 s.O 8)) ∧ W.grownBy w' none from ⟨h.1, by rw [← h.2]; exact grownBy_refl _ _⟩
  have HH1 := Lib.hid fun W (hw : w.grownBy W none) => hasShape_any _ s.A s.S s.S W (h.a.carry hw) (by have := hs.l; omega) (fun r hr => by have := hs.a r hr; omega)
  have HV1 := Lib.hid fun W (hw : w.grownBy W none) => areVectors_any p _ s.A s.S W (h.a.carry hw) (by have := hs.l; omega) (fun r hr => by have := hs.a r hr; omega)
  have HH2 := Lib.hid fun W (hw : w.grownBy W none) => hasShape_any _ s.B s.I s.S W (h.b.carry hw) (by have := hs.l; omega) (fun r hr => by have := hs.b r hr; omega)
  have HV2 := Lib.hid fun W (hw : w.grownBy W none) => areVectors_any p _ s.B s.S W (h.b.carry hw) (by have := hs.l; omega) (fun r hr => by have := hs.b r hr; omega)
  have HH3 := Lib.hid fun W (hw : w.grownBy W none) => hasShape_any _ s.C s.S s.O W (h.c.carry hw) (by have := hs.l; omega) (fun r hr => by have := hs.c r hr; omega)
  have HV3 := Lib.hid fun W (hw : w.grownBy W none) => areVectors_any p _ s.C s.O W (h.c.carry hw) (by have := hs.l; omega) (fun r hr => by have := hs.c r hr; omega)
  have HH4 := Lib.hid fun W (hw : w.grownBy W none) => hasShape_any _ s.D s.I s.O W (h.d.carry hw) (by have := hs.l; omega) (fun r hr => by have := hs.d r hr; omega)
  have HV4 := Lib.hid fun W (hw : w.grownBy W none) => areVectors_any p _ s.D s.O W (h.d.carry hw) (by have := hs.l; omega) (fun r hr => by have := hs.d r hr; omega)
  rw [← ss_eq]
  obtain ⟨sa, ta, rfl⟩ := h.a.shape
  obtain ⟨sb, tb, rfl⟩ := h.b.shape
  obtain ⟨sc, tc, rfl⟩ := h.c.shape
  obtain ⟨sd, td, rfl⟩ := h.d.shape
  have hs0 := (Sep.start w).box #[.int .i64 s.S, .int .i64 s.I, .int .i64 s.O, .slice sa s.A.length ta, .slice sb s.B.length tb, .slice sc s.C.length tc, .slice sd s.D.length td] 32
  have HS0 := Lib.hid hs0
  have HK0 := Lib.hid (show w.grownBy _ none from hs0.tl.hd)
  obtain ⟨x0, x1, x2, x3, x4, x5, x6⟩ := bq7 hs0.hd
  clear h hs hs0
  generalize fldB p = b0 at *
  generalize inB3 s.S 24 = b1 at *
  generalize inB3 s.I 8 = b2 at *
  generalize inB3 s.O 8 = b3 at *
  generalize shB s.S s.S s.A = s1 at *
  generalize shB s.I s.S s.B = s2 at *
  generalize shB s.S s.O s.C = s3 at *
  generalize shB s.I s.O s.D = s4 at *
  generalize vsB p s.S s.A = v1 at *
  generalize vsB p s.S s.B = v2 at *
  generalize vsB p s.O s.C = v3 at *
  generalize vsB p s.O s.D = v4 at *
  generalize s.A.length = nA at *
  generalize s.B.length = nB at *
  generalize s.C.length = nC at *
  generalize s.D.length = nD at *
  cases b0 with
  | false =>
    repeat (first | rw [Bool.false_and] | rw [Bool.and_false] | rw [Bool.true_and] | rw [Bool.and_true])
    go_enter Tryd.func33, Tryd.ntmps33
    go_wp2_with (first
      | (go_at_call 73
         with_reducible refine (HF.out _ HK0.out).mono ?_
         rintro e w1 ⟨rfl, hg⟩
         have hs := HS0.out.grown hg
         clear x0 x1 x2 x3 x4 x5 x6
         obtain ⟨x0, x1, x2, x3, x4, x5, x6⟩ := bq7 hs.hd
         have HS1 := Lib.hid hs
         have HK1 := Lib.hid (show w.grownBy w1 none from hs.tl.hd)
         clear hg hs))
    go_ret
    exact ⟨rfl, HK1.out⟩
  | true =>
    cases b1 with
    | false =>
      repeat (first | rw [Bool.false_and] | rw [Bool.and_false] | rw [Bool.true_and] | rw [Bool.and_true])
      go_enter Tryd.func33, Tryd.ntmps33
      go_wp2_with (first
        | (go_at_call 73
           with_reducible refine (HF.out _ HK0.out).mono ?_
           rintro e w1 ⟨rfl, hg⟩
           have hs := HS0.out.grown hg
           clear x0 x1 x2 x3 x4 x5 x6
           obtain ⟨x0, x1, x2, x3, x4, x5, x6⟩ := bq7 hs.hd
           have HS1 := Lib.hid hs
           have HK1 := Lib.hid (show w.grownBy w1 none from hs.tl.hd)
           clear hg hs)
        | (go_at_call 74
           with_reducible refine (HW1.out _ HK1.out).mono ?_
           rintro e w2 ⟨rfl, hg⟩
           have hs := HS1.out.grown hg
           clear x0 x1 x2 x3 x4 x5 x6
           obtain ⟨x0, x1, x2, x3, x4, x5, x6⟩ := bq7 hs.hd
           have HS2 := Lib.hid hs
           have HK2 := Lib.hid (show w.grownBy w2 none from hs.tl.hd)
           clear hg hs))
      go_ret
      exact ⟨rfl, HK2.out⟩
    | true =>
      cases b2 with
      | false =>
        repeat (first | rw [Bool.false_and] | rw [Bool.and_false] | rw [Bool.true_and] | rw [Bool.and_true])
        go_enter Tryd.func33, Tryd.ntmps33
        go_wp2_with (first
          | (go_at_call 73
             with_reducible refine (HF.out _ HK0.out).mono ?_
             rintro e w1 ⟨rfl, hg⟩
             have hs := HS0.out.grown hg
             clear x0 x1 x2 x3 x4 x5 x6
             obtain ⟨x0, x1, x2, x3, x4, x5, x6⟩ := bq7 hs.hd
             have HS1 := Lib.hid hs
             have HK1 := Lib.hid (show w.grownBy w1 none from hs.tl.hd)
             clear hg hs)
          | (go_at_call 74
             with_reducible refine (HW1.out _ HK1.out).mono ?_
             rintro e w2 ⟨rfl, hg⟩
             have hs := HS1.out.grown hg
             clear x0 x1 x2 x3 x4 x5 x6
             obtain ⟨x0, x1, x2, x3, x4, x5, x6⟩ := bq7 hs.hd
             have HS2 := Lib.hid hs
             have HK2 := Lib.hid (show w.grownBy w2 none from hs.tl.hd)
             clear hg hs)
          | (go_at_call 74
             with_reducible refine (HW2.out _ HK2.out).mono ?_
             rintro e w3 ⟨rfl, hg⟩
             have hs := HS2.out.grown hg
             clear x0 x1 x2 x3 x4 x5 x6
             obtain ⟨x0, x1, x2, x3, x4, x5, x6⟩ := bq7 hs.hd
             have HS3 := Lib.hid hs
             have HK3 := Lib.hid (show w.grownBy w3 none from hs.tl.hd)
             clear hg hs))
        go_ret
        exact ⟨rfl, HK3.out⟩
      | true =>
        cases b3 with
        | false =>
          repeat (first | rw [Bool.false_and] | rw [Bool.and_false] | rw [Bool.true_and] | rw [Bool.and_true])
          go_enter Tryd.func33, Tryd.ntmps33
          go_wp2_with (first
            | (go_at_call 73
               with_reducible refine (HF.out _ HK0.out).mono ?_
               rintro e w1 ⟨rfl, hg⟩
               have hs := HS0.out.grown hg
               clear x0 x1 x2 x3 x4 x5 x6
               obtain ⟨x0, x1, x2, x3, x4, x5, x6⟩ := bq7 hs.hd
               have HS1 := Lib.hid hs
               have HK1 := Lib.hid (show w.grownBy w1 none from hs.tl.hd)
               clear hg hs)
            | (go_at_call 74
               with_reducible refine (HW1.out _ HK1.out).mono ?_
               rintro e w2 ⟨rfl, hg⟩
               have hs := HS1.out.grown hg
               clear x0 x1 x2 x3 x4 x5 x6
               obtain ⟨x0, x1, x2, x3, x4, x5, x6⟩ := bq7 hs.hd
               have HS2 := Lib.hid hs
               have HK2 := Lib.hid (show w.grownBy w2 none from hs.tl.hd)
               clear hg hs)
            | (go_at_call 74
               with_reducible refine (HW2.out _ HK2.out).mono ?_
               rintro e w3 ⟨rfl, hg⟩
               have hs := HS2.out.grown hg
               clear x0 x1 x2 x3 x4 x5 x6
               obtain ⟨x0, x1, x2, x3, x4, x5, x6⟩ := bq7 hs.hd
               have HS3 := Lib.hid hs
               have HK3 := Lib.hid (show w.grownBy w3 none from hs.tl.hd)
               clear hg hs)
            | (go_at_call 74
               with_reducible refine (HW3.out _ HK3.out).mono ?_
               rintro e w4 ⟨rfl, hg⟩
               have hs := HS3.out.grown hg
               clear x0 x1 x2 x3 x4 x5 x6
               obtain ⟨x0, x1, x2, x3, x4, x5, x6⟩ := bq7 hs.hd
               have HS4 := Lib.hid hs
               have HK4 := Lib.hid (show w.grownBy w4 none from hs.tl.hd)
               clear hg hs))
          go_ret
          exact ⟨rfl, HK4.out⟩
        | true =>
          cases s1 with
          | false =>
            repeat (first | rw [Bool.false_and] | rw [Bool.and_false] | rw [Bool.true_and] | rw [Bool.and_true])
            go_enter Tryd.func33, Tryd.ntmps33
            go_wp2_with (first
              | (go_at_call 73
                 with_reducible refine (HF.out _ HK0.out).mono ?_
                 rintro e w1 ⟨rfl, hg⟩
                 have hs := HS0.out.grown hg
                 clear x0 x1 x2 x3 x4 x5 x6
                 obtain ⟨x0, x1, x2, x3, x4, x5, x6⟩ := bq7 hs.hd
                 have HS1 := Lib.hid hs
                 have HK1 := Lib.hid (show w.grownBy w1 none from hs.tl.hd)
                 clear hg hs)
              | (go_at_call 74
                 with_reducible refine (HW1.out _ HK1.out).mono ?_
                 rintro e w2 ⟨rfl, hg⟩
                 have hs := HS1.out.grown hg
                 clear x0 x1 x2 x3 x4 x5 x6
                 obtain ⟨x0, x1, x2, x3, x4, x5, x6⟩ := bq7 hs.hd
                 have HS2 := Lib.hid hs
                 have HK2 := Lib.hid (show w.grownBy w2 none from hs.tl.hd)
                 clear hg hs)
              | (go_at_call 74
                 with_reducible refine (HW2.out _ HK2.out).mono ?_
                 rintro e w3 ⟨rfl, hg⟩
                 have hs := HS2.out.grown hg
                 clear x0 x1 x2 x3 x4 x5 x6
                 obtain ⟨x0, x1, x2, x3, x4, x5, x6⟩ := bq7 hs.hd
                 have HS3 := Lib.hid hs
                 have HK3 := Lib.hid (show w.grownBy w3 none from hs.tl.hd)
                 clear hg hs)
              | (go_at_call 74
                 with_reducible refine (HW3.out _ HK3.out).mono ?_
                 rintro e w4 ⟨rfl, hg⟩
                 have hs := HS3.out.grown hg
                 clear x0 x1 x2 x3 x4 x5 x6
                 obtain ⟨x0, x1, x2, x3, x4, x5, x6⟩ := bq7 hs.hd
                 have HS4 := Lib.hid hs
                 have HK4 := Lib.hid (show w.grownBy w4 none from hs.tl.hd)
                 clear hg hs)
              | (go_at_call 75
                 with_reducible refine (HH1.out _ HK4.out).mono ?_
                 rintro e w5 ⟨rfl, hg⟩
                 have hs := HS4.out.grown hg
                 clear x0 x1 x2 x3 x4 x5 x6
                 obtain ⟨x0, x1, x2, x3, x4, x5, x6⟩ := bq7 hs.hd
                 have HS5 := Lib.hid hs
                 have HK5 := Lib.hid (show w.grownBy w5 none from hs.tl.hd)
                 clear hg hs))
            go_ret
            exact ⟨rfl, HK5.out⟩
          | true =>
            cases s2 with
            | false =>
              repeat (first | rw [Bool.false_and] | rw [Bool.and_false] | rw [Bool.true_and] | rw [Bool.and_true])
              go_enter Tryd.func33, Tryd.ntmps33
              go_wp2_with (first
                | (go_at_call 73
                   with_reducible refine (HF.out _ HK0.out).mono ?_
                   rintro e w1 ⟨rfl, hg⟩
                   have hs := HS0.out.grown hg
                   clear x0 x1 x2 x3 x4 x5 x6
                   obtain ⟨x0, x1, x2, x3, x4, x5, x6⟩ := bq7 hs.hd
                   have HS1 := Lib.hid hs
                   have HK1 := Lib.hid (show w.grownBy w1 none from hs.tl.hd)
                   clear hg hs)
                | (go_at_call 74
                   with_reducible refine (HW1.out _ HK1.out).mono ?_
                   rintro e w2 ⟨rfl, hg⟩
                   have hs := HS1.out.grown hg
                   clear x0 x1 x2 x3 x4 x5 x6
                   obtain ⟨x0, x1, x2, x3, x4, x5, x6⟩ := bq7 hs.hd
                   have HS2 := Lib.hid hs
                   have HK2 := Lib.hid (show w.grownBy w2 none from hs.tl.hd)
                   clear hg hs)
                | (go_at_call 74
                   with_reducible refine (HW2.out _ HK2.out).mono ?_
                   rintro e w3 ⟨rfl, hg⟩
                   have hs := HS2.out.grown hg
                   clear x0 x1 x2 x3 x4 x5 x6
                   obtain ⟨x0, x1, x2, x3, x4, x5, x6⟩ := bq7 hs.hd
                   have HS3 := Lib.hid hs
                   have HK3 := Lib.hid (show w.grownBy w3 none from hs.tl.hd)
                   clear hg hs)
                | (go_at_call 74
                   with_reducible refine (HW3.out _ HK3.out).mono ?_
                   rintro e w4 ⟨rfl, hg⟩
                   have hs := HS3.out.grown hg
                   clear x0 x1 x2 x3 x4 x5 x6
                   obtain ⟨x0, x1, x2, x3, x4, x5, x6⟩ := bq7 hs.hd
                   have HS4 := Lib.hid hs
                   have HK4 := Lib.hid (show w.grownBy w4 none from hs.tl.hd)
                   clear hg hs)
                | (go_at_call 75
                   with_reducible refine (HH1.out _ HK4.out).mono ?_
                   rintro e w5 ⟨rfl, hg⟩
                   have hs := HS4.out.grown hg
                   clear x0 x1 x2 x3 x4 x5 x6
                   obtain ⟨x0, x1, x2, x3, x4, x5, x6⟩ := bq7 hs.hd
                   have HS5 := Lib.hid hs
                   have HK5 := Lib.hid (show w.grownBy w5 none from hs.tl.hd)
                   clear hg hs)
                | (go_at_call 75
                   with_reducible refine (HH2.out _ HK5.out).mono ?_
                   rintro e w6 ⟨rfl, hg⟩
                   have hs := HS5.out.grown hg
                   clear x0 x1 x2 x3 x4 x5 x6
                   obtain ⟨x0, x1, x2, x3, x4, x5, x6⟩ := bq7 hs.hd
                   have HS6 := Lib.hid hs
                   have HK6 := Lib.hid (show w.grownBy w6 none from hs.tl.hd)
                   clear hg hs))
              go_ret
              exact ⟨rfl, HK6.out⟩
            | true =>
              cases s3 with
              | false =>
                repeat (first | rw [Bool.false_and] | rw [Bool.and_false] | rw [Bool.true_and] | rw [Bool.and_true])
                go_enter Tryd.func33, Tryd.ntmps33
                go_wp2_with (first
                  | (go_at_call 73
                     with_reducible refine (HF.out _ HK0.out).mono ?_
                     rintro e w1 ⟨rfl, hg⟩
                     have hs := HS0.out.grown hg
                     clear x0 x1 x2 x3 x4 x5 x6
                     obtain ⟨x0, x1, x2, x3, x4, x5, x6⟩ := bq7 hs.hd
                     have HS1 := Lib.hid hs
                     have HK1 := Lib.hid (show w.grownBy w1 none from hs.tl.hd)
                     clear hg hs)
                  | (go_at_call 74
                     with_reducible refine (HW1.out _ HK1.out).mono ?_
                     rintro e w2 ⟨rfl, hg⟩
                     have hs := HS1.out.grown hg
                     clear x0 x1 x2 x3 x4 x5 x6
                     obtain ⟨x0, x1, x2, x3, x4, x5, x6⟩ := bq7 hs.hd
                     have HS2 := Lib.hid hs
                     have HK2 := Lib.hid (show w.grownBy w2 none from hs.tl.hd)
                     clear hg hs)
                  | (go_at_call 74
                     with_reducible refine (HW2.out _ HK2.out).mono ?_
                     rintro e w3 ⟨rfl, hg⟩
                     have hs := HS2.out.grown hg
                     clear x0 x1 x2 x3 x4 x5 x6
                     obtain ⟨x0, x1, x2, x3, x4, x5, x6⟩ := bq7 hs.hd
                     have HS3 := Lib.hid hs
                     have HK3 := Lib.hid (show w.grownBy w3 none from hs.tl.hd)
                     clear hg hs)
                  | (go_at_call 74
                     with_reducible refine (HW3.out _ HK3.out).mono ?_
                     rintro e w4 ⟨rfl, hg⟩
                     have hs := HS3.out.grown hg
                     clear x0 x1 x2 x3 x4 x5 x6
                     obtain ⟨x0, x1, x2, x3, x4, x5, x6⟩ := bq7 hs.hd
                     have HS4 := Lib.hid hs
                     have HK4 := Lib.hid (show w.grownBy w4 none from hs.tl.hd)
                     clear hg hs)
                  | (go_at_call 75
                     with_reducible refine (HH1.out _ HK4.out).mono ?_
                     rintro e w5 ⟨rfl, hg⟩
                     have hs := HS4.out.grown hg
                     clear x0 x1 x2 x3 x4 x5 x6
                     obtain ⟨x0, x1, x2, x3, x4, x5, x6⟩ := bq7 hs.hd
                     have HS5 := Lib.hid hs
                     have HK5 := Lib.hid (show w.grownBy w5 none from hs.tl.hd)
                     clear hg hs)
                  | (go_at_call 75
                     with_reducible refine (HH2.out _ HK5.out).mono ?_
                     rintro e w6 ⟨rfl, hg⟩
                     have hs := HS5.out.grown hg
                     clear x0 x1 x2 x3 x4 x5 x6
                     obtain ⟨x0, x1, x2, x3, x4, x5, x6⟩ := bq7 hs.hd
                     have HS6 := Lib.hid hs
                     have HK6 := Lib.hid (show w.grownBy w6 none from hs.tl.hd)
                     clear hg hs)
                  | (go_at_call 75
                     with_reducible refine (HH3.out _ HK6.out).mono ?_
                     rintro e w7 ⟨rfl, hg⟩
                     have hs := HS6.out.grown hg
                     clear x0 x1 x2 x3 x4 x5 x6
                     obtain ⟨x0, x1, x2, x3, x4, x5, x6⟩ := bq7 hs.hd
                     have HS7 := Lib.hid hs
                     have HK7 := Lib.hid (show w.grownBy w7 none from hs.tl.hd)
                     clear hg hs))
                go_ret
                exact ⟨rfl, HK7.out⟩
              | true =>
                cases s4 with
                | false =>
                  repeat (first | rw [Bool.false_and] | rw [Bool.and_false] | rw [Bool.true_and] | rw [Bool.and_true])
                  go_enter Tryd.func33, Tryd.ntmps33
                  go_wp2_with (first
                    | (go_at_call 73
                       with_reducible refine (HF.out _ HK0.out).mono ?_
                       rintro e w1 ⟨rfl, hg⟩
                       have hs := HS0.out.grown hg
                       clear x0 x1 x2 x3 x4 x5 x6
                       obtain ⟨x0, x1, x2, x3, x4, x5, x6⟩ := bq7 hs.hd
                       have HS1 := Lib.hid hs
                       have HK1 := Lib.hid (show w.grownBy w1 none from hs.tl.hd)
                       clear hg hs)
                    | (go_at_call 74
                       with_reducible refine (HW1.out _ HK1.out).mono ?_
                       rintro e w2 ⟨rfl, hg⟩
                       have hs := HS1.out.grown hg
                       clear x0 x1 x2 x3 x4 x5 x6
                       obtain ⟨x0, x1, x2, x3, x4, x5, x6⟩ := bq7 hs.hd
                       have HS2 := Lib.hid hs
                       have HK2 := Lib.hid (show w.grownBy w2 none from hs.tl.hd)
                       clear hg hs)
                    | (go_at_call 74
                       with_reducible refine (HW2.out _ HK2.out).mono ?_
                       rintro e w3 ⟨rfl, hg⟩
                       have hs := HS2.out.grown hg
                       clear x0 x1 x2 x3 x4 x5 x6
                       obtain ⟨x0, x1, x2, x3, x4, x5, x6⟩ := bq7 hs.hd
                       have HS3 := Lib.hid hs
                       have HK3 := Lib.hid (show w.grownBy w3 none from hs.tl.hd)
                       clear hg hs)
                    | (go_at_call 74
                       with_reducible refine (HW3.out _ HK3.out).mono ?_
                       rintro e w4 ⟨rfl, hg⟩
                       have hs := HS3.out.grown hg
                       clear x0 x1 x2 x3 x4 x5 x6
                       obtain ⟨x0, x1, x2, x3, x4, x5, x6⟩ := bq7 hs.hd
                       have HS4 := Lib.hid hs
                       have HK4 := Lib.hid (show w.grownBy w4 none from hs.tl.hd)
                       clear hg hs)
                    | (go_at_call 75
                       with_reducible refine (HH1.out _ HK4.out).mono ?_
                       rintro e w5 ⟨rfl, hg⟩
                       have hs := HS4.out.grown hg
                       clear x0 x1 x2 x3 x4 x5 x6
                       obtain ⟨x0, x1, x2, x3, x4, x5, x6⟩ := bq7 hs.hd
                       have HS5 := Lib.hid hs
                       have HK5 := Lib.hid (show w.grownBy w5 none from hs.tl.hd)
                       clear hg hs)
                    | (go_at_call 75
                       with_reducible refine (HH2.out _ HK5.out).mono ?_
                       rintro e w6 ⟨rfl, hg⟩
                       have hs := HS5.out.grown hg
                       clear x0 x1 x2 x3 x4 x5 x6
                       obtain ⟨x0, x1, x2, x3, x4, x5, x6⟩ := bq7 hs.hd
                       have HS6 := Lib.hid hs
                       have HK6 := Lib.hid (show w.grownBy w6 none from hs.tl.hd)
                       clear hg hs)
                    | (go_at_call 75
                       with_reducible refine (HH3.out _ HK6.out).mono ?_
                       rintro e w7 ⟨rfl, hg⟩
                       have hs := HS6.out.grown hg
                       clear x0 x1 x2 x3 x4 x5 x6
                       obtain ⟨x0, x1, x2, x3, x4, x5, x6⟩ := bq7 hs.hd
                       have HS7 := Lib.hid hs
                       have HK7 := Lib.hid (show w.grownBy w7 none from hs.tl.hd)
                       clear hg hs)
                    | (go_at_call 75
                       with_reducible refine (HH4.out _ HK7.out).mono ?_
                       rintro e w8 ⟨rfl, hg⟩
                       have hs := HS7.out.grown hg
                       clear x0 x1 x2 x3 x4 x5 x6
                       obtain ⟨x0, x1, x2, x3, x4, x5, x6⟩ := bq7 hs.hd
                       have HS8 := Lib.hid hs
                       have HK8 := Lib.hid (show w.grownBy w8 none from hs.tl.hd)
                       clear hg hs))
                  go_ret
                  exact ⟨rfl, HK8.out⟩
                | true =>
                  cases v1 with
                  | false =>
                    repeat (first | rw [Bool.false_and] | rw [Bool.and_false] | rw [Bool.true_and] | rw [Bool.and_true])
                    go_enter Tryd.func33, Tryd.ntmps33
                    go_wp2_with (first
                      | (go_at_call 73
                         with_reducible refine (HF.out _ HK0.out).mono ?_
                         rintro e w1 ⟨rfl, hg⟩
                         have hs := HS0.out.grown hg
                         clear x0 x1 x2 x3 x4 x5 x6
                         obtain ⟨x0, x1, x2, x3, x4, x5, x6⟩ := bq7 hs.hd
                         have HS1 := Lib.hid hs
                         have HK1 := Lib.hid (show w.grownBy w1 none from hs.tl.hd)
                         clear hg hs)
                      | (go_at_call 74
                         with_reducible refine (HW1.out _ HK1.out).mono ?_
                         rintro e w2 ⟨rfl, hg⟩
                         have hs := HS1.out.grown hg
                         clear x0 x1 x2 x3 x4 x5 x6
                         obtain ⟨x0, x1, x2, x3, x4, x5, x6⟩ := bq7 hs.hd
                         have HS2 := Lib.hid hs
                         have HK2 := Lib.hid (show w.grownBy w2 none from hs.tl.hd)
                         clear hg hs)
                      | (go_at_call 74
                         with_reducible refine (HW2.out _ HK2.out).mono ?_
                         rintro e w3 ⟨rfl, hg⟩
                         have hs := HS2.out.grown hg
                         clear x0 x1 x2 x3 x4 x5 x6
                         obtain ⟨x0, x1, x2, x3, x4, x5, x6⟩ := bq7 hs.hd
                         have HS3 := Lib.hid hs
                         have HK3 := Lib.hid (show w.grownBy w3 none from hs.tl.hd)
                         clear hg hs)
                      | (go_at_call 74
                         with_reducible refine (HW3.out _ HK3.out).mono ?_
                         rintro e w4 ⟨rfl, hg⟩
                         have hs := HS3.out.grown hg
                         clear x0 x1 x2 x3 x4 x5 x6
                         obtain ⟨x0, x1, x2, x3, x4, x5, x6⟩ := bq7 hs.hd
                         have HS4 := Lib.hid hs
                         have HK4 := Lib.hid (show w.grownBy w4 none from hs.tl.hd)
                         clear hg hs)
                      | (go_at_call 75
                         with_reducible refine (HH1.out _ HK4.out).mono ?_
                         rintro e w5 ⟨rfl, hg⟩
                         have hs := HS4.out.grown hg
                         clear x0 x1 x2 x3 x4 x5 x6
                         obtain ⟨x0, x1, x2, x3, x4, x5, x6⟩ := bq7 hs.hd
                         have HS5 := Lib.hid hs
                         have HK5 := Lib.hid (show w.grownBy w5 none from hs.tl.hd)
                         clear hg hs)
                      | (go_at_call 75
                         with_reducible refine (HH2.out _ HK5.out).mono ?_
                         rintro e w6 ⟨rfl, hg⟩
                         have hs := HS5.out.grown hg
                         clear x0 x1 x2 x3 x4 x5 x6
                         obtain ⟨x0, x1, x2, x3, x4, x5, x6⟩ := bq7 hs.hd
                         have HS6 := Lib.hid hs
                         have HK6 := Lib.hid (show w.grownBy w6 none from hs.tl.hd)
                         clear hg hs)
                      | (go_at_call 75
                         with_reducible refine (HH3.out _ HK6.out).mono ?_
                         rintro e w7 ⟨rfl, hg⟩
                         have hs := HS6.out.grown hg
                         clear x0 x1 x2 x3 x4 x5 x6
                         obtain ⟨x0, x1, x2, x3, x4, x5, x6⟩ := bq7 hs.hd
                         have HS7 := Lib.hid hs
                         have HK7 := Lib.hid (show w.grownBy w7 none from hs.tl.hd)
                         clear hg hs)
                      | (go_at_call 75
                         with_reducible refine (HH4.out _ HK7.out).mono ?_
                         rintro e w8 ⟨rfl, hg⟩
                         have hs := HS7.out.grown hg
                         clear x0 x1 x2 x3 x4 x5 x6
                         obtain ⟨x0, x1, x2, x3, x4, x5, x6⟩ := bq7 hs.hd
                         have HS8 := Lib.hid hs
                         have HK8 := Lib.hid (show w.grownBy w8 none from hs.tl.hd)
                         clear hg hs)
                      | (go_at_call 76
                         with_reducible refine (HV1.out _ HK8.out).mono ?_
                         rintro e w9 ⟨rfl, hg⟩
                         have hs := HS8.out.grown hg
                         clear x0 x1 x2 x3 x4 x5 x6
                         obtain ⟨x0, x1, x2, x3, x4, x5, x6⟩ := bq7 hs.hd
                         have HS9 := Lib.hid hs
                         have HK9 := Lib.hid (show w.grownBy w9 none from hs.tl.hd)
                         clear hg hs))
                    go_ret
                    exact ⟨rfl, HK9.out⟩
                  | true =>
                    cases v2 with
                    | false =>
                      repeat (first | rw [Bool.false_and] | rw [Bool.and_false] | rw [Bool.true_and] | rw [Bool.and_true])
                      go_enter Tryd.func33, Tryd.ntmps33
                      go_wp2_with (first
                        | (go_at_call 73
                           with_reducible refine (HF.out _ HK0.out).mono ?_
                           rintro e w1 ⟨rfl, hg⟩
                           have hs := HS0.out.grown hg
                           clear x0 x1 x2 x3 x4 x5 x6
                           obtain ⟨x0, x1, x2, x3, x4, x5, x6⟩ := bq7 hs.hd
                           have HS1 := Lib.hid hs
                           have HK1 := Lib.hid (show w.grownBy w1 none from hs.tl.hd)
                           clear hg hs)
                        | (go_at_call 74
                           with_reducible refine (HW1.out _ HK1.out).mono ?_
                           rintro e w2 ⟨rfl, hg⟩
                           have hs := HS1.out.grown hg
                           clear x0 x1 x2 x3 x4 x5 x6
                           obtain ⟨x0, x1, x2, x3, x4, x5, x6⟩ := bq7 hs.hd
                           have HS2 := Lib.hid hs
                           have HK2 := Lib.hid (show w.grownBy w2 none from hs.tl.hd)
                           clear hg hs)
                        | (go_at_call 74
                           with_reducible refine (HW2.out _ HK2.out).mono ?_
                           rintro e w3 ⟨rfl, hg⟩
                           have hs := HS2.out.grown hg
                           clear x0 x1 x2 x3 x4 x5 x6
                           obtain ⟨x0, x1, x2, x3, x4, x5, x6⟩ := bq7 hs.hd
                           have HS3 := Lib.hid hs
                           have HK3 := Lib.hid (show w.grownBy w3 none from hs.tl.hd)
                           clear hg hs)
                        | (go_at_call 74
                           with_reducible refine (HW3.out _ HK3.out).mono ?_
                           rintro e w4 ⟨rfl, hg⟩
                           have hs := HS3.out.grown hg
                           clear x0 x1 x2 x3 x4 x5 x6
                           obtain ⟨x0, x1, x2, x3, x4, x5, x6⟩ := bq7 hs.hd
                           have HS4 := Lib.hid hs
                           have HK4 := Lib.hid (show w.grownBy w4 none from hs.tl.hd)
                           clear hg hs)
                        | (go_at_call 75
                           with_reducible refine (HH1.out _ HK4.out).mono ?_
                           rintro e w5 ⟨rfl, hg⟩
                           have hs := HS4.out.grown hg
                           clear x0 x1 x2 x3 x4 x5 x6
                           obtain ⟨x0, x1, x2, x3, x4, x5, x6⟩ := bq7 hs.hd
                           have HS5 := Lib.hid hs
                           have HK5 := Lib.hid (show w.grownBy w5 none from hs.tl.hd)
                           clear hg hs)
                        | (go_at_call 75
                           with_reducible refine (HH2.out _ HK5.out).mono ?_
                           rintro e w6 ⟨rfl, hg⟩
                           have hs := HS5.out.grown hg
                           clear x0 x1 x2 x3 x4 x5 x6
                           obtain ⟨x0, x1, x2, x3, x4, x5, x6⟩ := bq7 hs.hd
                           have HS6 := Lib.hid hs
                           have HK6 := Lib.hid (show w.grownBy w6 none from hs.tl.hd)
                           clear hg hs)
                        | (go_at_call 75
                           with_reducible refine (HH3.out _ HK6.out).mono ?_
                           rintro e w7 ⟨rfl, hg⟩
                           have hs := HS6.out.grown hg
                           clear x0 x1 x2 x3 x4 x5 x6
                           obtain ⟨x0, x1, x2, x3, x4, x5, x6⟩ := bq7 hs.hd
                           have HS7 := Lib.hid hs
                           have HK7 := Lib.hid (show w.grownBy w7 none from hs.tl.hd)
                           clear hg hs)
                        | (go_at_call 75
                           with_reducible refine (HH4.out _ HK7.out).mono ?_
                           rintro e w8 ⟨rfl, hg⟩
                           have hs := HS7.out.grown hg
                           clear x0 x1 x2 x3 x4 x5 x6
                           obtain ⟨x0, x1, x2, x3, x4, x5, x6⟩ := bq7 hs.hd
                           have HS8 := Lib.hid hs
                           have HK8 := Lib.hid (show w.grownBy w8 none from hs.tl.hd)
                           clear hg hs)
                        | (go_at_call 76
                           with_reducible refine (HV1.out _ HK8.out).mono ?_
                           rintro e w9 ⟨rfl, hg⟩
                           have hs := HS8.out.grown hg
                           clear x0 x1 x2 x3 x4 x5 x6
                           obtain ⟨x0, x1, x2, x3, x4, x5, x6⟩ := bq7 hs.hd
                           have HS9 := Lib.hid hs
                           have HK9 := Lib.hid (show w.grownBy w9 none from hs.tl.hd)
                           clear hg hs)
                        | (go_at_call 76
                           with_reducible refine (HV2.out _ HK9.out).mono ?_
                           rintro e w10 ⟨rfl, hg⟩
                           have hs := HS9.out.grown hg
                           clear x0 x1 x2 x3 x4 x5 x6
                           obtain ⟨x0, x1, x2, x3, x4, x5, x6⟩ := bq7 hs.hd
                           have HS10 := Lib.hid hs
                           have HK10 := Lib.hid (show w.grownBy w10 none from hs.tl.hd)
                           clear hg hs))
                      go_ret
                      exact ⟨rfl, HK10.out⟩
                    | true =>
                      cases v3 with
                      | false =>
                        repeat (first | rw [Bool.false_and] | rw [Bool.and_false] | rw [Bool.true_and] | rw [Bool.and_true])
                        go_enter Tryd.func33, Tryd.ntmps33
                        go_wp2_with (first
                          | (go_at_call 73
                             with_reducible refine (HF.out _ HK0.out).mono ?_
                             rintro e w1 ⟨rfl, hg⟩
                             have hs := HS0.out.grown hg
                             clear x0 x1 x2 x3 x4 x5 x6
                             obtain ⟨x0, x1, x2, x3, x4, x5, x6⟩ := bq7 hs.hd
                             have HS1 := Lib.hid hs
                             have HK1 := Lib.hid (show w.grownBy w1 none from hs.tl.hd)
                             clear hg hs)
                          | (go_at_call 74
                             with_reducible refine (HW1.out _ HK1.out).mono ?_
                             rintro e w2 ⟨rfl, hg⟩
                             have hs := HS1.out.grown hg
                             clear x0 x1 x2 x3 x4 x5 x6
                             obtain ⟨x0, x1, x2, x3, x4, x5, x6⟩ := bq7 hs.hd
                             have HS2 := Lib.hid hs
                             have HK2 := Lib.hid (show w.grownBy w2 none from hs.tl.hd)
                             clear hg hs)
                          | (go_at_call 74
                             with_reducible refine (HW2.out _ HK2.out).mono ?_
                             rintro e w3 ⟨rfl, hg⟩
                             have hs := HS2.out.grown hg
                             clear x0 x1 x2 x3 x4 x5 x6
                             obtain ⟨x0, x1, x2, x3, x4, x5, x6⟩ := bq7 hs.hd
                             have HS3 := Lib.hid hs
                             have HK3 := Lib.hid (show w.grownBy w3 none from hs.tl.hd)
                             clear hg hs)
                          | (go_at_call 74
                             with_reducible refine (HW3.out _ HK3.out).mono ?_
                             rintro e w4 ⟨rfl, hg⟩
                             have hs := HS3.out.grown hg
                             clear x0 x1 x2 x3 x4 x5 x6
                             obtain ⟨x0, x1, x2, x3, x4, x5, x6⟩ := bq7 hs.hd
                             have HS4 := Lib.hid hs
                             have HK4 := Lib.hid (show w.grownBy w4 none from hs.tl.hd)
                             clear hg hs)
                          | (go_at_call 75
                             with_reducible refine (HH1.out _ HK4.out).mono ?_
                             rintro e w5 ⟨rfl, hg⟩
                             have hs := HS4.out.grown hg
                             clear x0 x1 x2 x3 x4 x5 x6
                             obtain ⟨x0, x1, x2, x3, x4, x5, x6⟩ := bq7 hs.hd
                             have HS5 := Lib.hid hs
                             have HK5 := Lib.hid (show w.grownBy w5 none from hs.tl.hd)
                             clear hg hs)
                          | (go_at_call 75
                             with_reducible refine (HH2.out _ HK5.out).mono ?_
                             rintro e w6 ⟨rfl, hg⟩
                             have hs := HS5.out.grown hg
                             clear x0 x1 x2 x3 x4 x5 x6
                             obtain ⟨x0, x1, x2, x3, x4, x5, x6⟩ := bq7 hs.hd
                             have HS6 := Lib.hid hs
                             have HK6 := Lib.hid (show w.grownBy w6 none from hs.tl.hd)
                             clear hg hs)
                          | (go_at_call 75
                             with_reducible refine (HH3.out _ HK6.out).mono ?_
                             rintro e w7 ⟨rfl, hg⟩
                             have hs := HS6.out.grown hg
                             clear x0 x1 x2 x3 x4 x5 x6
                             obtain ⟨x0, x1, x2, x3, x4, x5, x6⟩ := bq7 hs.hd
                             have HS7 := Lib.hid hs
                             have HK7 := Lib.hid (show w.grownBy w7 none from hs.tl.hd)
                             clear hg hs)
                          | (go_at_call 75
                             with_reducible refine (HH4.out _ HK7.out).mono ?_
                             rintro e w8 ⟨rfl, hg⟩
                             have hs := HS7.out.grown hg
                             clear x0 x1 x2 x3 x4 x5 x6
                             obtain ⟨x0, x1, x2, x3, x4, x5, x6⟩ := bq7 hs.hd
                             have HS8 := Lib.hid hs
                             have HK8 := Lib.hid (show w.grownBy w8 none from hs.tl.hd)
                             clear hg hs)
                          | (go_at_call 76
                             with_reducible refine (HV1.out _ HK8.out).mono ?_
                             rintro e w9 ⟨rfl, hg⟩
                             have hs := HS8.out.grown hg
                             clear x0 x1 x2 x3 x4 x5 x6
                             obtain ⟨x0, x1, x2, x3, x4, x5, x6⟩ := bq7 hs.hd
                             have HS9 := Lib.hid hs
                             have HK9 := Lib.hid (show w.grownBy w9 none from hs.tl.hd)
                             clear hg hs)
                          | (go_at_call 76
                             with_reducible refine (HV2.out _ HK9.out).mono ?_
                             rintro e w10 ⟨rfl, hg⟩
                             have hs := HS9.out.grown hg
                             clear x0 x1 x2 x3 x4 x5 x6
                             obtain ⟨x0, x1, x2, x3, x4, x5, x6⟩ := bq7 hs.hd
                             have HS10 := Lib.hid hs
                             have HK10 := Lib.hid (show w.grownBy w10 none from hs.tl.hd)
                             clear hg hs)
                          | (go_at_call 76
                             with_reducible refine (HV3.out _ HK10.out).mono ?_
                             rintro e w11 ⟨rfl, hg⟩
                             have hs := HS10.out.grown hg
                             clear x0 x1 x2 x3 x4 x5 x6
                             obtain ⟨x0, x1, x2, x3, x4, x5, x6⟩ := bq7 hs.hd
                             have HS11 := Lib.hid hs
                             have HK11 := Lib.hid (show w.grownBy w11 none from hs.tl.hd)
                             clear hg hs))
                        go_ret
                        exact ⟨rfl, HK11.out⟩
                      | true =>
                        repeat (first | rw [Bool.false_and] | rw [Bool.and_false] | rw [Bool.true_and] | rw [Bool.and_true])
                        go_enter Tryd.func33, Tryd.ntmps33
                        go_wp2_with (first
                          | (go_at_call 73
                             with_reducible refine (HF.out _ HK0.out).mono ?_
                             rintro e w1 ⟨rfl, hg⟩
                             have hs := HS0.out.grown hg
                             clear x0 x1 x2 x3 x4 x5 x6
                             obtain ⟨x0, x1, x2, x3, x4, x5, x6⟩ := bq7 hs.hd
                             have HS1 := Lib.hid hs
                             have HK1 := Lib.hid (show w.grownBy w1 none from hs.tl.hd)
                             clear hg hs)
                          | (go_at_call 74
                             with_reducible refine (HW1.out _ HK1.out).mono ?_
                             rintro e w2 ⟨rfl, hg⟩
                             have hs := HS1.out.grown hg
                             clear x0 x1 x2 x3 x4 x5 x6
                             obtain ⟨x0, x1, x2, x3, x4, x5, x6⟩ := bq7 hs.hd
                             have HS2 := Lib.hid hs
                             have HK2 := Lib.hid (show w.grownBy w2 none from hs.tl.hd)
                             clear hg hs)
                          | (go_at_call 74
                             with_reducible refine (HW2.out _ HK2.out).mono ?_
                             rintro e w3 ⟨rfl, hg⟩
                             have hs := HS2.out.grown hg
                             clear x0 x1 x2 x3 x4 x5 x6
                             obtain ⟨x0, x1, x2, x3, x4, x5, x6⟩ := bq7 hs.hd
                             have HS3 := Lib.hid hs
                             have HK3 := Lib.hid (show w.grownBy w3 none from hs.tl.hd)
                             clear hg hs)
                          | (go_at_call 74
                             with_reducible refine (HW3.out _ HK3.out).mono ?_
                             rintro e w4 ⟨rfl, hg⟩
                             have hs := HS3.out.grown hg
                             clear x0 x1 x2 x3 x4 x5 x6
                             obtain ⟨x0, x1, x2, x3, x4, x5, x6⟩ := bq7 hs.hd
                             have HS4 := Lib.hid hs
                             have HK4 := Lib.hid (show w.grownBy w4 none from hs.tl.hd)
                             clear hg hs)
                          | (go_at_call 75
                             with_reducible refine (HH1.out _ HK4.out).mono ?_
                             rintro e w5 ⟨rfl, hg⟩
                             have hs := HS4.out.grown hg
                             clear x0 x1 x2 x3 x4 x5 x6
                             obtain ⟨x0, x1, x2, x3, x4, x5, x6⟩ := bq7 hs.hd
                             have HS5 := Lib.hid hs
                             have HK5 := Lib.hid (show w.grownBy w5 none from hs.tl.hd)
                             clear hg hs)
                          | (go_at_call 75
                             with_reducible refine (HH2.out _ HK5.out).mono ?_
                             rintro e w6 ⟨rfl, hg⟩
                             have hs := HS5.out.grown hg
                             clear x0 x1 x2 x3 x4 x5 x6
                             obtain ⟨x0, x1, x2, x3, x4, x5, x6⟩ := bq7 hs.hd
                             have HS6 := Lib.hid hs
                             have HK6 := Lib.hid (show w.grownBy w6 none from hs.tl.hd)
                             clear hg hs)
                          | (go_at_call 75
                             with_reducible refine (HH3.out _ HK6.out).mono ?_
                             rintro e w7 ⟨rfl, hg⟩
                             have hs := HS6.out.grown hg
                             clear x0 x1 x2 x3 x4 x5 x6
                             obtain ⟨x0, x1, x2, x3, x4, x5, x6⟩ := bq7 hs.hd
                             have HS7 := Lib.hid hs
                             have HK7 := Lib.hid (show w.grownBy w7 none from hs.tl.hd)
                             clear hg hs)
                          | (go_at_call 75
                             with_reducible refine (HH4.out _ HK7.out).mono ?_
                             rintro e w8 ⟨rfl, hg⟩
                             have hs := HS7.out.grown hg
                             clear x0 x1 x2 x3 x4 x5 x6
                             obtain ⟨x0, x1, x2, x3, x4, x5, x6⟩ := bq7 hs.hd
                             have HS8 := Lib.hid hs
                             have HK8 := Lib.hid (show w.grownBy w8 none from hs.tl.hd)
                             clear hg hs)
                          | (go_at_call 76
                             with_reducible refine (HV1.out _ HK8.out).mono ?_
                             rintro e w9 ⟨rfl, hg⟩
                             have hs := HS8.out.grown hg
                             clear x0 x1 x2 x3 x4 x5 x6
                             obtain ⟨x0, x1, x2, x3, x4, x5, x6⟩ := bq7 hs.hd
                             have HS9 := Lib.hid hs
                             have HK9 := Lib.hid (show w.grownBy w9 none from hs.tl.hd)
                             clear hg hs)
                          | (go_at_call 76
                             with_reducible refine (HV2.out _ HK9.out).mono ?_
                             rintro e w10 ⟨rfl, hg⟩
                             have hs := HS9.out.grown hg
                             clear x0 x1 x2 x3 x4 x5 x6
                             obtain ⟨x0, x1, x2, x3, x4, x5, x6⟩ := bq7 hs.hd
                             have HS10 := Lib.hid hs
                             have HK10 := Lib.hid (show w.grownBy w10 none from hs.tl.hd)
                             clear hg hs)
                          | (go_at_call 76
                             with_reducible refine (HV3.out _ HK10.out).mono ?_
                             rintro e w11 ⟨rfl, hg⟩
                             have hs := HS10.out.grown hg
                             clear x0 x1 x2 x3 x4 x5 x6
                             obtain ⟨x0, x1, x2, x3, x4, x5, x6⟩ := bq7 hs.hd
                             have HS11 := Lib.hid hs
                             have HK11 := Lib.hid (show w.grownBy w11 none from hs.tl.hd)
                             clear hg hs)
                          | (go_at_call 76
                             with_reducible refine (HV4.out _ HK11.out).mono ?_
                             rintro e w12 ⟨rfl, hg⟩
                             have hs := HS11.out.grown hg
                             clear x0 x1 x2 x3 x4 x5 x6
                             obtain ⟨x0, x1, x2, x3, x4, x5, x6⟩ := bq7 hs.hd
                             have HS12 := Lib.hid hs
                             have HK12 := Lib.hid (show w.grownBy w12 none from hs.tl.hd)
                             clear hg hs))
                        go_ret
                        exact ⟨rfl, HK12.out⟩
def btwB (lo hi x : Int) : Bool := decide (lo ≤ x ∧ x ≤ hi)
set_option maxHeartbeats 1000000 in
theorem l1AllB_any (v : Value) (zs : List Int) (lo hi : Int) (w : World) (hv : IntsV w v zs) (hl : zs.length ≤ 2000000) :
    Calls Tryd.prog 99 #[v, .int .i64 lo, .int .i64 hi] w fun e w' => e = .returned (.bool (zs.all (btwB lo hi))) ∧ w = w' := by
  have HV := Lib.hid hv
  have HE := Lib.hid fun a W => show Calls Tryd.prog 68 #[.int .i64 a, .int .i64 lo, .int .i64 hi] W fun e w' => e = .returned (.bool (btwB lo hi a)) ∧ W = w' from l1In_any a lo hi W
  obtain ⟨a, c, rfl⟩ := hv.shape
  generalize hlz : zs.length = m at *
  have HL := Lib.hid hlz
  clear hv hlz
  go_enter Tryd.func99, Tryd.ntmps99
  go_wp2_with fail
  go_loopw [8, 11] (fun _ i wr => ∃ k : Nat, k ≤ m ∧ i = .int .i64 k ∧ (∀ j, j < k → btwB lo hi (zs.getD j 0) = true) ∧ wr = w) (fun _ i _ => m - (intOf i).toNat)
  case atStart => exact ⟨0, by omega, rfl, fun j hj => by omega, rfl⟩
  case round =>
    obtain ⟨k, hk, rfl, hall, rfl⟩ := hrel
    have HA := Lib.hid hall
    clear hall
    by_cases hlt : k < m
    · have hkz : k < zs.length := by rw [HL.out]; exact hlt
      obtain ⟨b, o, rfl, _, x0⟩ := HV.out.atD hkz
      have HC := Lib.hid (HE.out (zs.getD k 0) wr)
      have hki : (k : Int) < (m : Int) := by omega
      cases hb : btwB lo hi (zs.getD k 0) with
      | true =>
        rw [hb] at HC
        have HN := Lib.hid (show ∀ j, j < k + 1 → btwB lo hi (zs.getD j 0) = true from fun j hj => by
          by_cases e : j = k
          · rw [e]; exact hb
          · exact HA.out j (by omega))
        clear hb hkz
        generalize zs.getD k 0 = x at x0 HC
        go_wp2_with (go_at_call 68; with_reducible refine HC.out.mono ?_; rintro e w2 ⟨rfl, rfl⟩)
        go_roundw
        case rel => exact ⟨k + 1, by omega, by go_num, HN.out, (by first | rfl | trivial)⟩
        case measure => simp [intOf]; omega
      | false =>
        rw [hb] at HC
        have HF := Lib.hid (show (zs.all (btwB lo hi)) = false from all_false_at (gmi hkz) hb)
        clear hb hkz
        generalize zs.getD k 0 = x at x0 HC
        go_wp2_with (go_at_call 68; with_reducible refine HC.out.mono ?_; rintro e w2 ⟨rfl, rfl⟩)
        go_ret
        exact ⟨by rw [HF.out]; try rfl, rfl⟩
    · have HT := Lib.hid (show (zs.all (btwB lo hi)) = true from all_of_int fun j hj => HA.out j (by rw [HL.out] at hj; omega))
      have hki : ¬ (k : Int) < (m : Int) := by omega
      go_wp2_with fail
      go_ret
      exact ⟨by rw [HT.out]; try rfl, rfl⟩
theorem fdIn_any (p : Int) (v : Value) (zs : List Int) (w : World) (hv : IntsV w v zs) (hl : zs.length ≤ 2000000) (h2 : 2 ≤ p) (h97 : p ≤ 97) :
    Calls Tryd.prog 83 #[.int .i64 p, v] w fun e w' => e = .returned (.bool (zs.all (elB p))) ∧ w = w' := by
  have h := l1AllB_any v zs 0 (p - 1) w hv hl
  have e : zs.all (btwB 0 (p - 1)) = zs.all (elB p) := by
    congr 1
    funext x
    unfold elB btwB
    congr 1
    rw [eq_iff_iff]
    omega
  rw [e] at h
  have HC := Lib.hid h
  have hw : IntKind.i64.wrap (p - 1) = p - 1 := wrap_id (by omega) (by omega)
  obtain ⟨a, c, rfl⟩ := hv.shape
  generalize zs.length = m at *
  clear hv h e
  go_enter Tryd.func83, Tryd.ntmps83
  go_wp2_with (go_at_call 99; with_reducible refine HC.out.mono ?_; rintro e w2 ⟨rfl, rfl⟩)
  go_ret
  exact ⟨rfl, rfl⟩
set_option maxHeartbeats 1000000 in
theorem spRows_any (p n : Int) (v : Value) (L : List (List Int)) (w : World) (hv : RdS w v L) (hl : L.length ≤ 2000000) (hle : ∀ r ∈ L, r.length ≤ 2000000) (h2 : 2 ≤ p) (h97 : p ≤ 97) :
    Calls Tryd.prog 114 #[.int .i64 p, .int .i64 n, v] w fun e w' => e = .returned (.bool (vsB p n L)) ∧ w = w' := by
  have HV := Lib.hid hv
  have HFI := Lib.hid fun v zs W (h : IntsV W v zs) (hl : zs.length ≤ 2000000) => fdIn_any p v zs W h hl h2 h97
  have HLE := Lib.hid hle
  obtain ⟨a, c, rfl⟩ := hv.shape
  generalize hlz : L.length = m at *
  have HL := Lib.hid hlz
  clear hv hlz h2 h97 hle
  go_enter Tryd.func114, Tryd.ntmps114
  go_wp2_with fail
  go_loopw [8, 11] (fun _ i wr => ∃ k : Nat, k ≤ m ∧ i = .int .i64 k ∧ (∀ j, j < k → vcB p n (L.getD j []) = true) ∧ wr = w) (fun _ i _ => m - (intOf i).toNat)
  case atStart => exact ⟨0, by omega, rfl, fun j hj => by omega, rfl⟩
  case round =>
    obtain ⟨k, hk, rfl, hall, rfl⟩ := hrel
    have HA := Lib.hid hall
    clear hall
    by_cases hlt : k < m
    · have hkz : k < L.length := by rw [HL.out]; exact hlt
      obtain ⟨b, o, rv, rfl, _, x0, hr⟩ := HV.out.at hkz
      have HC := Lib.hid (HFI.out rv (L.getD k []) wr hr (HLE.out _ (gm hkz)))
      have hki : (k : Int) < (m : Int) := by omega
      obtain ⟨ra, rc, rfl⟩ := hr.shape
      have HGM := Lib.hid (gm hkz)
      have HVC := Lib.hid (show vcB p n (L.getD k []) = (decide (((L.getD k []).length : Int) = n) && (L.getD k []).all (elB p)) from rfl)
      generalize hln : (L.getD k []).length = ln at *
      generalize (L.getD k []).all (elB p) = al at *
      clear hr hln hkz
      by_cases hc : (ln : Int) = n
      · have hc1 : ((ln : Int) != n) = false := by simpa using hc
        cases al with
        | true =>
          have HN := Lib.hid (show ∀ j, j < k + 1 → vcB p n (L.getD j []) = true from fun j hj => by
            by_cases e : j = k
            · rw [e, HVC.out, decide_eq_true hc]; rfl
            · exact HA.out j (by omega))
          clear hc
          go_wp2_with (go_at_call 83; with_reducible refine HC.out.mono ?_; rintro e w2 ⟨rfl, rfl⟩)
          go_roundw
          case rel => exact ⟨k + 1, by omega, by go_num, HN.out, (by first | rfl | trivial)⟩
          case measure => simp [intOf]; omega
        | false =>
          have HF := Lib.hid (show vsB p n L = false from all_false_at HGM.out (by rw [HVC.out]; simp))
          clear hc
          go_wp2_with (go_at_call 83; with_reducible refine HC.out.mono ?_; rintro e w2 ⟨rfl, rfl⟩)
          go_ret
          exact ⟨by rw [HF.out]; try rfl, rfl⟩
      · have hc1 : ((ln : Int) != n) = true := by simpa using hc
        have HF := Lib.hid (show vsB p n L = false from all_false_at HGM.out (by rw [HVC.out, decide_eq_false hc]; rfl))
        clear hc
        go_wp2_with fail
        go_ret
        exact ⟨by rw [HF.out]; try rfl, rfl⟩
    · have HT := Lib.hid (show vsB p n L = true from all_of_at fun j hj => HA.out j (by rw [HL.out] at hj; omega))
      have hki : ¬ (k : Int) < (m : Int) := by omega
      go_wp2_with fail
      go_ret
      exact ⟨by rw [HT.out]; try rfl, rfl⟩
set_option maxHeartbeats 1000000 in
theorem ssTable_any (p r c : Int) (v : Value) (L : List (List Int)) (w : World) (hv : RdS w v L) (hl : L.length ≤ 2000000) (hle : ∀ r ∈ L, r.length ≤ 2000000) (h2 : 2 ≤ p) (h97 : p ≤ 97) :
    Calls Tryd.prog 69 #[.int .i64 p, .int .i64 r, .int .i64 c, v] w fun e w' => e = .returned (.bool (tbB p r c L)) ∧ w = w' := by
  have HC := Lib.hid (spRows_any p c v L w hv hl hle h2 h97)
  unfold tbB
  obtain ⟨a, cp, rfl⟩ := hv.shape
  generalize L.length = m at *
  generalize vsB p c L = b at *
  clear hv h2 h97 hle
  by_cases hn : (m : Int) = r
  · have hn1 : ((m : Int) == r) = true := by simpa using hn
    rw [decide_eq_true hn, Bool.true_and]
    clear hn
    go_enter Tryd.func69, Tryd.ntmps69
    go_wp2_with (go_at_call 114; with_reducible refine HC.out.mono ?_; rintro e w2 ⟨rfl, rfl⟩)
    go_ret
    exact ⟨rfl, rfl⟩
  · have hn1 : ((m : Int) == r) = false := by simpa using hn
    rw [decide_eq_false hn, Bool.false_and]
    clear hn
    go_enter Tryd.func69, Tryd.ntmps69
    go_wp2_with fail
    go_ret
    exact ⟨rfl, rfl⟩
set_option maxHeartbeats 8000000 in
theorem ssGood_any (p : Int) (s : StSp) (av bv cv dv : Value) (w : World) (h : RdSs w s av bv cv dv) (hs : SmS s) :
    Calls Tryd.prog 29 #[.int .i64 p, .agg #[.int .i64 s.S, .int .i64 s.I, .int .i64 s.O, av, bv, cv, dv]] w fun e w' => e = .returned (.bool (ssB p s)) ∧ w.grownBy w' none := by
  have HF := Lib.hid fun W (hw : w.grownBy W none) => (fdGood_any p W).mono fun e w' h => show e = .returned (.bool (fldB p)) ∧ W.grownBy w' none from ⟨h.1, by rw [← h.2]; exact grownBy_refl _ _⟩
  have HW1 := Lib.hid fun W (hw : w.grownBy W none) => (l1In_any s.S 0 24 W).mono fun e w' h => show e = .returned (.bool (inB3 s.S 24)) ∧ W.grownBy w' none from ⟨h.1, by rw [← h.2]; exact grownBy_refl _ _⟩
  have HW2 := Lib.hid fun W (hw : w.grownBy W none) => (l1In_any s.I 0 8 W).mono fun e w' h => show e = .returned (.bool (inB3 s.I 8)) ∧ W.grownBy w' none from ⟨h.1, by rw [← h.2]; exact grownBy_refl _ _⟩
  have HW3 := Lib.hid fun W (hw : w.grownBy W none) => (l1In_any s.O 0 8 W).mono fun e w' h => show e = .returned (.bool (inB3 s.O 8)) ∧ W.grownBy w' none from ⟨h.1, by rw [← h.2]; exact grownBy_refl _ _⟩
  have HT1 := Lib.hid fun (hp : 2 ≤ p ∧ p ≤ 97) W (hw : w.grownBy W none) => (ssTable_any p s.S s.S _ s.A W (h.a.carry hw) (by have := hs.l; omega) (fun r hr => by have := hs.a r hr; omega) hp.1 hp.2).mono fun e w' h => show e = .returned (.bool (tbB p s.S s.S s.A)) ∧ W.grownBy w' none from ⟨h.1, by rw [← h.2]; exact grownBy_refl _ _⟩
  have HT2 := Lib.hid fun (hp : 2 ≤ p ∧ p ≤ 97) W (hw : w.grownBy W none) => (ssTable_any p s.I s.S _ s.B W (h.b.carry hw) (by have := hs.l; omega) (fun r hr => by have := hs.b r hr; omega) hp.1 hp.2).mono fun e w' h => show e = .returned (.bool (tbB p s.I s.S s.B)) ∧ W.grownBy w' none from ⟨h.1, by rw [← h.2]; exact grownBy_refl _ _⟩
  have HT3 := Lib.hid fun (hp : 2 ≤ p ∧ p ≤ 97) W (hw : w.grownBy W none) => (ssTable_any p s.S s.O _ s.C W (h.c.carry hw) (by have := hs.l; omega) (fun r hr => by have := hs.c r hr; omega) hp.1 hp.2).mono fun e w' h => show e = .returned (.bool (tbB p s.S s.O s.C)) ∧ W.grownBy w' none from ⟨h.1, by rw [← h.2]; exact grownBy_refl _ _⟩
  have HT4 := Lib.hid fun (hp : 2 ≤ p ∧ p ≤ 97) W (hw : w.grownBy W none) => (ssTable_any p s.I s.O _ s.D W (h.d.carry hw) (by have := hs.l; omega) (fun r hr => by have := hs.d r hr; omega) hp.1 hp.2).mono fun e w' h => show e = .returned (.bool (tbB p s.I s.O s.D)) ∧ W.grownBy w' none from ⟨h.1, by rw [← h.2]; exact grownBy_refl _ _⟩
  unfold ssB
  obtain ⟨sa, ta, rfl⟩ := h.a.shape
  obtain ⟨sb, tb, rfl⟩ := h.b.shape
  obtain ⟨sc, tc, rfl⟩ := h.c.shape
  obtain ⟨sd, td, rfl⟩ := h.d.shape
  have hs0 := (Sep.start w).box #[.int .i64 s.S, .int .i64 s.I, .int .i64 s.O, .slice sa s.A.length ta, .slice sb s.B.length tb, .slice sc s.C.length tc, .slice sd s.D.length td] 32
  have HS0 := Lib.hid hs0
  have HK0 := Lib.hid (show w.grownBy _ none from hs0.tl.hd)
  obtain ⟨x0, x1, x2, x3, x4, x5, x6⟩ := bq7 hs0.hd
  clear h hs hs0
  cases hb : fldB p with
  | false =>
    rw [hb] at HF
    repeat (first | rw [Bool.false_and] | rw [Bool.and_false] | rw [Bool.true_and] | rw [Bool.and_true])
    clear hb HT1 HT2 HT3 HT4
    generalize s.A.length = nA at *
    generalize s.B.length = nB at *
    generalize s.C.length = nC at *
    generalize s.D.length = nD at *
    go_enter Tryd.func29, Tryd.ntmps29
    go_wp2_with (first
      | (go_at_call 67
         with_reducible refine (HF.out _ HK0.out).mono ?_
         rintro e w1 ⟨rfl, hg⟩
         have hs := HS0.out.grown hg
         clear x0 x1 x2 x3 x4 x5 x6
         obtain ⟨x0, x1, x2, x3, x4, x5, x6⟩ := bq7 hs.hd
         have HS1 := Lib.hid hs
         have HK1 := Lib.hid (show w.grownBy w1 none from hs.tl.hd)
         clear hg hs))
    go_ret
    exact ⟨rfl, HK1.out⟩
  | true =>
    rw [hb] at HF
    have hp : 2 ≤ p ∧ p ≤ 97 := by have := fldB_iff.1 hb; omega
    have HT1 := Lib.hid (HT1.out hp)
    have HT2 := Lib.hid (HT2.out hp)
    have HT3 := Lib.hid (HT3.out hp)
    have HT4 := Lib.hid (HT4.out hp)
    clear hb hp
    generalize inB3 s.S 24 = b1 at *
    generalize inB3 s.I 8 = b2 at *
    generalize inB3 s.O 8 = b3 at *
    generalize tbB p s.S s.S s.A = t1 at *
    generalize tbB p s.I s.S s.B = t2 at *
    generalize tbB p s.S s.O s.C = t3 at *
    generalize tbB p s.I s.O s.D = t4 at *
    generalize s.A.length = nA at *
    generalize s.B.length = nB at *
    generalize s.C.length = nC at *
    generalize s.D.length = nD at *
    repeat (first | rw [Bool.false_and] | rw [Bool.and_false] | rw [Bool.true_and] | rw [Bool.and_true])
    cases b1 with
    | false =>
      repeat (first | rw [Bool.false_and] | rw [Bool.and_false] | rw [Bool.true_and] | rw [Bool.and_true])
      go_enter Tryd.func29, Tryd.ntmps29
      go_wp2_with (first
        | (go_at_call 67
           with_reducible refine (HF.out _ HK0.out).mono ?_
           rintro e w1 ⟨rfl, hg⟩
           have hs := HS0.out.grown hg
           clear x0 x1 x2 x3 x4 x5 x6
           obtain ⟨x0, x1, x2, x3, x4, x5, x6⟩ := bq7 hs.hd
           have HS1 := Lib.hid hs
           have HK1 := Lib.hid (show w.grownBy w1 none from hs.tl.hd)
           clear hg hs)
        | (go_at_call 68
           with_reducible refine (HW1.out _ HK1.out).mono ?_
           rintro e w2 ⟨rfl, hg⟩
           have hs := HS1.out.grown hg
           clear x0 x1 x2 x3 x4 x5 x6
           obtain ⟨x0, x1, x2, x3, x4, x5, x6⟩ := bq7 hs.hd
           have HS2 := Lib.hid hs
           have HK2 := Lib.hid (show w.grownBy w2 none from hs.tl.hd)
           clear hg hs))
      go_ret
      exact ⟨rfl, HK2.out⟩
    | true =>
      cases b2 with
      | false =>
        repeat (first | rw [Bool.false_and] | rw [Bool.and_false] | rw [Bool.true_and] | rw [Bool.and_true])
        go_enter Tryd.func29, Tryd.ntmps29
        go_wp2_with (first
          | (go_at_call 67
             with_reducible refine (HF.out _ HK0.out).mono ?_
             rintro e w1 ⟨rfl, hg⟩
             have hs := HS0.out.grown hg
             clear x0 x1 x2 x3 x4 x5 x6
             obtain ⟨x0, x1, x2, x3, x4, x5, x6⟩ := bq7 hs.hd
             have HS1 := Lib.hid hs
             have HK1 := Lib.hid (show w.grownBy w1 none from hs.tl.hd)
             clear hg hs)
          | (go_at_call 68
             with_reducible refine (HW1.out _ HK1.out).mono ?_
             rintro e w2 ⟨rfl, hg⟩
             have hs := HS1.out.grown hg
             clear x0 x1 x2 x3 x4 x5 x6
             obtain ⟨x0, x1, x2, x3, x4, x5, x6⟩ := bq7 hs.hd
             have HS2 := Lib.hid hs
             have HK2 := Lib.hid (show w.grownBy w2 none from hs.tl.hd)
             clear hg hs)
          | (go_at_call 68
             with_reducible refine (HW2.out _ HK2.out).mono ?_
             rintro e w3 ⟨rfl, hg⟩
             have hs := HS2.out.grown hg
             clear x0 x1 x2 x3 x4 x5 x6
             obtain ⟨x0, x1, x2, x3, x4, x5, x6⟩ := bq7 hs.hd
             have HS3 := Lib.hid hs
             have HK3 := Lib.hid (show w.grownBy w3 none from hs.tl.hd)
             clear hg hs))
        go_ret
        exact ⟨rfl, HK3.out⟩
      | true =>
        cases b3 with
        | false =>
          repeat (first | rw [Bool.false_and] | rw [Bool.and_false] | rw [Bool.true_and] | rw [Bool.and_true])
          go_enter Tryd.func29, Tryd.ntmps29
          go_wp2_with (first
            | (go_at_call 67
               with_reducible refine (HF.out _ HK0.out).mono ?_
               rintro e w1 ⟨rfl, hg⟩
               have hs := HS0.out.grown hg
               clear x0 x1 x2 x3 x4 x5 x6
               obtain ⟨x0, x1, x2, x3, x4, x5, x6⟩ := bq7 hs.hd
               have HS1 := Lib.hid hs
               have HK1 := Lib.hid (show w.grownBy w1 none from hs.tl.hd)
               clear hg hs)
            | (go_at_call 68
               with_reducible refine (HW1.out _ HK1.out).mono ?_
               rintro e w2 ⟨rfl, hg⟩
               have hs := HS1.out.grown hg
               clear x0 x1 x2 x3 x4 x5 x6
               obtain ⟨x0, x1, x2, x3, x4, x5, x6⟩ := bq7 hs.hd
               have HS2 := Lib.hid hs
               have HK2 := Lib.hid (show w.grownBy w2 none from hs.tl.hd)
               clear hg hs)
            | (go_at_call 68
               with_reducible refine (HW2.out _ HK2.out).mono ?_
               rintro e w3 ⟨rfl, hg⟩
               have hs := HS2.out.grown hg
               clear x0 x1 x2 x3 x4 x5 x6
               obtain ⟨x0, x1, x2, x3, x4, x5, x6⟩ := bq7 hs.hd
               have HS3 := Lib.hid hs
               have HK3 := Lib.hid (show w.grownBy w3 none from hs.tl.hd)
               clear hg hs)
            | (go_at_call 68
               with_reducible refine (HW3.out _ HK3.out).mono ?_
               rintro e w4 ⟨rfl, hg⟩
               have hs := HS3.out.grown hg
               clear x0 x1 x2 x3 x4 x5 x6
               obtain ⟨x0, x1, x2, x3, x4, x5, x6⟩ := bq7 hs.hd
               have HS4 := Lib.hid hs
               have HK4 := Lib.hid (show w.grownBy w4 none from hs.tl.hd)
               clear hg hs))
          go_ret
          exact ⟨rfl, HK4.out⟩
        | true =>
          cases t1 with
          | false =>
            repeat (first | rw [Bool.false_and] | rw [Bool.and_false] | rw [Bool.true_and] | rw [Bool.and_true])
            go_enter Tryd.func29, Tryd.ntmps29
            go_wp2_with (first
              | (go_at_call 67
                 with_reducible refine (HF.out _ HK0.out).mono ?_
                 rintro e w1 ⟨rfl, hg⟩
                 have hs := HS0.out.grown hg
                 clear x0 x1 x2 x3 x4 x5 x6
                 obtain ⟨x0, x1, x2, x3, x4, x5, x6⟩ := bq7 hs.hd
                 have HS1 := Lib.hid hs
                 have HK1 := Lib.hid (show w.grownBy w1 none from hs.tl.hd)
                 clear hg hs)
              | (go_at_call 68
                 with_reducible refine (HW1.out _ HK1.out).mono ?_
                 rintro e w2 ⟨rfl, hg⟩
                 have hs := HS1.out.grown hg
                 clear x0 x1 x2 x3 x4 x5 x6
                 obtain ⟨x0, x1, x2, x3, x4, x5, x6⟩ := bq7 hs.hd
                 have HS2 := Lib.hid hs
                 have HK2 := Lib.hid (show w.grownBy w2 none from hs.tl.hd)
                 clear hg hs)
              | (go_at_call 68
                 with_reducible refine (HW2.out _ HK2.out).mono ?_
                 rintro e w3 ⟨rfl, hg⟩
                 have hs := HS2.out.grown hg
                 clear x0 x1 x2 x3 x4 x5 x6
                 obtain ⟨x0, x1, x2, x3, x4, x5, x6⟩ := bq7 hs.hd
                 have HS3 := Lib.hid hs
                 have HK3 := Lib.hid (show w.grownBy w3 none from hs.tl.hd)
                 clear hg hs)
              | (go_at_call 68
                 with_reducible refine (HW3.out _ HK3.out).mono ?_
                 rintro e w4 ⟨rfl, hg⟩
                 have hs := HS3.out.grown hg
                 clear x0 x1 x2 x3 x4 x5 x6
                 obtain ⟨x0, x1, x2, x3, x4, x5, x6⟩ := bq7 hs.hd
                 have HS4 := Lib.hid hs
                 have HK4 := Lib.hid (show w.grownBy w4 none from hs.tl.hd)
                 clear hg hs)
              | (go_at_call 69
                 with_reducible refine (HT1.out _ HK4.out).mono ?_
                 rintro e w5 ⟨rfl, hg⟩
                 have hs := HS4.out.grown hg
                 clear x0 x1 x2 x3 x4 x5 x6
                 obtain ⟨x0, x1, x2, x3, x4, x5, x6⟩ := bq7 hs.hd
                 have HS5 := Lib.hid hs
                 have HK5 := Lib.hid (show w.grownBy w5 none from hs.tl.hd)
                 clear hg hs))
            go_ret
            exact ⟨rfl, HK5.out⟩
          | true =>
            cases t2 with
            | false =>
              repeat (first | rw [Bool.false_and] | rw [Bool.and_false] | rw [Bool.true_and] | rw [Bool.and_true])
              go_enter Tryd.func29, Tryd.ntmps29
              go_wp2_with (first
                | (go_at_call 67
                   with_reducible refine (HF.out _ HK0.out).mono ?_
                   rintro e w1 ⟨rfl, hg⟩
                   have hs := HS0.out.grown hg
                   clear x0 x1 x2 x3 x4 x5 x6
                   obtain ⟨x0, x1, x2, x3, x4, x5, x6⟩ := bq7 hs.hd
                   have HS1 := Lib.hid hs
                   have HK1 := Lib.hid (show w.grownBy w1 none from hs.tl.hd)
                   clear hg hs)
                | (go_at_call 68
                   with_reducible refine (HW1.out _ HK1.out).mono ?_
                   rintro e w2 ⟨rfl, hg⟩
                   have hs := HS1.out.grown hg
                   clear x0 x1 x2 x3 x4 x5 x6
                   obtain ⟨x0, x1, x2, x3, x4, x5, x6⟩ := bq7 hs.hd
                   have HS2 := Lib.hid hs
                   have HK2 := Lib.hid (show w.grownBy w2 none from hs.tl.hd)
                   clear hg hs)
                | (go_at_call 68
                   with_reducible refine (HW2.out _ HK2.out).mono ?_
                   rintro e w3 ⟨rfl, hg⟩
                   have hs := HS2.out.grown hg
                   clear x0 x1 x2 x3 x4 x5 x6
                   obtain ⟨x0, x1, x2, x3, x4, x5, x6⟩ := bq7 hs.hd
                   have HS3 := Lib.hid hs
                   have HK3 := Lib.hid (show w.grownBy w3 none from hs.tl.hd)
                   clear hg hs)
                | (go_at_call 68
                   with_reducible refine (HW3.out _ HK3.out).mono ?_
                   rintro e w4 ⟨rfl, hg⟩
                   have hs := HS3.out.grown hg
                   clear x0 x1 x2 x3 x4 x5 x6
                   obtain ⟨x0, x1, x2, x3, x4, x5, x6⟩ := bq7 hs.hd
                   have HS4 := Lib.hid hs
                   have HK4 := Lib.hid (show w.grownBy w4 none from hs.tl.hd)
                   clear hg hs)
                | (go_at_call 69
                   with_reducible refine (HT1.out _ HK4.out).mono ?_
                   rintro e w5 ⟨rfl, hg⟩
                   have hs := HS4.out.grown hg
                   clear x0 x1 x2 x3 x4 x5 x6
                   obtain ⟨x0, x1, x2, x3, x4, x5, x6⟩ := bq7 hs.hd
                   have HS5 := Lib.hid hs
                   have HK5 := Lib.hid (show w.grownBy w5 none from hs.tl.hd)
                   clear hg hs)
                | (go_at_call 69
                   with_reducible refine (HT2.out _ HK5.out).mono ?_
                   rintro e w6 ⟨rfl, hg⟩
                   have hs := HS5.out.grown hg
                   clear x0 x1 x2 x3 x4 x5 x6
                   obtain ⟨x0, x1, x2, x3, x4, x5, x6⟩ := bq7 hs.hd
                   have HS6 := Lib.hid hs
                   have HK6 := Lib.hid (show w.grownBy w6 none from hs.tl.hd)
                   clear hg hs))
              go_ret
              exact ⟨rfl, HK6.out⟩
            | true =>
              cases t3 with
              | false =>
                repeat (first | rw [Bool.false_and] | rw [Bool.and_false] | rw [Bool.true_and] | rw [Bool.and_true])
                go_enter Tryd.func29, Tryd.ntmps29
                go_wp2_with (first
                  | (go_at_call 67
                     with_reducible refine (HF.out _ HK0.out).mono ?_
                     rintro e w1 ⟨rfl, hg⟩
                     have hs := HS0.out.grown hg
                     clear x0 x1 x2 x3 x4 x5 x6
                     obtain ⟨x0, x1, x2, x3, x4, x5, x6⟩ := bq7 hs.hd
                     have HS1 := Lib.hid hs
                     have HK1 := Lib.hid (show w.grownBy w1 none from hs.tl.hd)
                     clear hg hs)
                  | (go_at_call 68
                     with_reducible refine (HW1.out _ HK1.out).mono ?_
                     rintro e w2 ⟨rfl, hg⟩
                     have hs := HS1.out.grown hg
                     clear x0 x1 x2 x3 x4 x5 x6
                     obtain ⟨x0, x1, x2, x3, x4, x5, x6⟩ := bq7 hs.hd
                     have HS2 := Lib.hid hs
                     have HK2 := Lib.hid (show w.grownBy w2 none from hs.tl.hd)
                     clear hg hs)
                  | (go_at_call 68
                     with_reducible refine (HW2.out _ HK2.out).mono ?_
                     rintro e w3 ⟨rfl, hg⟩
                     have hs := HS2.out.grown hg
                     clear x0 x1 x2 x3 x4 x5 x6
                     obtain ⟨x0, x1, x2, x3, x4, x5, x6⟩ := bq7 hs.hd
                     have HS3 := Lib.hid hs
                     have HK3 := Lib.hid (show w.grownBy w3 none from hs.tl.hd)
                     clear hg hs)
                  | (go_at_call 68
                     with_reducible refine (HW3.out _ HK3.out).mono ?_
                     rintro e w4 ⟨rfl, hg⟩
                     have hs := HS3.out.grown hg
                     clear x0 x1 x2 x3 x4 x5 x6
                     obtain ⟨x0, x1, x2, x3, x4, x5, x6⟩ := bq7 hs.hd
                     have HS4 := Lib.hid hs
                     have HK4 := Lib.hid (show w.grownBy w4 none from hs.tl.hd)
                     clear hg hs)
                  | (go_at_call 69
                     with_reducible refine (HT1.out _ HK4.out).mono ?_
                     rintro e w5 ⟨rfl, hg⟩
                     have hs := HS4.out.grown hg
                     clear x0 x1 x2 x3 x4 x5 x6
                     obtain ⟨x0, x1, x2, x3, x4, x5, x6⟩ := bq7 hs.hd
                     have HS5 := Lib.hid hs
                     have HK5 := Lib.hid (show w.grownBy w5 none from hs.tl.hd)
                     clear hg hs)
                  | (go_at_call 69
                     with_reducible refine (HT2.out _ HK5.out).mono ?_
                     rintro e w6 ⟨rfl, hg⟩
                     have hs := HS5.out.grown hg
                     clear x0 x1 x2 x3 x4 x5 x6
                     obtain ⟨x0, x1, x2, x3, x4, x5, x6⟩ := bq7 hs.hd
                     have HS6 := Lib.hid hs
                     have HK6 := Lib.hid (show w.grownBy w6 none from hs.tl.hd)
                     clear hg hs)
                  | (go_at_call 69
                     with_reducible refine (HT3.out _ HK6.out).mono ?_
                     rintro e w7 ⟨rfl, hg⟩
                     have hs := HS6.out.grown hg
                     clear x0 x1 x2 x3 x4 x5 x6
                     obtain ⟨x0, x1, x2, x3, x4, x5, x6⟩ := bq7 hs.hd
                     have HS7 := Lib.hid hs
                     have HK7 := Lib.hid (show w.grownBy w7 none from hs.tl.hd)
                     clear hg hs))
                go_ret
                exact ⟨rfl, HK7.out⟩
              | true =>
                repeat (first | rw [Bool.false_and] | rw [Bool.and_false] | rw [Bool.true_and] | rw [Bool.and_true])
                go_enter Tryd.func29, Tryd.ntmps29
                go_wp2_with (first
                  | (go_at_call 67
                     with_reducible refine (HF.out _ HK0.out).mono ?_
                     rintro e w1 ⟨rfl, hg⟩
                     have hs := HS0.out.grown hg
                     clear x0 x1 x2 x3 x4 x5 x6
                     obtain ⟨x0, x1, x2, x3, x4, x5, x6⟩ := bq7 hs.hd
                     have HS1 := Lib.hid hs
                     have HK1 := Lib.hid (show w.grownBy w1 none from hs.tl.hd)
                     clear hg hs)
                  | (go_at_call 68
                     with_reducible refine (HW1.out _ HK1.out).mono ?_
                     rintro e w2 ⟨rfl, hg⟩
                     have hs := HS1.out.grown hg
                     clear x0 x1 x2 x3 x4 x5 x6
                     obtain ⟨x0, x1, x2, x3, x4, x5, x6⟩ := bq7 hs.hd
                     have HS2 := Lib.hid hs
                     have HK2 := Lib.hid (show w.grownBy w2 none from hs.tl.hd)
                     clear hg hs)
                  | (go_at_call 68
                     with_reducible refine (HW2.out _ HK2.out).mono ?_
                     rintro e w3 ⟨rfl, hg⟩
                     have hs := HS2.out.grown hg
                     clear x0 x1 x2 x3 x4 x5 x6
                     obtain ⟨x0, x1, x2, x3, x4, x5, x6⟩ := bq7 hs.hd
                     have HS3 := Lib.hid hs
                     have HK3 := Lib.hid (show w.grownBy w3 none from hs.tl.hd)
                     clear hg hs)
                  | (go_at_call 68
                     with_reducible refine (HW3.out _ HK3.out).mono ?_
                     rintro e w4 ⟨rfl, hg⟩
                     have hs := HS3.out.grown hg
                     clear x0 x1 x2 x3 x4 x5 x6
                     obtain ⟨x0, x1, x2, x3, x4, x5, x6⟩ := bq7 hs.hd
                     have HS4 := Lib.hid hs
                     have HK4 := Lib.hid (show w.grownBy w4 none from hs.tl.hd)
                     clear hg hs)
                  | (go_at_call 69
                     with_reducible refine (HT1.out _ HK4.out).mono ?_
                     rintro e w5 ⟨rfl, hg⟩
                     have hs := HS4.out.grown hg
                     clear x0 x1 x2 x3 x4 x5 x6
                     obtain ⟨x0, x1, x2, x3, x4, x5, x6⟩ := bq7 hs.hd
                     have HS5 := Lib.hid hs
                     have HK5 := Lib.hid (show w.grownBy w5 none from hs.tl.hd)
                     clear hg hs)
                  | (go_at_call 69
                     with_reducible refine (HT2.out _ HK5.out).mono ?_
                     rintro e w6 ⟨rfl, hg⟩
                     have hs := HS5.out.grown hg
                     clear x0 x1 x2 x3 x4 x5 x6
                     obtain ⟨x0, x1, x2, x3, x4, x5, x6⟩ := bq7 hs.hd
                     have HS6 := Lib.hid hs
                     have HK6 := Lib.hid (show w.grownBy w6 none from hs.tl.hd)
                     clear hg hs)
                  | (go_at_call 69
                     with_reducible refine (HT3.out _ HK6.out).mono ?_
                     rintro e w7 ⟨rfl, hg⟩
                     have hs := HS6.out.grown hg
                     clear x0 x1 x2 x3 x4 x5 x6
                     obtain ⟨x0, x1, x2, x3, x4, x5, x6⟩ := bq7 hs.hd
                     have HS7 := Lib.hid hs
                     have HK7 := Lib.hid (show w.grownBy w7 none from hs.tl.hd)
                     clear hg hs)
                  | (go_at_call 69
                     with_reducible refine (HT4.out _ HK7.out).mono ?_
                     rintro e w8 ⟨rfl, hg⟩
                     have hs := HS7.out.grown hg
                     clear x0 x1 x2 x3 x4 x5 x6
                     obtain ⟨x0, x1, x2, x3, x4, x5, x6⟩ := bq7 hs.hd
                     have HS8 := Lib.hid hs
                     have HK8 := Lib.hid (show w.grownBy w8 none from hs.tl.hd)
                     clear hg hs))
                go_ret
                exact ⟨rfl, HK8.out⟩
end Go.Proofs.YtghfifpicklonaaDoor

/-
  Whether two matches lie apart: the small tests. Conditions: the lists can be read and are small.
-/
import Derived.Test.YtlpgjnjhhgjkmaaYq05
import Derived.Test.YtlpgjnjhhgjkmaaYq06
namespace Go.Proofs.Ytlpgjnjhhgjkmaa
open Go.RowKit
set_option linter.unusedVariables false
set_option maxRecDepth 100000

def sdB (A B : List Int) (w : Int) : Bool := decide (w ∈ A) && !decide (w ∈ B)
def shB (p : Gr) (v u : Int) : Bool := (sdB p.o p.i v && sdB p.i p.o u) || (sdB p.i p.o v && sdB p.o p.i u)
def psB (p : Gr) (v : Int) : Bool := decide (v ∈ p.i) && decide (v ∈ p.o)
theorem sh_eq (p : Gr) (v u : Int) : (if psB p v || psB p u then false else (decide (v ∈ p.o) && decide (u ∈ p.i)) || (decide (v ∈ p.i) && decide (u ∈ p.o))) = shB p v u := by
  unfold shB sdB psB
  generalize decide (v ∈ p.o) = a
  generalize decide (v ∈ p.i) = b
  generalize decide (u ∈ p.o) = c
  generalize decide (u ∈ p.i) = d
  cases a <;> cases b <;> cases c <;> cases d <;> rfl
theorem tst_not {p : Prop} (h : ¬ p) : tst p = false := by
  cases hb : tst p with
  | false => rfl
  | true => exact absurd (tst_iff.1 hb) h
set_option maxHeartbeats 1000000 in
theorem passes_any (p : Gr) (n : Int) (ea : Option Addr) (en ec : Nat) (pi : Option Addr) (pd : Nat) (po : Option Addr) (pf : Nat) (v : Int) (w : World) (h1 : IntsV w (.slice pi p.i.length pd) p.i) (h2 : IntsV w (.slice po p.o.length pf) p.o) (l1 : p.i.length ≤ 1000000) (l2 : p.o.length ≤ 1000000) :
    Calls Try.prog 97 #[.agg #[.int .i64 n, .slice ea en ec, .slice pi p.i.length pd, .slice po p.o.length pf], .int .i64 v] w fun e w' => e = .returned (.bool (psB p v)) ∧ w.grownBy w' none := by
  have HA := Lib.hid fun W (h : w.grownBy W none) => contains_any _ p.i v W (h1.carry h) l1
  have HB := Lib.hid fun W (h : w.grownBy W none) => contains_any _ p.o v W (h2.carry h) l2
  unfold psB
  have HS0 := Lib.hid ((Sep.start w).box #[.int .i64 n, .slice ea en ec, .slice pi p.i.length pd, .slice po p.o.length pf] 29)
  have HK0 := Lib.hid (show w.grownBy _ none from HS0.out.tl.hd)
  generalize decide (v ∈ p.o) = b2 at *
  clear h1 h2 l1 l2
  generalize p.i.length = n1 at *
  generalize p.o.length = n2 at *
  generalize decide (v ∈ p.i) = b1 at *
  cases b1 with
  | false =>
    rw [Bool.false_and]
    go_enter Try.func97, Try.ntmps97
    go_wp2_with (
      go_at_call 73
      with_reducible refine (HA.out _ HK0.out).mono ?_
      rintro e w2 ⟨rfl, hg⟩
      have HK2 := Lib.hid (grownBy_trans HK0.out hg)
      clear hg)
    go_ret
    exact ⟨rfl, HK2.out⟩
  | true =>
    rw [Bool.true_and]
    go_enter Try.func97, Try.ntmps97
    go_wp2_with (first
      | (go_at_call 73
         with_reducible refine (HA.out _ HK0.out).mono ?_
         rintro e w2 ⟨rfl, hg⟩
         have hs2 := HS0.out.grown hg
         obtain ⟨x0, x1, x2, x3, _⟩ := bq4 hs2.hd
         have HK2 := Lib.hid (show w.grownBy w2 none from hs2.tl.hd)
         clear hg hs2)
      | (go_at_call 73
         with_reducible refine (HB.out _ HK2.out).mono ?_
         rintro e w3 ⟨rfl, hg⟩
         have HK3 := Lib.hid (grownBy_trans HK2.out hg)
         clear hg))
    go_ret
    exact ⟨rfl, HK3.out⟩
set_option maxHeartbeats 1000000 in
theorem mtSide_any (a b : Value) (A B : List Int) (v : Int) (w : World) (h1 : IntsV w a A) (h2 : IntsV w b B) (l1 : A.length ≤ 1000000) (l2 : B.length ≤ 1000000) :
    Calls Try.prog 72 #[a, b, .int .i64 v] w fun e w' => e = .returned (.bool (sdB A B v)) ∧ w.grownBy w' none := by
  have HA := Lib.hid (l1Has_any a A v w h1 l1)
  have HB := Lib.hid fun W (h : w.grownBy W none) => l1Has_any b B v W (h2.carry h) l2
  unfold sdB
  obtain ⟨a1, c1, rfl⟩ := h1.shape
  obtain ⟨a2, c2, rfl⟩ := h2.shape
  generalize A.length = n1 at *
  generalize B.length = n2 at *
  generalize decide (v ∈ B) = b2 at *
  clear h1 h2 l1 l2
  generalize decide (v ∈ A) = b1 at *
  cases b1 with
  | false =>
    rw [Bool.false_and]
    go_enter Try.func72, Try.ntmps72
    go_wp2_with (
      go_at_call 96
      with_reducible refine HA.out.mono ?_
      rintro e w2 ⟨rfl, hg⟩
      have HK2 := Lib.hid hg
      clear hg)
    go_ret
    exact ⟨rfl, HK2.out⟩
  | true =>
    rw [Bool.true_and]
    go_enter Try.func72, Try.ntmps72
    go_wp2_with (first
      | (go_at_call 96
         with_reducible refine HA.out.mono ?_
         rintro e w2 ⟨rfl, hg⟩
         have HK2 := Lib.hid hg
         clear hg)
      | (go_at_call 96
         with_reducible refine (HB.out _ HK2.out).mono ?_
         rintro e w3 ⟨rfl, hg⟩
         have HK3 := Lib.hid (grownBy_trans HK2.out hg)
         clear hg))
    go_ret
    exact ⟨rfl, HK3.out⟩
set_option maxHeartbeats 1000000 in
theorem hgMeets_any (a b : Value) (A B : List Int) (w : World) (h1 : IntsV w a A) (h2 : IntsV w b B) (l1 : A.length ≤ 1000000) (l2 : B.length ≤ 1000000) :
    Calls Try.prog 71 #[a, b] w fun e w' => e = .returned (.bool (tst (∃ x ∈ A, x ∈ B))) ∧ w.grownBy w' none := by
  have HA := Lib.hid h1
  have HB := Lib.hid fun W (h : w.grownBy W none) x => l1Has_any b B x W (h2.carry h) l2
  obtain ⟨a1, c1, rfl⟩ := h1.shape
  obtain ⟨a2, c2, rfl⟩ := h2.shape
  generalize hn1 : A.length = n1 at *
  have HN := Lib.hid hn1
  generalize B.length = n2 at *
  clear h1 h2 l2 hn1
  go_enter Try.func71, Try.ntmps71
  go_wp2_with fail
  go_loopw [6, 9] (fun _ i wr => ∃ k : Nat, k ≤ n1 ∧ i = .int .i64 k ∧ (∀ j, j < k → A.getD j 0 ∉ B) ∧ w.grownBy wr none) (fun _ i _ => n1 - (intOf i).toNat)
  case atStart => exact ⟨0, by omega, rfl, fun j hj => by omega, grownBy_refl _ _⟩
  case round =>
    obtain ⟨k, hk, rfl, hall, hg⟩ := hrel
    have HALL := Lib.hid hall; have HG := Lib.hid hg
    clear hall hg
    by_cases hlt : k < n1
    · have hkA : k < A.length := by rw [HN.out]; exact hlt
      obtain ⟨b1, o1, rfl, _, x0⟩ := (HA.out.carry HG.out).atD hkA
      have HC := Lib.hid (HB.out wr HG.out (A.getD k 0))
      have HMEM := Lib.hid (getD_mem' hkA)
      have HX := Lib.hid (show ∃ x, x = A.getD k 0 from ⟨_, rfl⟩)
      have hki : (k : Int) < (n1 : Int) := by omega
      obtain ⟨x, hx⟩ := HX.out
      rw [← hx] at x0 HC HMEM
      have HXX := Lib.hid hx
      clear HX hx hkA
      by_cases hin : x ∈ B
      · rw [decide_eq_true hin] at HC
        have HT := Lib.hid (show tst (∃ x ∈ A, x ∈ B) = true from tst_iff.2 ⟨x, HMEM.out, hin⟩)
        clear hin
        go_wp2_with (
          go_at_call 96
          with_reducible refine HC.out.mono ?_
          rintro e w2 ⟨rfl, hg⟩
          have HG2 := Lib.hid (grownBy_trans HG.out hg)
          clear hg)
        go_ret
        exact ⟨by rw [HT.out]; try rfl, HG2.out⟩
      · rw [decide_eq_false hin] at HC
        have HN2 := Lib.hid (show ∀ j, j < k + 1 → A.getD j 0 ∉ B from fun j hj => by
          by_cases e : j = k
          · rw [e, ← HXX.out]; exact hin
          · exact HALL.out j (by omega))
        clear hin
        go_wp2_with (
          go_at_call 96
          with_reducible refine HC.out.mono ?_
          rintro e w2 ⟨rfl, hg⟩
          have HG2 := Lib.hid (grownBy_trans HG.out hg)
          clear hg)
        go_roundw
        case rel => exact ⟨k + 1, by omega, by go_num, HN2.out, HG2.out⟩
        case measure => simp [intOf]; omega
    · have HT := Lib.hid (show tst (∃ x ∈ A, x ∈ B) = false from tst_not (by
        rintro ⟨x, hx, hb⟩
        obtain ⟨j, hj, rfl⟩ := mem_gd.1 hx
        exact HALL.out j (by have := HN.out; omega) hb))
      have hki : ¬ (k : Int) < (n1 : Int) := by omega
      go_wp2_with fail
      go_ret
      exact ⟨by rw [HT.out]; try rfl, HG.out⟩
set_option maxHeartbeats 4000000 in
theorem mayShare_any (p : Gr) (n : Int) (ea : Option Addr) (en ec : Nat) (pi : Option Addr) (pd : Nat) (po : Option Addr) (pf : Nat) (v u : Int) (w : World) (h1 : IntsV w (.slice pi p.i.length pd) p.i) (h2 : IntsV w (.slice po p.o.length pf) p.o) (l1 : p.i.length ≤ 1000000) (l2 : p.o.length ≤ 1000000) :
    Calls Try.prog 75 #[.agg #[.int .i64 n, .slice ea en ec, .slice pi p.i.length pd, .slice po p.o.length pf], .int .i64 v, .agg #[.int .i64 n, .slice ea en ec, .slice pi p.i.length pd, .slice po p.o.length pf], .int .i64 u] w fun e w' => e = .returned (.bool (shB p v u)) ∧ w.grownBy w' none := by
  have HP1 := Lib.hid fun W (h : w.grownBy W none) => passes_any p n ea en ec pi pd po pf v W (h1.carry h) (h2.carry h) l1 l2
  have HP2 := Lib.hid fun W (h : w.grownBy W none) => passes_any p n ea en ec pi pd po pf u W (h1.carry h) (h2.carry h) l1 l2
  have HC1 := Lib.hid fun W (h : w.grownBy W none) => contains_any _ p.o v W (h2.carry h) l2
  have HC2 := Lib.hid fun W (h : w.grownBy W none) => contains_any _ p.i u W (h1.carry h) l1
  have HC3 := Lib.hid fun W (h : w.grownBy W none) => contains_any _ p.i v W (h1.carry h) l1
  have HC4 := Lib.hid fun W (h : w.grownBy W none) => contains_any _ p.o u W (h2.carry h) l2
  rw [← sh_eq]
  have HS0 := Lib.hid (((Sep.start w).box #[.int .i64 n, .slice ea en ec, .slice pi p.i.length pd, .slice po p.o.length pf] 29).boxAt (w.heap.size + 1) (by simp) #[.int .i64 n, .slice ea en ec, .slice pi p.i.length pd, .slice po p.o.length pf] 29)
  have HK0 := Lib.hid (show w.grownBy _ none from HS0.out.tl.tl.hd)
  clear h1 h2 l1 l2
  generalize psB p v = p1 at *
  generalize psB p u = p2 at *
  generalize decide (v ∈ p.o) = c1 at *
  generalize decide (u ∈ p.i) = c2 at *
  generalize decide (v ∈ p.i) = c3 at *
  generalize decide (u ∈ p.o) = c4 at *
  generalize p.i.length = n1 at *
  generalize p.o.length = n2 at *
  cases p1 with
  | false =>
    cases p2 with
    | false =>
      cases c1 with
      | false =>
        cases c3 with
        | false =>
          go_enter Try.func75, Try.ntmps75
          go_wp2_with (first
            | (go_at_call 97
               with_reducible refine (HP1.out _ HK0.out).mono ?_
               rintro e w1 ⟨rfl, hg⟩
               have hs1 := HS0.out.grown hg
               obtain ⟨y0, y1, y2, y3, _⟩ := bq4 hs1.hd
               obtain ⟨x0, x1, x2, x3, _⟩ := bq4 hs1.tl.hd
               have HS1 := Lib.hid hs1
               have HK1 := Lib.hid (show w.grownBy w1 none from hs1.tl.tl.hd)
               clear hg hs1)
            | (go_at_call 97
               with_reducible refine (HP2.out _ HK1.out).mono ?_
               rintro e w2 ⟨rfl, hg⟩
               clear x0 x1 x2 x3 y0 y1 y2 y3
               have hs2 := HS1.out.grown hg
               obtain ⟨y0, y1, y2, y3, _⟩ := bq4 hs2.hd
               obtain ⟨x0, x1, x2, x3, _⟩ := bq4 hs2.tl.hd
               have HS2 := Lib.hid hs2
               have HK2 := Lib.hid (show w.grownBy w2 none from hs2.tl.tl.hd)
               clear hg hs2)
            | (go_at_call 73
               with_reducible refine (HC1.out _ HK2.out).mono ?_
               rintro e w3 ⟨rfl, hg⟩
               clear x0 x1 x2 x3 y0 y1 y2 y3
               have hs3 := HS2.out.grown hg
               obtain ⟨y0, y1, y2, y3, _⟩ := bq4 hs3.hd
               obtain ⟨x0, x1, x2, x3, _⟩ := bq4 hs3.tl.hd
               have HS3 := Lib.hid hs3
               have HK3 := Lib.hid (show w.grownBy w3 none from hs3.tl.tl.hd)
               clear hg hs3)
            | (go_at_call 73
               with_reducible refine (HC3.out _ HK3.out).mono ?_
               rintro e w4 ⟨rfl, hg⟩
               clear x0 x1 x2 x3 y0 y1 y2 y3
               have hs4 := HS3.out.grown hg
               obtain ⟨y0, y1, y2, y3, _⟩ := bq4 hs4.hd
               obtain ⟨x0, x1, x2, x3, _⟩ := bq4 hs4.tl.hd
               have HS4 := Lib.hid hs4
               have HK4 := Lib.hid (show w.grownBy w4 none from hs4.tl.tl.hd)
               clear hg hs4))
          go_ret
          exact ⟨rfl, HK4.out⟩
        | true =>
          cases c4 with
          | false =>
            go_enter Try.func75, Try.ntmps75
            go_wp2_with (first
              | (go_at_call 97
                 with_reducible refine (HP1.out _ HK0.out).mono ?_
                 rintro e w1 ⟨rfl, hg⟩
                 have hs1 := HS0.out.grown hg
                 obtain ⟨y0, y1, y2, y3, _⟩ := bq4 hs1.hd
                 obtain ⟨x0, x1, x2, x3, _⟩ := bq4 hs1.tl.hd
                 have HS1 := Lib.hid hs1
                 have HK1 := Lib.hid (show w.grownBy w1 none from hs1.tl.tl.hd)
                 clear hg hs1)
              | (go_at_call 97
                 with_reducible refine (HP2.out _ HK1.out).mono ?_
                 rintro e w2 ⟨rfl, hg⟩
                 clear x0 x1 x2 x3 y0 y1 y2 y3
                 have hs2 := HS1.out.grown hg
                 obtain ⟨y0, y1, y2, y3, _⟩ := bq4 hs2.hd
                 obtain ⟨x0, x1, x2, x3, _⟩ := bq4 hs2.tl.hd
                 have HS2 := Lib.hid hs2
                 have HK2 := Lib.hid (show w.grownBy w2 none from hs2.tl.tl.hd)
                 clear hg hs2)
              | (go_at_call 73
                 with_reducible refine (HC1.out _ HK2.out).mono ?_
                 rintro e w3 ⟨rfl, hg⟩
                 clear x0 x1 x2 x3 y0 y1 y2 y3
                 have hs3 := HS2.out.grown hg
                 obtain ⟨y0, y1, y2, y3, _⟩ := bq4 hs3.hd
                 obtain ⟨x0, x1, x2, x3, _⟩ := bq4 hs3.tl.hd
                 have HS3 := Lib.hid hs3
                 have HK3 := Lib.hid (show w.grownBy w3 none from hs3.tl.tl.hd)
                 clear hg hs3)
              | (go_at_call 73
                 with_reducible refine (HC3.out _ HK3.out).mono ?_
                 rintro e w4 ⟨rfl, hg⟩
                 clear x0 x1 x2 x3 y0 y1 y2 y3
                 have hs4 := HS3.out.grown hg
                 obtain ⟨y0, y1, y2, y3, _⟩ := bq4 hs4.hd
                 obtain ⟨x0, x1, x2, x3, _⟩ := bq4 hs4.tl.hd
                 have HS4 := Lib.hid hs4
                 have HK4 := Lib.hid (show w.grownBy w4 none from hs4.tl.tl.hd)
                 clear hg hs4)
              | (go_at_call 73
                 with_reducible refine (HC4.out _ HK4.out).mono ?_
                 rintro e w5 ⟨rfl, hg⟩
                 clear x0 x1 x2 x3 y0 y1 y2 y3
                 have hs5 := HS4.out.grown hg
                 obtain ⟨y0, y1, y2, y3, _⟩ := bq4 hs5.hd
                 obtain ⟨x0, x1, x2, x3, _⟩ := bq4 hs5.tl.hd
                 have HS5 := Lib.hid hs5
                 have HK5 := Lib.hid (show w.grownBy w5 none from hs5.tl.tl.hd)
                 clear hg hs5))
            go_ret
            exact ⟨rfl, HK5.out⟩
          | true =>
            go_enter Try.func75, Try.ntmps75
            go_wp2_with (first
              | (go_at_call 97
                 with_reducible refine (HP1.out _ HK0.out).mono ?_
                 rintro e w1 ⟨rfl, hg⟩
                 have hs1 := HS0.out.grown hg
                 obtain ⟨y0, y1, y2, y3, _⟩ := bq4 hs1.hd
                 obtain ⟨x0, x1, x2, x3, _⟩ := bq4 hs1.tl.hd
                 have HS1 := Lib.hid hs1
                 have HK1 := Lib.hid (show w.grownBy w1 none from hs1.tl.tl.hd)
                 clear hg hs1)
              | (go_at_call 97
                 with_reducible refine (HP2.out _ HK1.out).mono ?_
                 rintro e w2 ⟨rfl, hg⟩
                 clear x0 x1 x2 x3 y0 y1 y2 y3
                 have hs2 := HS1.out.grown hg
                 obtain ⟨y0, y1, y2, y3, _⟩ := bq4 hs2.hd
                 obtain ⟨x0, x1, x2, x3, _⟩ := bq4 hs2.tl.hd
                 have HS2 := Lib.hid hs2
                 have HK2 := Lib.hid (show w.grownBy w2 none from hs2.tl.tl.hd)
                 clear hg hs2)
              | (go_at_call 73
                 with_reducible refine (HC1.out _ HK2.out).mono ?_
                 rintro e w3 ⟨rfl, hg⟩
                 clear x0 x1 x2 x3 y0 y1 y2 y3
                 have hs3 := HS2.out.grown hg
                 obtain ⟨y0, y1, y2, y3, _⟩ := bq4 hs3.hd
                 obtain ⟨x0, x1, x2, x3, _⟩ := bq4 hs3.tl.hd
                 have HS3 := Lib.hid hs3
                 have HK3 := Lib.hid (show w.grownBy w3 none from hs3.tl.tl.hd)
                 clear hg hs3)
              | (go_at_call 73
                 with_reducible refine (HC3.out _ HK3.out).mono ?_
                 rintro e w4 ⟨rfl, hg⟩
                 clear x0 x1 x2 x3 y0 y1 y2 y3
                 have hs4 := HS3.out.grown hg
                 obtain ⟨y0, y1, y2, y3, _⟩ := bq4 hs4.hd
                 obtain ⟨x0, x1, x2, x3, _⟩ := bq4 hs4.tl.hd
                 have HS4 := Lib.hid hs4
                 have HK4 := Lib.hid (show w.grownBy w4 none from hs4.tl.tl.hd)
                 clear hg hs4)
              | (go_at_call 73
                 with_reducible refine (HC4.out _ HK4.out).mono ?_
                 rintro e w5 ⟨rfl, hg⟩
                 clear x0 x1 x2 x3 y0 y1 y2 y3
                 have hs5 := HS4.out.grown hg
                 obtain ⟨y0, y1, y2, y3, _⟩ := bq4 hs5.hd
                 obtain ⟨x0, x1, x2, x3, _⟩ := bq4 hs5.tl.hd
                 have HS5 := Lib.hid hs5
                 have HK5 := Lib.hid (show w.grownBy w5 none from hs5.tl.tl.hd)
                 clear hg hs5))
            go_ret
            exact ⟨rfl, HK5.out⟩
      | true =>
        cases c2 with
        | false =>
          cases c3 with
          | false =>
            go_enter Try.func75, Try.ntmps75
            go_wp2_with (first
              | (go_at_call 97
                 with_reducible refine (HP1.out _ HK0.out).mono ?_
                 rintro e w1 ⟨rfl, hg⟩
                 have hs1 := HS0.out.grown hg
                 obtain ⟨y0, y1, y2, y3, _⟩ := bq4 hs1.hd
                 obtain ⟨x0, x1, x2, x3, _⟩ := bq4 hs1.tl.hd
                 have HS1 := Lib.hid hs1
                 have HK1 := Lib.hid (show w.grownBy w1 none from hs1.tl.tl.hd)
                 clear hg hs1)
              | (go_at_call 97
                 with_reducible refine (HP2.out _ HK1.out).mono ?_
                 rintro e w2 ⟨rfl, hg⟩
                 clear x0 x1 x2 x3 y0 y1 y2 y3
                 have hs2 := HS1.out.grown hg
                 obtain ⟨y0, y1, y2, y3, _⟩ := bq4 hs2.hd
                 obtain ⟨x0, x1, x2, x3, _⟩ := bq4 hs2.tl.hd
                 have HS2 := Lib.hid hs2
                 have HK2 := Lib.hid (show w.grownBy w2 none from hs2.tl.tl.hd)
                 clear hg hs2)
              | (go_at_call 73
                 with_reducible refine (HC1.out _ HK2.out).mono ?_
                 rintro e w3 ⟨rfl, hg⟩
                 clear x0 x1 x2 x3 y0 y1 y2 y3
                 have hs3 := HS2.out.grown hg
                 obtain ⟨y0, y1, y2, y3, _⟩ := bq4 hs3.hd
                 obtain ⟨x0, x1, x2, x3, _⟩ := bq4 hs3.tl.hd
                 have HS3 := Lib.hid hs3
                 have HK3 := Lib.hid (show w.grownBy w3 none from hs3.tl.tl.hd)
                 clear hg hs3)
              | (go_at_call 73
                 with_reducible refine (HC2.out _ HK3.out).mono ?_
                 rintro e w4 ⟨rfl, hg⟩
                 clear x0 x1 x2 x3 y0 y1 y2 y3
                 have hs4 := HS3.out.grown hg
                 obtain ⟨y0, y1, y2, y3, _⟩ := bq4 hs4.hd
                 obtain ⟨x0, x1, x2, x3, _⟩ := bq4 hs4.tl.hd
                 have HS4 := Lib.hid hs4
                 have HK4 := Lib.hid (show w.grownBy w4 none from hs4.tl.tl.hd)
                 clear hg hs4)
              | (go_at_call 73
                 with_reducible refine (HC3.out _ HK4.out).mono ?_
                 rintro e w5 ⟨rfl, hg⟩
                 clear x0 x1 x2 x3 y0 y1 y2 y3
                 have hs5 := HS4.out.grown hg
                 obtain ⟨y0, y1, y2, y3, _⟩ := bq4 hs5.hd
                 obtain ⟨x0, x1, x2, x3, _⟩ := bq4 hs5.tl.hd
                 have HS5 := Lib.hid hs5
                 have HK5 := Lib.hid (show w.grownBy w5 none from hs5.tl.tl.hd)
                 clear hg hs5))
            go_ret
            exact ⟨rfl, HK5.out⟩
          | true =>
            cases c4 with
            | false =>
              go_enter Try.func75, Try.ntmps75
              go_wp2_with (first
                | (go_at_call 97
                   with_reducible refine (HP1.out _ HK0.out).mono ?_
                   rintro e w1 ⟨rfl, hg⟩
                   have hs1 := HS0.out.grown hg
                   obtain ⟨y0, y1, y2, y3, _⟩ := bq4 hs1.hd
                   obtain ⟨x0, x1, x2, x3, _⟩ := bq4 hs1.tl.hd
                   have HS1 := Lib.hid hs1
                   have HK1 := Lib.hid (show w.grownBy w1 none from hs1.tl.tl.hd)
                   clear hg hs1)
                | (go_at_call 97
                   with_reducible refine (HP2.out _ HK1.out).mono ?_
                   rintro e w2 ⟨rfl, hg⟩
                   clear x0 x1 x2 x3 y0 y1 y2 y3
                   have hs2 := HS1.out.grown hg
                   obtain ⟨y0, y1, y2, y3, _⟩ := bq4 hs2.hd
                   obtain ⟨x0, x1, x2, x3, _⟩ := bq4 hs2.tl.hd
                   have HS2 := Lib.hid hs2
                   have HK2 := Lib.hid (show w.grownBy w2 none from hs2.tl.tl.hd)
                   clear hg hs2)
                | (go_at_call 73
                   with_reducible refine (HC1.out _ HK2.out).mono ?_
                   rintro e w3 ⟨rfl, hg⟩
                   clear x0 x1 x2 x3 y0 y1 y2 y3
                   have hs3 := HS2.out.grown hg
                   obtain ⟨y0, y1, y2, y3, _⟩ := bq4 hs3.hd
                   obtain ⟨x0, x1, x2, x3, _⟩ := bq4 hs3.tl.hd
                   have HS3 := Lib.hid hs3
                   have HK3 := Lib.hid (show w.grownBy w3 none from hs3.tl.tl.hd)
                   clear hg hs3)
                | (go_at_call 73
                   with_reducible refine (HC2.out _ HK3.out).mono ?_
                   rintro e w4 ⟨rfl, hg⟩
                   clear x0 x1 x2 x3 y0 y1 y2 y3
                   have hs4 := HS3.out.grown hg
                   obtain ⟨y0, y1, y2, y3, _⟩ := bq4 hs4.hd
                   obtain ⟨x0, x1, x2, x3, _⟩ := bq4 hs4.tl.hd
                   have HS4 := Lib.hid hs4
                   have HK4 := Lib.hid (show w.grownBy w4 none from hs4.tl.tl.hd)
                   clear hg hs4)
                | (go_at_call 73
                   with_reducible refine (HC3.out _ HK4.out).mono ?_
                   rintro e w5 ⟨rfl, hg⟩
                   clear x0 x1 x2 x3 y0 y1 y2 y3
                   have hs5 := HS4.out.grown hg
                   obtain ⟨y0, y1, y2, y3, _⟩ := bq4 hs5.hd
                   obtain ⟨x0, x1, x2, x3, _⟩ := bq4 hs5.tl.hd
                   have HS5 := Lib.hid hs5
                   have HK5 := Lib.hid (show w.grownBy w5 none from hs5.tl.tl.hd)
                   clear hg hs5)
                | (go_at_call 73
                   with_reducible refine (HC4.out _ HK5.out).mono ?_
                   rintro e w6 ⟨rfl, hg⟩
                   clear x0 x1 x2 x3 y0 y1 y2 y3
                   have hs6 := HS5.out.grown hg
                   obtain ⟨y0, y1, y2, y3, _⟩ := bq4 hs6.hd
                   obtain ⟨x0, x1, x2, x3, _⟩ := bq4 hs6.tl.hd
                   have HS6 := Lib.hid hs6
                   have HK6 := Lib.hid (show w.grownBy w6 none from hs6.tl.tl.hd)
                   clear hg hs6))
              go_ret
              exact ⟨rfl, HK6.out⟩
            | true =>
              go_enter Try.func75, Try.ntmps75
              go_wp2_with (first
                | (go_at_call 97
                   with_reducible refine (HP1.out _ HK0.out).mono ?_
                   rintro e w1 ⟨rfl, hg⟩
                   have hs1 := HS0.out.grown hg
                   obtain ⟨y0, y1, y2, y3, _⟩ := bq4 hs1.hd
                   obtain ⟨x0, x1, x2, x3, _⟩ := bq4 hs1.tl.hd
                   have HS1 := Lib.hid hs1
                   have HK1 := Lib.hid (show w.grownBy w1 none from hs1.tl.tl.hd)
                   clear hg hs1)
                | (go_at_call 97
                   with_reducible refine (HP2.out _ HK1.out).mono ?_
                   rintro e w2 ⟨rfl, hg⟩
                   clear x0 x1 x2 x3 y0 y1 y2 y3
                   have hs2 := HS1.out.grown hg
                   obtain ⟨y0, y1, y2, y3, _⟩ := bq4 hs2.hd
                   obtain ⟨x0, x1, x2, x3, _⟩ := bq4 hs2.tl.hd
                   have HS2 := Lib.hid hs2
                   have HK2 := Lib.hid (show w.grownBy w2 none from hs2.tl.tl.hd)
                   clear hg hs2)
                | (go_at_call 73
                   with_reducible refine (HC1.out _ HK2.out).mono ?_
                   rintro e w3 ⟨rfl, hg⟩
                   clear x0 x1 x2 x3 y0 y1 y2 y3
                   have hs3 := HS2.out.grown hg
                   obtain ⟨y0, y1, y2, y3, _⟩ := bq4 hs3.hd
                   obtain ⟨x0, x1, x2, x3, _⟩ := bq4 hs3.tl.hd
                   have HS3 := Lib.hid hs3
                   have HK3 := Lib.hid (show w.grownBy w3 none from hs3.tl.tl.hd)
                   clear hg hs3)
                | (go_at_call 73
                   with_reducible refine (HC2.out _ HK3.out).mono ?_
                   rintro e w4 ⟨rfl, hg⟩
                   clear x0 x1 x2 x3 y0 y1 y2 y3
                   have hs4 := HS3.out.grown hg
                   obtain ⟨y0, y1, y2, y3, _⟩ := bq4 hs4.hd
                   obtain ⟨x0, x1, x2, x3, _⟩ := bq4 hs4.tl.hd
                   have HS4 := Lib.hid hs4
                   have HK4 := Lib.hid (show w.grownBy w4 none from hs4.tl.tl.hd)
                   clear hg hs4)
                | (go_at_call 73
                   with_reducible refine (HC3.out _ HK4.out).mono ?_
                   rintro e w5 ⟨rfl, hg⟩
                   clear x0 x1 x2 x3 y0 y1 y2 y3
                   have hs5 := HS4.out.grown hg
                   obtain ⟨y0, y1, y2, y3, _⟩ := bq4 hs5.hd
                   obtain ⟨x0, x1, x2, x3, _⟩ := bq4 hs5.tl.hd
                   have HS5 := Lib.hid hs5
                   have HK5 := Lib.hid (show w.grownBy w5 none from hs5.tl.tl.hd)
                   clear hg hs5)
                | (go_at_call 73
                   with_reducible refine (HC4.out _ HK5.out).mono ?_
                   rintro e w6 ⟨rfl, hg⟩
                   clear x0 x1 x2 x3 y0 y1 y2 y3
                   have hs6 := HS5.out.grown hg
                   obtain ⟨y0, y1, y2, y3, _⟩ := bq4 hs6.hd
                   obtain ⟨x0, x1, x2, x3, _⟩ := bq4 hs6.tl.hd
                   have HS6 := Lib.hid hs6
                   have HK6 := Lib.hid (show w.grownBy w6 none from hs6.tl.tl.hd)
                   clear hg hs6))
              go_ret
              exact ⟨rfl, HK6.out⟩
        | true =>
          go_enter Try.func75, Try.ntmps75
          go_wp2_with (first
            | (go_at_call 97
               with_reducible refine (HP1.out _ HK0.out).mono ?_
               rintro e w1 ⟨rfl, hg⟩
               have hs1 := HS0.out.grown hg
               obtain ⟨y0, y1, y2, y3, _⟩ := bq4 hs1.hd
               obtain ⟨x0, x1, x2, x3, _⟩ := bq4 hs1.tl.hd
               have HS1 := Lib.hid hs1
               have HK1 := Lib.hid (show w.grownBy w1 none from hs1.tl.tl.hd)
               clear hg hs1)
            | (go_at_call 97
               with_reducible refine (HP2.out _ HK1.out).mono ?_
               rintro e w2 ⟨rfl, hg⟩
               clear x0 x1 x2 x3 y0 y1 y2 y3
               have hs2 := HS1.out.grown hg
               obtain ⟨y0, y1, y2, y3, _⟩ := bq4 hs2.hd
               obtain ⟨x0, x1, x2, x3, _⟩ := bq4 hs2.tl.hd
               have HS2 := Lib.hid hs2
               have HK2 := Lib.hid (show w.grownBy w2 none from hs2.tl.tl.hd)
               clear hg hs2)
            | (go_at_call 73
               with_reducible refine (HC1.out _ HK2.out).mono ?_
               rintro e w3 ⟨rfl, hg⟩
               clear x0 x1 x2 x3 y0 y1 y2 y3
               have hs3 := HS2.out.grown hg
               obtain ⟨y0, y1, y2, y3, _⟩ := bq4 hs3.hd
               obtain ⟨x0, x1, x2, x3, _⟩ := bq4 hs3.tl.hd
               have HS3 := Lib.hid hs3
               have HK3 := Lib.hid (show w.grownBy w3 none from hs3.tl.tl.hd)
               clear hg hs3)
            | (go_at_call 73
               with_reducible refine (HC2.out _ HK3.out).mono ?_
               rintro e w4 ⟨rfl, hg⟩
               clear x0 x1 x2 x3 y0 y1 y2 y3
               have hs4 := HS3.out.grown hg
               obtain ⟨y0, y1, y2, y3, _⟩ := bq4 hs4.hd
               obtain ⟨x0, x1, x2, x3, _⟩ := bq4 hs4.tl.hd
               have HS4 := Lib.hid hs4
               have HK4 := Lib.hid (show w.grownBy w4 none from hs4.tl.tl.hd)
               clear hg hs4))
          go_ret
          exact ⟨rfl, HK4.out⟩
    | true =>
      go_enter Try.func75, Try.ntmps75
      go_wp2_with (first
        | (go_at_call 97
           with_reducible refine (HP1.out _ HK0.out).mono ?_
           rintro e w1 ⟨rfl, hg⟩
           have hs1 := HS0.out.grown hg
           obtain ⟨y0, y1, y2, y3, _⟩ := bq4 hs1.hd
           obtain ⟨x0, x1, x2, x3, _⟩ := bq4 hs1.tl.hd
           have HS1 := Lib.hid hs1
           have HK1 := Lib.hid (show w.grownBy w1 none from hs1.tl.tl.hd)
           clear hg hs1)
        | (go_at_call 97
           with_reducible refine (HP2.out _ HK1.out).mono ?_
           rintro e w2 ⟨rfl, hg⟩
           clear x0 x1 x2 x3 y0 y1 y2 y3
           have hs2 := HS1.out.grown hg
           obtain ⟨y0, y1, y2, y3, _⟩ := bq4 hs2.hd
           obtain ⟨x0, x1, x2, x3, _⟩ := bq4 hs2.tl.hd
           have HS2 := Lib.hid hs2
           have HK2 := Lib.hid (show w.grownBy w2 none from hs2.tl.tl.hd)
           clear hg hs2))
      go_ret
      exact ⟨rfl, HK2.out⟩
  | true =>
    go_enter Try.func75, Try.ntmps75
    go_wp2_with (first
      | (go_at_call 97
         with_reducible refine (HP1.out _ HK0.out).mono ?_
         rintro e w1 ⟨rfl, hg⟩
         have hs1 := HS0.out.grown hg
         obtain ⟨y0, y1, y2, y3, _⟩ := bq4 hs1.hd
         obtain ⟨x0, x1, x2, x3, _⟩ := bq4 hs1.tl.hd
         have HS1 := Lib.hid hs1
         have HK1 := Lib.hid (show w.grownBy w1 none from hs1.tl.tl.hd)
         clear hg hs1))
    go_ret
    exact ⟨rfl, HK1.out⟩
end Go.Proofs.Ytlpgjnjhhgjkmaa

/-
  Whether two matches lie apart, in the program and in the reference. Conditions: the lists can be read and are small; no two wires of the second match have one image.
-/
namespace Go.Proofs.Ytlpgjnjhhgjkmaa
open Go.RowKit
set_option linter.unusedVariables false
set_option maxRecDepth 100000

def Ap (p : Gr) (A B : Mt) : Prop := (∀ e ∈ A.E, e ∉ B.E) ∧ ∀ v u : Nat, v < A.W.length → u < B.W.length → A.W.getD v 0 = B.W.getD u 0 → shB p v u = true
theorem ap_edge {p : Gr} {A B : Mt} {x : Int} (h : x ∈ A.E) (hb : x ∈ B.E) : tst (Ap p A B) = false := tst_not fun ha => ha.1 x h hb
theorem ap_wire {p : Gr} {A B : Mt} {v u : Nat} (h1 : v < A.W.length) (h2 : u < B.W.length) (h3 : A.W.getD v 0 = B.W.getD u 0) (h4 : shB p v u = false) : tst (Ap p A B) = false := tst_not fun ha => by
  have := ha.2 v u h1 h2 h3
  rw [h4] at this
  cases this
theorem ap_all {p : Gr} {A B : Mt} (h1 : ∀ j, j < A.E.length → A.E.getD j 0 ∉ B.E) (h2 : ∀ v : Nat, v < A.W.length → ∀ u : Nat, u < B.W.length → A.W.getD v 0 = B.W.getD u 0 → shB p v u = true) : tst (Ap p A B) = true :=
  tst_iff.2 ⟨fun e he => by obtain ⟨j, hj, rfl⟩ := mem_gd.1 he; exact h1 j hj, fun v u hv hu => h2 v hv u hu⟩
theorem nd_one {B : List Int} (hd : B.Nodup) {m u : Nat} (hm : m < B.length) (hu : u < B.length) (he : B.getD m 0 = B.getD u 0) : m = u := by
  rw [List.getD_eq_getElem?_getD, List.getD_eq_getElem?_getD, List.getElem?_eq_getElem hm, List.getElem?_eq_getElem hu] at he
  exact (List.getElem_inj hd).1 he
set_option maxHeartbeats 4000000 in
theorem iApart_any (p : Gr) (n : Int) (ea : Option Addr) (en ec : Nat) (pi : Option Addr) (pd : Nat) (po : Option Addr) (pf : Nat) (A B : Mt) (a1 : Option Addr) (a2 : Nat) (a3 : Option Addr) (a4 : Nat) (b1 : Option Addr) (b2 : Nat) (b3 : Option Addr) (b4 : Nat) (w : World)
    (h1 : IntsV w (.slice pi p.i.length pd) p.i) (h2 : IntsV w (.slice po p.o.length pf) p.o) (l1 : p.i.length ≤ 1000000) (l2 : p.o.length ≤ 1000000)
    (k1 : IntsV w (.slice a1 A.W.length a2) A.W) (k2 : IntsV w (.slice a3 A.E.length a4) A.E) (k3 : IntsV w (.slice b1 B.W.length b2) B.W) (k4 : IntsV w (.slice b3 B.E.length b4) B.E) (m1 : A.W.length ≤ 1000) (m2 : A.E.length ≤ 1000) (m3 : B.W.length ≤ 1000) (m4 : B.E.length ≤ 1000) (hd : B.W.Nodup) :
    Calls Try.prog 49 #[.agg #[.int .i64 n, .slice ea en ec, .slice pi p.i.length pd, .slice po p.o.length pf], .agg #[.slice a1 A.W.length a2, .slice a3 A.E.length a4], .agg #[.int .i64 n, .slice ea en ec, .slice pi p.i.length pd, .slice po p.o.length pf], .agg #[.slice b1 B.W.length b2, .slice b3 B.E.length b4]] w fun e w' => e = .returned (.bool (tst (Ap p A B))) ∧ w.grownBy w' none := by
  have HSH := Lib.hid fun (v u : Int) W (h : w.grownBy W none) => mayShare_any p n ea en ec pi pd po pf v u W (h1.carry h) (h2.carry h) l1 l2
  have HCE := Lib.hid fun (x : Int) W (h : w.grownBy W none) => contains_any _ B.E x W (k4.carry h) (by omega)
  have HIW := Lib.hid fun (x : Int) (m : Nat) (hm : m < B.W.length) (he : B.W.getD m 0 = x) (hn : ∀ j, j < m → B.W.getD j 0 ≠ x) W (h : w.grownBy W none) => index_any _ B.W x m W (k3.carry h) (by omega) hm he hn
  have HIN := Lib.hid fun (x : Int) (hn : x ∉ B.W) W (h : w.grownBy W none) => index_no _ B.W x W (k3.carry h) (by omega) hn
  have HAE := Lib.hid fun W (h : w.grownBy W none) => k2.carry h
  have HAW := Lib.hid fun W (h : w.grownBy W none) => k1.carry h
  have HND := Lib.hid hd
  have hs0 := ((((Sep.start w).box #[.int .i64 n, .slice ea en ec, .slice pi p.i.length pd, .slice po p.o.length pf] 29).boxAt (w.heap.size + 1) (by simp) #[.slice a1 A.W.length a2, .slice a3 A.E.length a4] 37).boxAt (w.heap.size + 1 + 1) (by simp) #[.int .i64 n, .slice ea en ec, .slice pi p.i.length pd, .slice po p.o.length pf] 29).boxAt (w.heap.size + 1 + 1 + 1) (by simp) #[.slice b1 B.W.length b2, .slice b3 B.E.length b4] 37
  have HS0 := Lib.hid hs0
  obtain ⟨s0, s1⟩ := bq2 hs0.tl.tl.hd
  clear h1 h2 l1 l2 k1 k2 k3 k4 hd hs0
  go_enter Try.func49, Try.ntmps49
  go_wp2_with fail
  go_loopw [10, 17] (fun _ i wr => ∃ k : Nat, k ≤ A.E.length ∧ i = .int .i64 k ∧ (∀ j, j < k → A.E.getD j 0 ∉ B.E) ∧ Sep wr [BxA (w.heap.size + 1 + 1 + 1) #[.slice b1 B.W.length b2, .slice b3 B.E.length b4] 37, BxA (w.heap.size + 1 + 1) #[.int .i64 n, .slice ea en ec, .slice pi p.i.length pd, .slice po p.o.length pf] 29, BxA (w.heap.size + 1) #[.slice a1 A.W.length a2, .slice a3 A.E.length a4] 37, BxA w.heap.size #[.int .i64 n, .slice ea en ec, .slice pi p.i.length pd, .slice po p.o.length pf] 29, KeepA w]) (fun _ i _ => A.E.length - (intOf i).toNat)
  case atStart => exact ⟨0, by omega, rfl, fun j hj => by omega, HS0.out⟩
  case round =>
    obtain ⟨k, hk, rfl, hall, hs⟩ := hrel
    have HALL := Lib.hid hall; have HSR := Lib.hid hs
    have HG := Lib.hid (show w.grownBy wr none from hs.tl.tl.tl.tl.hd)
    clear hall HS0 s0 s1
    obtain ⟨s0, s1⟩ := bq2 hs.tl.tl.hd
    obtain ⟨t0, t1⟩ := bq2 hs.hd
    clear hs
    by_cases hlt : k < A.E.length
    · obtain ⟨g1, o1, ha3, _, x0⟩ := (HAE.out _ HG.out).atD hlt
      subst ha3
      have HC := Lib.hid (HCE.out (A.E.getD k 0) wr HG.out)
      have HMEM := Lib.hid (getD_mem' hlt)
      have hki : (k : Int) < (A.E.length : Int) := by omega
      obtain ⟨x, hx⟩ : ∃ x, x = A.E.getD k 0 := ⟨_, rfl⟩
      rw [← hx] at x0 HC HMEM
      have HXX := Lib.hid hx
      clear hx
      by_cases hin : x ∈ B.E
      · rw [decide_eq_true hin] at HC
        have HT := Lib.hid (ap_edge (p := p) HMEM.out hin)
        clear hin
        go_wp2_with (
          go_at_call 73
          with_reducible refine HC.out.mono ?_
          rintro e w2 ⟨rfl, hg⟩
          have HG2 := Lib.hid (grownBy_trans HG.out hg)
          clear hg)
        go_ret
        exact ⟨by rw [HT.out]; try rfl, HG2.out⟩
      · rw [decide_eq_false hin] at HC
        have HN2 := Lib.hid (show ∀ j, j < k + 1 → A.E.getD j 0 ∉ B.E from fun j hj => by
          by_cases e : j = k
          · rw [e, ← HXX.out]; exact hin
          · exact HALL.out j (by omega))
        clear hin
        go_wp2_with (
          go_at_call 73
          with_reducible refine HC.out.mono ?_
          rintro e w2 ⟨rfl, hg⟩
          have HS2 := Lib.hid (HSR.out.grown hg)
          clear hg s0 s1 t0 t1)
        go_roundw
        case rel => exact ⟨k + 1, by omega, by go_num, HN2.out, HS2.out⟩
        case measure => simp [intOf]; omega
    · have HE := Lib.hid (show ∀ j, j < A.E.length → A.E.getD j 0 ∉ B.E from fun j hj => HALL.out j (by omega))
      have hki : ¬ (k : Int) < (A.E.length : Int) := by omega
      clear HALL
      go_wp2_with fail
      clear s0 s1 t0 t1
      go_loopw [11, 12, 13, 29] (fun _ _ _ i wr => ∃ k : Nat, k ≤ A.W.length ∧ i = .int .i64 k ∧ (∀ v : Nat, v < k → ∀ u : Nat, u < B.W.length → A.W.getD v 0 = B.W.getD u 0 → shB p v u = true) ∧ Sep wr [BxA (w.heap.size + 1 + 1 + 1) #[.slice b1 B.W.length b2, .slice b3 B.E.length b4] 37, BxA (w.heap.size + 1 + 1) #[.int .i64 n, .slice ea en ec, .slice pi p.i.length pd, .slice po p.o.length pf] 29, BxA (w.heap.size + 1) #[.slice a1 A.W.length a2, .slice a3 A.E.length a4] 37, BxA w.heap.size #[.int .i64 n, .slice ea en ec, .slice pi p.i.length pd, .slice po p.o.length pf] 29, KeepA w]) (fun _ _ _ i _ => A.W.length - (intOf i).toNat)
      case atStart => exact ⟨0, by omega, rfl, fun v hv => by omega, HSR.out⟩
      case round =>
        obtain ⟨k, hk, rfl, hall, hs⟩ := hrel
        have HALL := Lib.hid hall
        clear HSR HG
        have HSR := Lib.hid hs
        have HG := Lib.hid (show w.grownBy wr none from hs.tl.tl.tl.tl.hd)
        clear hall
        obtain ⟨t0, t1⟩ := bq2 hs.hd
        clear hs hki hlt
        by_cases hlt : k < A.W.length
        · obtain ⟨g1, o1, ha1, _, x0⟩ := (HAW.out _ HG.out).atD hlt
          subst ha1
          have HLT := Lib.hid hlt
          have hki : (k : Int) < (A.W.length : Int) := by omega
          obtain ⟨x, hx⟩ : ∃ x, x = A.W.getD k 0 := ⟨_, rfl⟩
          rw [← hx] at x0
          have HXX := Lib.hid hx
          clear hx
          by_cases hin : x ∈ B.W
          · obtain ⟨m, hm1, hm2, hm3⟩ := first_idx hin
            have HM1 := Lib.hid hm1; have HM2 := Lib.hid hm2
            have HC := Lib.hid (HIW.out x m hm1 hm2 hm3 wr HG.out)
            have hmi : (0 : Int) ≤ (m : Int) := by omega
            cases hsh : shB p k m with
            | true =>
              have HSC := Lib.hid (HSH.out k m)
              rw [hsh] at HSC
              have HN2 := Lib.hid (show ∀ v : Nat, v < k + 1 → ∀ u : Nat, u < B.W.length → A.W.getD v 0 = B.W.getD u 0 → shB p v u = true from fun v hv u hu he => by
                by_cases e : v = k
                · subst e
                  have := nd_one HND.out HM1.out hu (by rw [HM2.out, HXX.out]; exact he)
                  rw [← this]
                  exact hsh
                · exact HALL.out v (by omega) u hu he)
              clear hsh hin hm1 hm2 hm3
              go_wp2_with (first
                | (go_at_call 74
                   with_reducible refine HC.out.mono ?_
                   rintro e w2 ⟨rfl, hg⟩
                   have hs2 := HSR.out.grown hg
                   obtain ⟨y0, y1, y2, y3, _⟩ := bq4 hs2.tl.hd
                   obtain ⟨z0, z1, z2, z3, _⟩ := bq4 hs2.tl.tl.tl.hd
                   have HS2 := Lib.hid hs2
                   have HG2 := Lib.hid (show w.grownBy w2 none from hs2.tl.tl.tl.tl.hd)
                   clear hg t0 t1 hs2)
                | (go_at_call 75
                   with_reducible refine (HSC.out _ HG2.out).mono ?_
                   rintro e w3 ⟨rfl, hg⟩
                   have HS3 := Lib.hid (HS2.out.grown hg)
                   clear hg y0 y1 y2 y3 z0 z1 z2 z3))
              go_roundw
              case rel => exact ⟨k + 1, HLT.out, by go_num, HN2.out, HS3.out⟩
              case measure => simp [intOf]; omega
            | false =>
              have HSC := Lib.hid (HSH.out k m)
              rw [hsh] at HSC
              have HT := Lib.hid (ap_wire (p := p) (A := A) (B := B) HLT.out HM1.out (by rw [HM2.out]; exact HXX.out.symm) hsh)
              clear hsh hin hm1 hm2 hm3
              go_wp2_with (first
                | (go_at_call 74
                   with_reducible refine HC.out.mono ?_
                   rintro e w2 ⟨rfl, hg⟩
                   have hs2 := HSR.out.grown hg
                   obtain ⟨y0, y1, y2, y3, _⟩ := bq4 hs2.tl.hd
                   obtain ⟨z0, z1, z2, z3, _⟩ := bq4 hs2.tl.tl.tl.hd
                   have HS2 := Lib.hid hs2
                   have HG2 := Lib.hid (show w.grownBy w2 none from hs2.tl.tl.tl.tl.hd)
                   clear hg t0 t1 hs2)
                | (go_at_call 75
                   with_reducible refine (HSC.out _ HG2.out).mono ?_
                   rintro e w3 ⟨rfl, hg⟩
                   have HG3 := Lib.hid (grownBy_trans HG2.out hg)
                   clear hg y0 y1 y2 y3 z0 z1 z2 z3))
              go_ret
              exact ⟨by rw [HT.out]; try rfl, HG3.out⟩
          · have HC := Lib.hid (HIN.out x hin wr HG.out)
            have HN2 := Lib.hid (show ∀ v : Nat, v < k + 1 → ∀ u : Nat, u < B.W.length → A.W.getD v 0 = B.W.getD u 0 → shB p v u = true from fun v hv u hu he => by
              by_cases e : v = k
              · subst e
                rw [← HXX.out] at he
                exact absurd (by rw [he]; exact getD_mem' hu) hin
              · exact HALL.out v (by omega) u hu he)
            clear hin
            go_wp2_with (
              go_at_call 74
              with_reducible refine HC.out.mono ?_
              rintro e w2 ⟨rfl, hg⟩
              have HS2 := Lib.hid (HSR.out.grown hg)
              clear hg t0 t1)
            go_roundw
            case rel => exact ⟨k + 1, HLT.out, by go_num, HN2.out, HS2.out⟩
            case measure => simp [intOf]; omega
        · have HT := Lib.hid (ap_all (p := p) HE.out fun v hv => HALL.out v (by omega))
          have hki : ¬ (k : Int) < (A.W.length : Int) := by omega
          go_wp2_with fail
          go_ret
          exact ⟨by rw [HT.out]; try rfl, HG.out⟩
set_option maxHeartbeats 4000000 in
theorem sApart_any (p : Gr) (n : Int) (ea : Option Addr) (en ec : Nat) (pi : Option Addr) (pd : Nat) (po : Option Addr) (pf : Nat) (A B : Mt) (a1 : Option Addr) (a2 : Nat) (a3 : Option Addr) (a4 : Nat) (b1 : Option Addr) (b2 : Nat) (b3 : Option Addr) (b4 : Nat) (w : World)
    (h1 : IntsV w (.slice pi p.i.length pd) p.i) (h2 : IntsV w (.slice po p.o.length pf) p.o) (l1 : p.i.length ≤ 1000000) (l2 : p.o.length ≤ 1000000)
    (k1 : IntsV w (.slice a1 A.W.length a2) A.W) (k2 : IntsV w (.slice a3 A.E.length a4) A.E) (k3 : IntsV w (.slice b1 B.W.length b2) B.W) (k4 : IntsV w (.slice b3 B.E.length b4) B.E) (m1 : A.W.length ≤ 1000) (m2 : A.E.length ≤ 1000) (m3 : B.W.length ≤ 1000) (m4 : B.E.length ≤ 1000) (hd : B.W.Nodup) :
    Calls Try.prog 48 #[.agg #[.int .i64 n, .slice ea en ec, .slice pi p.i.length pd, .slice po p.o.length pf], .agg #[.slice a1 A.W.length a2, .slice a3 A.E.length a4], .agg #[.int .i64 n, .slice ea en ec, .slice pi p.i.length pd, .slice po p.o.length pf], .agg #[.slice b1 B.W.length b2, .slice b3 B.E.length b4]] w fun e w' => e = .returned (.bool (tst (Ap p A B))) ∧ w.grownBy w' none := by
  have HMT := Lib.hid fun W (h : w.grownBy W none) => hgMeets_any _ _ A.E B.E W (k2.carry h) (k4.carry h) (by omega) (by omega)
  have HD1 := Lib.hid fun (v : Int) W (h : w.grownBy W none) => mtSide_any _ _ p.o p.i v W (h2.carry h) (h1.carry h) l2 l1
  have HD2 := Lib.hid fun (v : Int) W (h : w.grownBy W none) => mtSide_any _ _ p.i p.o v W (h1.carry h) (h2.carry h) l1 l2
  have HAW := Lib.hid fun W (h : w.grownBy W none) => k1.carry h
  have HBW := Lib.hid fun W (h : w.grownBy W none) => k3.carry h
  have HSB := Lib.hid fun (v u : Int) => show shB p v u = ((sdB p.o p.i v && sdB p.i p.o u) || (sdB p.i p.o v && sdB p.o p.i u)) from rfl
  have hs0 := ((((Sep.start w).box #[.int .i64 n, .slice ea en ec, .slice pi p.i.length pd, .slice po p.o.length pf] 29).boxAt (w.heap.size + 1) (by simp) #[.slice a1 A.W.length a2, .slice a3 A.E.length a4] 37).boxAt (w.heap.size + 1 + 1) (by simp) #[.int .i64 n, .slice ea en ec, .slice pi p.i.length pd, .slice po p.o.length pf] 29).boxAt (w.heap.size + 1 + 1 + 1) (by simp) #[.slice b1 B.W.length b2, .slice b3 B.E.length b4] 37
  have HS0 := Lib.hid hs0
  have HK0 := Lib.hid (show w.grownBy _ none from hs0.tl.tl.tl.tl.hd)
  obtain ⟨s0, s1⟩ := bq2 hs0.tl.tl.hd
  obtain ⟨t0, t1⟩ := bq2 hs0.hd
  clear h1 h2 l1 l2 k1 k2 k3 k4 hd hs0
  by_cases hme : ∃ x ∈ A.E, x ∈ B.E
  · rw [tst_iff.2 hme] at HMT
    have HT := Lib.hid (show tst (Ap p A B) = false from by obtain ⟨x, h1, h2⟩ := hme; exact ap_edge h1 h2)
    clear hme
    go_enter Try.func48, Try.ntmps48
    go_wp2_with (
      go_at_call 71
      with_reducible refine (HMT.out _ HK0.out).mono ?_
      rintro e w2 ⟨rfl, hg⟩
      have HG2 := Lib.hid (grownBy_trans HK0.out hg)
      clear hg)
    go_ret
    exact ⟨by rw [HT.out]; try rfl, HG2.out⟩
  · rw [tst_not hme] at HMT
    have HE := Lib.hid (show ∀ j, j < A.E.length → A.E.getD j 0 ∉ B.E from fun j hj hb => hme ⟨_, getD_mem' hj, hb⟩)
    clear hme
    go_enter Try.func48, Try.ntmps48
    go_wp2_with (
      go_at_call 71
      with_reducible refine (HMT.out _ HK0.out).mono ?_
      rintro e w2 ⟨rfl, hg⟩
      clear s0 s1 t0 t1
      have hs2 := HS0.out.grown hg
      obtain ⟨s0, s1⟩ := bq2 hs2.tl.tl.hd
      have HS2 := Lib.hid hs2
      clear hg hs2)
    clear s0 s1 HMT
    go_loopw [9, 10, 11, 12, 13, 22] (fun _ _ _ _ _ i wr => ∃ k : Nat, k ≤ A.W.length ∧ i = .int .i64 k ∧ (∀ v : Nat, v < k → ∀ u : Nat, u < B.W.length → A.W.getD v 0 = B.W.getD u 0 → shB p v u = true) ∧ Sep wr [BxA (w.heap.size + 1 + 1 + 1) #[.slice b1 B.W.length b2, .slice b3 B.E.length b4] 37, BxA (w.heap.size + 1 + 1) #[.int .i64 n, .slice ea en ec, .slice pi p.i.length pd, .slice po p.o.length pf] 29, BxA (w.heap.size + 1) #[.slice a1 A.W.length a2, .slice a3 A.E.length a4] 37, BxA w.heap.size #[.int .i64 n, .slice ea en ec, .slice pi p.i.length pd, .slice po p.o.length pf] 29, KeepA w]) (fun _ _ _ _ _ i _ => A.W.length - (intOf i).toNat)
    case atStart => exact ⟨0, by omega, rfl, fun v hv => by omega, HS2.out⟩
    case round =>
      obtain ⟨k, hk, rfl, hall, hs⟩ := hrel
      have HALL := Lib.hid hall
      clear HS0 HS2 HK0
      have HSR := Lib.hid hs
      have HG := Lib.hid (show w.grownBy wr none from hs.tl.tl.tl.tl.hd)
      clear hall
      obtain ⟨t0, t1⟩ := bq2 hs.hd
      clear hs
      by_cases hlt : k < A.W.length
      · obtain ⟨g1, o1, ha1, _, x0⟩ := (HAW.out _ HG.out).atD hlt
        subst ha1
        have HLT := Lib.hid hlt
        have hki : (k : Int) < (A.W.length : Int) := by omega
        obtain ⟨x, hx⟩ : ∃ x, x = A.W.getD k 0 := ⟨_, rfl⟩
        rw [← hx] at x0
        have HXX := Lib.hid hx
        clear hx
        go_wp2_with fail
        clear x0 t0 t1
        go_loopw [11, 12, 13, 30] (fun _ _ _ i wr => ∃ u : Nat, u ≤ B.W.length ∧ i = .int .i64 u ∧ (∀ u1 : Nat, u1 < u → A.W.getD k 0 = B.W.getD u1 0 → shB p k u1 = true) ∧ Sep wr [BxA (w.heap.size + 1 + 1 + 1) #[.slice b1 B.W.length b2, .slice b3 B.E.length b4] 37, BxA (w.heap.size + 1 + 1) #[.int .i64 n, .slice ea en ec, .slice pi p.i.length pd, .slice po p.o.length pf] 29, BxA (w.heap.size + 1) #[.slice (some ⟨g1, o1, none⟩) A.W.length a2, .slice a3 A.E.length a4] 37, BxA w.heap.size #[.int .i64 n, .slice ea en ec, .slice pi p.i.length pd, .slice po p.o.length pf] 29, KeepA w]) (fun _ _ _ i _ => B.W.length - (intOf i).toNat)
        case atStart => exact ⟨0, by omega, rfl, fun v hv => by omega, HSR.out⟩
        case round =>
          obtain ⟨u, hu, rfl, hall, hs⟩ := hrel
          have HALU := Lib.hid hall
          clear HSR HG
          have HSR := Lib.hid hs
          have HG := Lib.hid (show w.grownBy wr none from hs.tl.tl.tl.tl.hd)
          clear hall
          obtain ⟨y0, y1, y2, y3, _⟩ := bq4 hs.tl.hd
          obtain ⟨z0, z1, z2, z3, _⟩ := bq4 hs.tl.tl.tl.hd
          clear hs
          by_cases hlu : u < B.W.length
          · obtain ⟨g2, o2, hb1, _, v0⟩ := (HBW.out _ HG.out).atD hlu
            subst hb1
            have HLU := Lib.hid hlu
            have hui : (u : Int) < (B.W.length : Int) := by omega
            obtain ⟨y, hy⟩ : ∃ y, y = B.W.getD u 0 := ⟨_, rfl⟩
            rw [← hy] at v0
            have HYY := Lib.hid hy
            clear hy
            by_cases hxy : x = y
            · have HEQ := Lib.hid (show A.W.getD k 0 = B.W.getD u 0 from by rw [← HXX.out, ← HYY.out]; exact hxy)
              have hne : (x != y) = false := by simpa using hxy
              clear hxy
              have HSHV := Lib.hid (HSB.out k u)
              have HE1 := Lib.hid (HD1.out (k : Int))
              have HE2 := Lib.hid (HD2.out (u : Int))
              have HE3 := Lib.hid (HD2.out (k : Int))
              have HE4 := Lib.hid (HD1.out (u : Int))
              generalize sdB p.o p.i (k : Int) = s1 at *
              generalize sdB p.i p.o (u : Int) = s2 at *
              generalize sdB p.i p.o (k : Int) = s3 at *
              generalize sdB p.o p.i (u : Int) = s4 at *
              cases s1 with
              | false =>
                cases s3 with
                | false =>
                  have HT := Lib.hid (ap_wire (p := p) (A := A) (B := B) HLT.out HLU.out HEQ.out HSHV.out)
                  go_wp2_with (first
                    | (go_at_call 72
                       with_reducible refine (HE1.out _ HG.out).mono ?_
                       rintro e w2 ⟨rfl, hg⟩
                       have hs := HSR.out.grown hg
                       clear y0 y1 y2 y3 z0 z1 z2 z3
                       obtain ⟨y0, y1, y2, y3, _⟩ := bq4 hs.tl.hd
                       obtain ⟨z0, z1, z2, z3, _⟩ := bq4 hs.tl.tl.tl.hd
                       have HS1 := Lib.hid hs
                       have HG1 := Lib.hid (show w.grownBy w2 none from hs.tl.tl.tl.tl.hd)
                       clear hg hs)
                    | (go_at_call 72
                       with_reducible refine (HE3.out _ HG1.out).mono ?_
                       rintro e w3 ⟨rfl, hg⟩
                       have hs := HS1.out.grown hg
                       clear y0 y1 y2 y3 z0 z1 z2 z3
                       obtain ⟨y0, y1, y2, y3, _⟩ := bq4 hs.tl.hd
                       obtain ⟨z0, z1, z2, z3, _⟩ := bq4 hs.tl.tl.tl.hd
                       have HS2 := Lib.hid hs
                       have HG2 := Lib.hid (show w.grownBy w3 none from hs.tl.tl.tl.tl.hd)
                       clear hg hs))
                  go_ret
                  exact ⟨by rw [HT.out]; try rfl, HG2.out⟩
                | true =>
                  cases s4 with
                  | false =>
                    have HT := Lib.hid (ap_wire (p := p) (A := A) (B := B) HLT.out HLU.out HEQ.out HSHV.out)
                    go_wp2_with (first
                      | (go_at_call 72
                         with_reducible refine (HE1.out _ HG.out).mono ?_
                         rintro e w2 ⟨rfl, hg⟩
                         have hs := HSR.out.grown hg
                         clear y0 y1 y2 y3 z0 z1 z2 z3
                         obtain ⟨y0, y1, y2, y3, _⟩ := bq4 hs.tl.hd
                         obtain ⟨z0, z1, z2, z3, _⟩ := bq4 hs.tl.tl.tl.hd
                         have HS1 := Lib.hid hs
                         have HG1 := Lib.hid (show w.grownBy w2 none from hs.tl.tl.tl.tl.hd)
                         clear hg hs)
                      | (go_at_call 72
                         with_reducible refine (HE3.out _ HG1.out).mono ?_
                         rintro e w3 ⟨rfl, hg⟩
                         have hs := HS1.out.grown hg
                         clear y0 y1 y2 y3 z0 z1 z2 z3
                         obtain ⟨y0, y1, y2, y3, _⟩ := bq4 hs.tl.hd
                         obtain ⟨z0, z1, z2, z3, _⟩ := bq4 hs.tl.tl.tl.hd
                         have HS2 := Lib.hid hs
                         have HG2 := Lib.hid (show w.grownBy w3 none from hs.tl.tl.tl.tl.hd)
                         clear hg hs)
                      | (go_at_call 72
                         with_reducible refine (HE4.out _ HG2.out).mono ?_
                         rintro e w4 ⟨rfl, hg⟩
                         have hs := HS2.out.grown hg
                         clear y0 y1 y2 y3 z0 z1 z2 z3
                         obtain ⟨y0, y1, y2, y3, _⟩ := bq4 hs.tl.hd
                         obtain ⟨z0, z1, z2, z3, _⟩ := bq4 hs.tl.tl.tl.hd
                         have HS3 := Lib.hid hs
                         have HG3 := Lib.hid (show w.grownBy w4 none from hs.tl.tl.tl.tl.hd)
                         clear hg hs))
                    go_ret
                    exact ⟨by rw [HT.out]; try rfl, HG3.out⟩
                  | true =>
                    have HN3 := Lib.hid (show ∀ u1 : Nat, u1 < u + 1 → A.W.getD k 0 = B.W.getD u1 0 → shB p k u1 = true from fun u1 hu1 he => by
                      by_cases e : u1 = u
                      · rw [e]; exact HSHV.out
                      · exact HALU.out u1 (by omega) he)
                    go_wp2_with (first
                      | (go_at_call 72
                         with_reducible refine (HE1.out _ HG.out).mono ?_
                         rintro e w2 ⟨rfl, hg⟩
                         have hs := HSR.out.grown hg
                         clear y0 y1 y2 y3 z0 z1 z2 z3
                         obtain ⟨y0, y1, y2, y3, _⟩ := bq4 hs.tl.hd
                         obtain ⟨z0, z1, z2, z3, _⟩ := bq4 hs.tl.tl.tl.hd
                         have HS1 := Lib.hid hs
                         have HG1 := Lib.hid (show w.grownBy w2 none from hs.tl.tl.tl.tl.hd)
                         clear hg hs)
                      | (go_at_call 72
                         with_reducible refine (HE3.out _ HG1.out).mono ?_
                         rintro e w3 ⟨rfl, hg⟩
                         have hs := HS1.out.grown hg
                         clear y0 y1 y2 y3 z0 z1 z2 z3
                         obtain ⟨y0, y1, y2, y3, _⟩ := bq4 hs.tl.hd
                         obtain ⟨z0, z1, z2, z3, _⟩ := bq4 hs.tl.tl.tl.hd
                         have HS2 := Lib.hid hs
                         have HG2 := Lib.hid (show w.grownBy w3 none from hs.tl.tl.tl.tl.hd)
                         clear hg hs)
                      | (go_at_call 72
                         with_reducible refine (HE4.out _ HG2.out).mono ?_
                         rintro e w4 ⟨rfl, hg⟩
                         have hs := HS2.out.grown hg
                         clear y0 y1 y2 y3 z0 z1 z2 z3
                         obtain ⟨y0, y1, y2, y3, _⟩ := bq4 hs.tl.hd
                         obtain ⟨z0, z1, z2, z3, _⟩ := bq4 hs.tl.tl.tl.hd
                         have HS3 := Lib.hid hs
                         have HG3 := Lib.hid (show w.grownBy w4 none from hs.tl.tl.tl.tl.hd)
                         clear hg hs))
                    go_roundw
                    case rel => exact ⟨u + 1, HLU.out, by go_num, HN3.out, HS3.out⟩
                    case measure => simp [intOf]; omega
              | true =>
                cases s2 with
                | false =>
                  cases s3 with
                  | false =>
                    have HT := Lib.hid (ap_wire (p := p) (A := A) (B := B) HLT.out HLU.out HEQ.out HSHV.out)
                    go_wp2_with (first
                      | (go_at_call 72
                         with_reducible refine (HE1.out _ HG.out).mono ?_
                         rintro e w2 ⟨rfl, hg⟩
                         have hs := HSR.out.grown hg
                         clear y0 y1 y2 y3 z0 z1 z2 z3
                         obtain ⟨y0, y1, y2, y3, _⟩ := bq4 hs.tl.hd
                         obtain ⟨z0, z1, z2, z3, _⟩ := bq4 hs.tl.tl.tl.hd
                         have HS1 := Lib.hid hs
                         have HG1 := Lib.hid (show w.grownBy w2 none from hs.tl.tl.tl.tl.hd)
                         clear hg hs)
                      | (go_at_call 72
                         with_reducible refine (HE2.out _ HG1.out).mono ?_
                         rintro e w3 ⟨rfl, hg⟩
                         have hs := HS1.out.grown hg
                         clear y0 y1 y2 y3 z0 z1 z2 z3
                         obtain ⟨y0, y1, y2, y3, _⟩ := bq4 hs.tl.hd
                         obtain ⟨z0, z1, z2, z3, _⟩ := bq4 hs.tl.tl.tl.hd
                         have HS2 := Lib.hid hs
                         have HG2 := Lib.hid (show w.grownBy w3 none from hs.tl.tl.tl.tl.hd)
                         clear hg hs)
                      | (go_at_call 72
                         with_reducible refine (HE3.out _ HG2.out).mono ?_
                         rintro e w4 ⟨rfl, hg⟩
                         have hs := HS2.out.grown hg
                         clear y0 y1 y2 y3 z0 z1 z2 z3
                         obtain ⟨y0, y1, y2, y3, _⟩ := bq4 hs.tl.hd
                         obtain ⟨z0, z1, z2, z3, _⟩ := bq4 hs.tl.tl.tl.hd
                         have HS3 := Lib.hid hs
                         have HG3 := Lib.hid (show w.grownBy w4 none from hs.tl.tl.tl.tl.hd)
                         clear hg hs))
                    go_ret
                    exact ⟨by rw [HT.out]; try rfl, HG3.out⟩
                  | true =>
                    cases s4 with
                    | false =>
                      have HT := Lib.hid (ap_wire (p := p) (A := A) (B := B) HLT.out HLU.out HEQ.out HSHV.out)
                      go_wp2_with (first
                        | (go_at_call 72
                           with_reducible refine (HE1.out _ HG.out).mono ?_
                           rintro e w2 ⟨rfl, hg⟩
                           have hs := HSR.out.grown hg
                           clear y0 y1 y2 y3 z0 z1 z2 z3
                           obtain ⟨y0, y1, y2, y3, _⟩ := bq4 hs.tl.hd
                           obtain ⟨z0, z1, z2, z3, _⟩ := bq4 hs.tl.tl.tl.hd
                           have HS1 := Lib.hid hs
                           have HG1 := Lib.hid (show w.grownBy w2 none from hs.tl.tl.tl.tl.hd)
                           clear hg hs)
                        | (go_at_call 72
                           with_reducible refine (HE2.out _ HG1.out).mono ?_
                           rintro e w3 ⟨rfl, hg⟩
                           have hs := HS1.out.grown hg
                           clear y0 y1 y2 y3 z0 z1 z2 z3
                           obtain ⟨y0, y1, y2, y3, _⟩ := bq4 hs.tl.hd
                           obtain ⟨z0, z1, z2, z3, _⟩ := bq4 hs.tl.tl.tl.hd
                           have HS2 := Lib.hid hs
                           have HG2 := Lib.hid (show w.grownBy w3 none from hs.tl.tl.tl.tl.hd)
                           clear hg hs)
                        | (go_at_call 72
                           with_reducible refine (HE3.out _ HG2.out).mono ?_
                           rintro e w4 ⟨rfl, hg⟩
                           have hs := HS2.out.grown hg
                           clear y0 y1 y2 y3 z0 z1 z2 z3
                           obtain ⟨y0, y1, y2, y3, _⟩ := bq4 hs.tl.hd
                           obtain ⟨z0, z1, z2, z3, _⟩ := bq4 hs.tl.tl.tl.hd
                           have HS3 := Lib.hid hs
                           have HG3 := Lib.hid (show w.grownBy w4 none from hs.tl.tl.tl.tl.hd)
                           clear hg hs)
                        | (go_at_call 72
                           with_reducible refine (HE4.out _ HG3.out).mono ?_
                           rintro e w5 ⟨rfl, hg⟩
                           have hs := HS3.out.grown hg
                           clear y0 y1 y2 y3 z0 z1 z2 z3
                           obtain ⟨y0, y1, y2, y3, _⟩ := bq4 hs.tl.hd
                           obtain ⟨z0, z1, z2, z3, _⟩ := bq4 hs.tl.tl.tl.hd
                           have HS4 := Lib.hid hs
                           have HG4 := Lib.hid (show w.grownBy w5 none from hs.tl.tl.tl.tl.hd)
                           clear hg hs))
                      go_ret
                      exact ⟨by rw [HT.out]; try rfl, HG4.out⟩
                    | true =>
                      have HN3 := Lib.hid (show ∀ u1 : Nat, u1 < u + 1 → A.W.getD k 0 = B.W.getD u1 0 → shB p k u1 = true from fun u1 hu1 he => by
                        by_cases e : u1 = u
                        · rw [e]; exact HSHV.out
                        · exact HALU.out u1 (by omega) he)
                      go_wp2_with (first
                        | (go_at_call 72
                           with_reducible refine (HE1.out _ HG.out).mono ?_
                           rintro e w2 ⟨rfl, hg⟩
                           have hs := HSR.out.grown hg
                           clear y0 y1 y2 y3 z0 z1 z2 z3
                           obtain ⟨y0, y1, y2, y3, _⟩ := bq4 hs.tl.hd
                           obtain ⟨z0, z1, z2, z3, _⟩ := bq4 hs.tl.tl.tl.hd
                           have HS1 := Lib.hid hs
                           have HG1 := Lib.hid (show w.grownBy w2 none from hs.tl.tl.tl.tl.hd)
                           clear hg hs)
                        | (go_at_call 72
                           with_reducible refine (HE2.out _ HG1.out).mono ?_
                           rintro e w3 ⟨rfl, hg⟩
                           have hs := HS1.out.grown hg
                           clear y0 y1 y2 y3 z0 z1 z2 z3
                           obtain ⟨y0, y1, y2, y3, _⟩ := bq4 hs.tl.hd
                           obtain ⟨z0, z1, z2, z3, _⟩ := bq4 hs.tl.tl.tl.hd
                           have HS2 := Lib.hid hs
                           have HG2 := Lib.hid (show w.grownBy w3 none from hs.tl.tl.tl.tl.hd)
                           clear hg hs)
                        | (go_at_call 72
                           with_reducible refine (HE3.out _ HG2.out).mono ?_
                           rintro e w4 ⟨rfl, hg⟩
                           have hs := HS2.out.grown hg
                           clear y0 y1 y2 y3 z0 z1 z2 z3
                           obtain ⟨y0, y1, y2, y3, _⟩ := bq4 hs.tl.hd
                           obtain ⟨z0, z1, z2, z3, _⟩ := bq4 hs.tl.tl.tl.hd
                           have HS3 := Lib.hid hs
                           have HG3 := Lib.hid (show w.grownBy w4 none from hs.tl.tl.tl.tl.hd)
                           clear hg hs)
                        | (go_at_call 72
                           with_reducible refine (HE4.out _ HG3.out).mono ?_
                           rintro e w5 ⟨rfl, hg⟩
                           have hs := HS3.out.grown hg
                           clear y0 y1 y2 y3 z0 z1 z2 z3
                           obtain ⟨y0, y1, y2, y3, _⟩ := bq4 hs.tl.hd
                           obtain ⟨z0, z1, z2, z3, _⟩ := bq4 hs.tl.tl.tl.hd
                           have HS4 := Lib.hid hs
                           have HG4 := Lib.hid (show w.grownBy w5 none from hs.tl.tl.tl.tl.hd)
                           clear hg hs))
                      go_roundw
                      case rel => exact ⟨u + 1, HLU.out, by go_num, HN3.out, HS4.out⟩
                      case measure => simp [intOf]; omega
                | true =>
                  have HN3 := Lib.hid (show ∀ u1 : Nat, u1 < u + 1 → A.W.getD k 0 = B.W.getD u1 0 → shB p k u1 = true from fun u1 hu1 he => by
                    by_cases e : u1 = u
                    · rw [e]; exact HSHV.out
                    · exact HALU.out u1 (by omega) he)
                  go_wp2_with (first
                    | (go_at_call 72
                       with_reducible refine (HE1.out _ HG.out).mono ?_
                       rintro e w2 ⟨rfl, hg⟩
                       have hs := HSR.out.grown hg
                       clear y0 y1 y2 y3 z0 z1 z2 z3
                       obtain ⟨y0, y1, y2, y3, _⟩ := bq4 hs.tl.hd
                       obtain ⟨z0, z1, z2, z3, _⟩ := bq4 hs.tl.tl.tl.hd
                       have HS1 := Lib.hid hs
                       have HG1 := Lib.hid (show w.grownBy w2 none from hs.tl.tl.tl.tl.hd)
                       clear hg hs)
                    | (go_at_call 72
                       with_reducible refine (HE2.out _ HG1.out).mono ?_
                       rintro e w3 ⟨rfl, hg⟩
                       have hs := HS1.out.grown hg
                       clear y0 y1 y2 y3 z0 z1 z2 z3
                       obtain ⟨y0, y1, y2, y3, _⟩ := bq4 hs.tl.hd
                       obtain ⟨z0, z1, z2, z3, _⟩ := bq4 hs.tl.tl.tl.hd
                       have HS2 := Lib.hid hs
                       have HG2 := Lib.hid (show w.grownBy w3 none from hs.tl.tl.tl.tl.hd)
                       clear hg hs))
                  go_roundw
                  case rel => exact ⟨u + 1, HLU.out, by go_num, HN3.out, HS2.out⟩
                  case measure => simp [intOf]; omega
            · have hne : (x != y) = true := by simpa using hxy
              have HN3 := Lib.hid (show ∀ u1 : Nat, u1 < u + 1 → A.W.getD k 0 = B.W.getD u1 0 → shB p k u1 = true from fun u1 hu1 he => by
                by_cases e : u1 = u
                · subst e
                  rw [← HXX.out, ← HYY.out] at he
                  exact absurd he hxy
                · exact HALU.out u1 (by omega) he)
              clear hxy
              go_wp2_with fail
              go_roundw
              case rel => exact ⟨u + 1, HLU.out, by go_num, HN3.out, HSR.out⟩
              case measure => simp [intOf]; omega
          · have HN2 := Lib.hid (show ∀ v : Nat, v < k + 1 → ∀ u : Nat, u < B.W.length → A.W.getD v 0 = B.W.getD u 0 → shB p v u = true from fun v hv u1 hu1 he => by
              by_cases e : v = k
              · subst e; exact HALU.out u1 (by omega) he
              · exact HALL.out v (by omega) u1 hu1 he)
            have hui : ¬ (u : Int) < (B.W.length : Int) := by omega
            go_wp2_with fail
            go_roundw
            case rel => exact ⟨k + 1, HLT.out, by go_num, HN2.out, HSR.out⟩
            case measure => simp [intOf]; omega
      · have HT := Lib.hid (ap_all (p := p) HE.out fun v hv => HALL.out v (by omega))
        have hki : ¬ (k : Int) < (A.W.length : Int) := by omega
        go_wp2_with fail
        go_ret
        exact ⟨by rw [HT.out]; try rfl, HG.out⟩
end Go.Proofs.Ytlpgjnjhhgjkmaa

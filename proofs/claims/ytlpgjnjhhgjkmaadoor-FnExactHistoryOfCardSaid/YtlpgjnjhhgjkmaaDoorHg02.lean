/-
  Sessions in the laws: how much one takes of a budget, own copies, equal sessions. Conditions: lengths are small.
-/
import Derived.Test.YtlpgjnjhhgjkmaaDoorHg00
import Derived.Test.YtlpgjnjhhgjkmaaDoorHg01
namespace Go.Proofs.YtlpgjnjhhgjkmaaDoor
open Go.RowKit
set_option linter.unusedVariables false
set_option maxRecDepth 100000

theorem bq13 {w : World} {k : Nat} {x0 x1 x2 x3 x4 x5 x6 x7 x8 x9 x10 x11 x12 : Value} {t : TypeId} (h : w.heap[k]? = some (.cells #[x0, x1, x2, x3, x4, x5, x6, x7, x8, x9, x10, x11, x12] t (0, 0))) :
    w.cell? ⟨k, 0, none⟩ = some x0 ∧ w.cell? ⟨k, 1, none⟩ = some x1 ∧ w.cell? ⟨k, 2, none⟩ = some x2 ∧ w.cell? ⟨k, 3, none⟩ = some x3 ∧ w.cell? ⟨k, 4, none⟩ = some x4 ∧ w.cell? ⟨k, 5, none⟩ = some x5 ∧ w.cell? ⟨k, 6, none⟩ = some x6 ∧ w.cell? ⟨k, 7, none⟩ = some x7 ∧ w.cell? ⟨k, 8, none⟩ = some x8 ∧ w.cell? ⟨k, 9, none⟩ = some x9 ∧ w.cell? ⟨k, 10, none⟩ = some x10 ∧ w.cell? ⟨k, 11, none⟩ = some x11 ∧ w.cell? ⟨k, 12, none⟩ = some x12 :=
  ⟨cell_of_row w k 0 _ _ _ h, cell_of_row w k 1 _ _ _ h, cell_of_row w k 2 _ _ _ h, cell_of_row w k 3 _ _ _ h, cell_of_row w k 4 _ _ _ h, cell_of_row w k 5 _ _ _ h, cell_of_row w k 6 _ _ _ h, cell_of_row w k 7 _ _ _ h, cell_of_row w k 8 _ _ _ h, cell_of_row w k 9 _ _ _ h, cell_of_row w k 10 _ _ _ h, cell_of_row w k 11 _ _ _ h, cell_of_row w k 12 _ _ _ h⟩
theorem bf13 {w : World} {k : Nat} {x0 x1 x2 x3 x4 x5 x6 x7 x8 x9 x10 x11 x12 : Value} {t : TypeId} (h : w.heap[k]? = some (.cells #[x0, x1, x2, x3, x4, x5, x6, x7, x8, x9, x10, x11, x12] t (0, 0))) :
    w.frozen? ⟨k, 0, none⟩ = false ∧ w.frozen? ⟨k, 1, none⟩ = false ∧ w.frozen? ⟨k, 2, none⟩ = false ∧ w.frozen? ⟨k, 3, none⟩ = false ∧ w.frozen? ⟨k, 4, none⟩ = false ∧ w.frozen? ⟨k, 5, none⟩ = false ∧ w.frozen? ⟨k, 6, none⟩ = false ∧ w.frozen? ⟨k, 7, none⟩ = false ∧ w.frozen? ⟨k, 8, none⟩ = false ∧ w.frozen? ⟨k, 9, none⟩ = false ∧ w.frozen? ⟨k, 10, none⟩ = false ∧ w.frozen? ⟨k, 11, none⟩ = false ∧ w.frozen? ⟨k, 12, none⟩ = false :=
  ⟨frozen_of_row w k 0 _ _ h, frozen_of_row w k 1 _ _ h, frozen_of_row w k 2 _ _ h, frozen_of_row w k 3 _ _ h, frozen_of_row w k 4 _ _ h, frozen_of_row w k 5 _ _ h, frozen_of_row w k 6 _ _ h, frozen_of_row w k 7 _ _ h, frozen_of_row w k 8 _ _ h, frozen_of_row w k 9 _ _ h, frozen_of_row w k 10 _ _ h, frozen_of_row w k 11 _ _ h, frozen_of_row w k 12 _ _ h⟩
def totS (s : Se) : Nat := s.past.length + totGs s.past + totG s.now + (s.fut.length + totGs s.fut) + totG s.goal
/-- A session whose lengths are small. -/
structure SmS (s : Se) : Prop where
  pl : s.past.length ≤ 1048576
  past : ∀ g ∈ s.past, Sm g
  now : Sm s.now
  fl : s.fut.length ≤ 1048576
  fut : ∀ g ∈ s.fut, Sm g
  goal : Sm s.goal
theorem SmS.of {s : Se} (h : totS s ≤ 1048576) : SmS s := by
  unfold totS at h
  refine ⟨by omega, fun g hg => Sm.of ?_, Sm.of (by omega), by omega, fun g hg => Sm.of ?_, Sm.of (by omega)⟩
  · have := totGs_mem hg
    omega
  · have := totGs_mem hg
    omega

set_option maxHeartbeats 2000000 in
theorem szSession_any (s : Se) (pv e1 i1 o1 fv e2 i2 o2 : Value) (left : Int) (w : World) (hr : RdSe argGrE argEdE w s pv e1 i1 o1 fv e2 i2 o2) (hok : okS s) (h0 : 0 ≤ left) (h1 : left ≤ 1048576) :
    Calls Tryd.prog 5 #[seV s.p s.k s.l pv s.now.n e1 i1 o1 fv s.goal.n e2 i2 o2, .int .i64 left] w fun x w' => x = .returned (.int .i64 (lft left (totS s))) ∧ w.grownBy w' none := by
  obtain ⟨pa, pc, rfl⟩ := hr.past.shape
  obtain ⟨a1, c1, rfl⟩ := hr.es1.shape
  obtain ⟨a2, c2, rfl⟩ := hr.is1.shape
  obtain ⟨a3, c3, rfl⟩ := hr.os1.shape
  obtain ⟨fa, fc, rfl⟩ := hr.fut.shape
  obtain ⟨b1, d1, rfl⟩ := hr.es2.shape
  obtain ⟨b2, d2, rfl⟩ := hr.is2.shape
  obtain ⟨b3, d3, rfl⟩ := hr.os2.shape
  obtain ⟨⟨ok1, ok1'⟩, ok2, ⟨ok3, ok3'⟩, ok4⟩ := hok
  have HA := Lib.hid fun W (h : w.grownBy W none) (x : Int) (hx : 0 ≤ x ∧ x ≤ 1048576) => szGraphS_any pa s.past.length pc s.past x W (hr.past.carry h) rfl hx.1 hx.2 ok1 ok1'
  have HB := Lib.hid fun W (h : w.grownBy W none) (x : Int) (hx : 0 ≤ x ∧ x ≤ 1048576) => szGraph_any s.now.n _ _ _ s.now x W (hr.es1.carry h) (hr.is1.carry h) (hr.os1.carry h) hx.1 hx.2 ok2
  have HC := Lib.hid fun W (h : w.grownBy W none) (x : Int) (hx : 0 ≤ x ∧ x ≤ 1048576) => szGraphS_any fa s.fut.length fc s.fut x W (hr.fut.carry h) rfl hx.1 hx.2 ok3 ok3'
  have HD := Lib.hid fun W (h : w.grownBy W none) (x : Int) (hx : 0 ≤ x ∧ x ≤ 1048576) => szGraph_any s.goal.n _ _ _ s.goal x W (hr.es2.carry h) (hr.is2.carry h) (hr.os2.carry h) hx.1 hx.2 ok4
  unfold totS
  unfold grV at HB HD
  clear hr ok1 ok1' ok2 ok3 ok3' ok4
  unfold seV
  generalize s.past.length + totGs s.past = t1 at *
  generalize s.past.length = pn at *
  generalize totG s.now = t2 at *
  generalize s.now.es.length = n1 at *
  generalize s.now.i.length = n2 at *
  generalize s.now.o.length = n3 at *
  generalize s.fut.length + totGs s.fut = t3 at *
  generalize s.fut.length = fn at *
  generalize totG s.goal = t4 at *
  generalize s.goal.es.length = m1 at *
  generalize s.goal.i.length = m2 at *
  generalize s.goal.o.length = m3 at *
  have HS0 := Lib.hid ((Sep.start w).box #[.int .i64 s.p, .int .i64 s.k, .int .i64 s.l, .slice pa pn pc, .int .i64 s.now.n, .slice a1 n1 c1, .slice a2 n2 c2, .slice a3 n3 c3, .slice fa fn fc, .int .i64 s.goal.n, .slice b1 m1 d1, .slice b2 m2 d2, .slice b3 m3 d3] 28)
  have HK0 := Lib.hid (show w.grownBy _ none from HS0.out.tl.hd)
  have step : ∀ (x : Int) (t : Nat), 0 ≤ x → x ≤ 1048576 → (lft x t = -1 ∧ x < t) ∨ ∃ y : Int, lft x t = y ∧ y = x - t ∧ 0 ≤ y ∧ y ≤ 1048576 ∧ ¬ y < 0 := by
    intro x t h0 h1
    by_cases h : x - (t : Int) < 0
    · exact Or.inl ⟨by unfold lft; rw [if_pos h], by omega⟩
    · exact Or.inr ⟨x - t, by unfold lft; rw [if_neg h], rfl, by omega, by omega, by omega⟩
  have HST := Lib.hid step
  clear step
  obtain ⟨f1, f1'⟩ | ⟨y1, f1, f1', f10, f11, f1n⟩ := HST.out left t1 (by omega) (by omega)
  · have E1 := Lib.hid fun W (h : w.grownBy W none) => HA.out W h left (by omega)
    rw [f1] at E1
    rw [show lft left (t1 + t2 + t3 + t4) = -1 by unfold lft; rw [if_pos (by omega)]]
    clear HST HA HB HC HD f1  f1'
    clear h0 h1
    go_enter Tryd.func5, Tryd.ntmps5
    go_wp2_with (
       go_at_call 16
       with_reducible refine (E1.out _ HK0.out).mono ?_
       rintro e w2 ⟨rfl, hg⟩
       have hs := HS0.out.grown hg
       obtain ⟨x0, x1, x2, x3, x4, x5, x6, x7, x8, x9, xa, xb, xc⟩ := bq13 hs.hd
       have HS1 := Lib.hid hs
       have HK1 := Lib.hid (show w.grownBy _ none from hs.tl.hd)
       clear hg hs)
    go_ret
    exact ⟨rfl, HK1.out⟩
  · have E1 := Lib.hid fun W (h : w.grownBy W none) => HA.out W h left (by omega)
    rw [f1] at E1
    clear f1
    obtain ⟨f2, f2'⟩ | ⟨y2, f2, f2', f20, f21, f2n⟩ := HST.out y1 t2 (by omega) (by omega)
    · have E2 := Lib.hid fun W (h : w.grownBy W none) => HB.out W h y1 (by omega)
      rw [f2] at E2
      rw [show lft left (t1 + t2 + t3 + t4) = -1 by unfold lft; rw [if_pos (by omega)]]
      clear HST HA HB HC HD f2 f1' f10 f11 f2'
      clear h0 h1
      go_enter Tryd.func5, Tryd.ntmps5
      go_wp2_with (first
      | (go_at_call 16
         with_reducible refine (E1.out _ HK0.out).mono ?_
         rintro e w2 ⟨rfl, hg⟩
         have hs := HS0.out.grown hg
         obtain ⟨x0, x1, x2, x3, x4, x5, x6, x7, x8, x9, xa, xb, xc⟩ := bq13 hs.hd
         have HS1 := Lib.hid hs
         have HK1 := Lib.hid (show w.grownBy _ none from hs.tl.hd)
         clear hg hs)
      | (go_at_call 17
         with_reducible refine (E2.out _ HK1.out).mono ?_
         rintro e w3 ⟨rfl, hg⟩
         have hs := HS1.out.grown hg
         obtain ⟨x0, x1, x2, x3, x4, x5, x6, x7, x8, x9, xa, xb, xc⟩ := bq13 hs.hd
         have HS2 := Lib.hid hs
         have HK2 := Lib.hid (show w.grownBy _ none from hs.tl.hd)
         clear hg hs))
      go_ret
      exact ⟨rfl, HK2.out⟩
    · have E2 := Lib.hid fun W (h : w.grownBy W none) => HB.out W h y1 (by omega)
      rw [f2] at E2
      clear f2
      obtain ⟨f3, f3'⟩ | ⟨y3, f3, f3', f30, f31, f3n⟩ := HST.out y2 t3 (by omega) (by omega)
      · have E3 := Lib.hid fun W (h : w.grownBy W none) => HC.out W h y2 (by omega)
        rw [f3] at E3
        rw [show lft left (t1 + t2 + t3 + t4) = -1 by unfold lft; rw [if_pos (by omega)]]
        clear HST HA HB HC HD f3 f1' f10 f11 f2' f20 f21 f3'
        clear h0 h1
        go_enter Tryd.func5, Tryd.ntmps5
        go_wp2_with (first
        | (go_at_call 16
           with_reducible refine (E1.out _ HK0.out).mono ?_
           rintro e w2 ⟨rfl, hg⟩
           have hs := HS0.out.grown hg
           obtain ⟨x0, x1, x2, x3, x4, x5, x6, x7, x8, x9, xa, xb, xc⟩ := bq13 hs.hd
           have HS1 := Lib.hid hs
           have HK1 := Lib.hid (show w.grownBy _ none from hs.tl.hd)
           clear hg hs)
        | (go_at_call 17
           with_reducible refine (E2.out _ HK1.out).mono ?_
           rintro e w3 ⟨rfl, hg⟩
           have hs := HS1.out.grown hg
           obtain ⟨x0, x1, x2, x3, x4, x5, x6, x7, x8, x9, xa, xb, xc⟩ := bq13 hs.hd
           have HS2 := Lib.hid hs
           have HK2 := Lib.hid (show w.grownBy _ none from hs.tl.hd)
           clear hg hs)
        | (go_at_call 16
           with_reducible refine (E3.out _ HK2.out).mono ?_
           rintro e w4 ⟨rfl, hg⟩
           have hs := HS2.out.grown hg
           obtain ⟨x0, x1, x2, x3, x4, x5, x6, x7, x8, x9, xa, xb, xc⟩ := bq13 hs.hd
           have HS3 := Lib.hid hs
           have HK3 := Lib.hid (show w.grownBy _ none from hs.tl.hd)
           clear hg hs))
        go_ret
        exact ⟨rfl, HK3.out⟩
      · have E3 := Lib.hid fun W (h : w.grownBy W none) => HC.out W h y2 (by omega)
        rw [f3] at E3
        clear f3
        obtain ⟨f4, f4'⟩ | ⟨y4, f4, f4', f40, f41, f4n⟩ := HST.out y3 t4 (by omega) (by omega)
        · have E4 := Lib.hid fun W (h : w.grownBy W none) => HD.out W h y3 (by omega)
          rw [f4] at E4
          rw [show lft left (t1 + t2 + t3 + t4) = -1 by unfold lft; rw [if_pos (by omega)]]
          clear HST HA HB HC HD f4 f1' f10 f11 f2' f20 f21 f3' f30 f31 f4'
          clear h0 h1
          go_enter Tryd.func5, Tryd.ntmps5
          go_wp2_with (first
          | (go_at_call 16
             with_reducible refine (E1.out _ HK0.out).mono ?_
             rintro e w2 ⟨rfl, hg⟩
             have hs := HS0.out.grown hg
             obtain ⟨x0, x1, x2, x3, x4, x5, x6, x7, x8, x9, xa, xb, xc⟩ := bq13 hs.hd
             have HS1 := Lib.hid hs
             have HK1 := Lib.hid (show w.grownBy _ none from hs.tl.hd)
             clear hg hs)
          | (go_at_call 17
             with_reducible refine (E2.out _ HK1.out).mono ?_
             rintro e w3 ⟨rfl, hg⟩
             have hs := HS1.out.grown hg
             obtain ⟨x0, x1, x2, x3, x4, x5, x6, x7, x8, x9, xa, xb, xc⟩ := bq13 hs.hd
             have HS2 := Lib.hid hs
             have HK2 := Lib.hid (show w.grownBy _ none from hs.tl.hd)
             clear hg hs)
          | (go_at_call 16
             with_reducible refine (E3.out _ HK2.out).mono ?_
             rintro e w4 ⟨rfl, hg⟩
             have hs := HS2.out.grown hg
             obtain ⟨x0, x1, x2, x3, x4, x5, x6, x7, x8, x9, xa, xb, xc⟩ := bq13 hs.hd
             have HS3 := Lib.hid hs
             have HK3 := Lib.hid (show w.grownBy _ none from hs.tl.hd)
             clear hg hs)
          | (go_at_call 17
             with_reducible refine (E4.out _ HK3.out).mono ?_
             rintro e w5 ⟨rfl, hg⟩
             have hs := HS3.out.grown hg
             obtain ⟨x0, x1, x2, x3, x4, x5, x6, x7, x8, x9, xa, xb, xc⟩ := bq13 hs.hd
             have HS4 := Lib.hid hs
             have HK4 := Lib.hid (show w.grownBy _ none from hs.tl.hd)
             clear hg hs))
          go_ret
          exact ⟨rfl, HK4.out⟩
        · have E4 := Lib.hid fun W (h : w.grownBy W none) => HD.out W h y3 (by omega)
          rw [f4] at E4
          clear f4
          rw [show lft left (t1 + t2 + t3 + t4) = y4 by unfold lft; rw [if_neg (by omega)]; omega]
          clear HST HA HB HC HD h0 h1 f1' f10 f11 f2' f20 f21 f3' f30 f31 f4' f40 f41
          go_enter Tryd.func5, Tryd.ntmps5
          go_wp2_with (first
            | (go_at_call 16
               with_reducible refine (E1.out _ HK0.out).mono ?_
               rintro e w2 ⟨rfl, hg⟩
               have hs := HS0.out.grown hg
               obtain ⟨x0, x1, x2, x3, x4, x5, x6, x7, x8, x9, xa, xb, xc⟩ := bq13 hs.hd
               have HS1 := Lib.hid hs
               have HK1 := Lib.hid (show w.grownBy _ none from hs.tl.hd)
               clear hg hs)
            | (go_at_call 17
               with_reducible refine (E2.out _ HK1.out).mono ?_
               rintro e w3 ⟨rfl, hg⟩
               have hs := HS1.out.grown hg
               obtain ⟨x0, x1, x2, x3, x4, x5, x6, x7, x8, x9, xa, xb, xc⟩ := bq13 hs.hd
               have HS2 := Lib.hid hs
               have HK2 := Lib.hid (show w.grownBy _ none from hs.tl.hd)
               clear hg hs)
            | (go_at_call 16
               with_reducible refine (E3.out _ HK2.out).mono ?_
               rintro e w4 ⟨rfl, hg⟩
               have hs := HS2.out.grown hg
               obtain ⟨x0, x1, x2, x3, x4, x5, x6, x7, x8, x9, xa, xb, xc⟩ := bq13 hs.hd
               have HS3 := Lib.hid hs
               have HK3 := Lib.hid (show w.grownBy _ none from hs.tl.hd)
               clear hg hs)
            | (go_at_call 17
               with_reducible refine (E4.out _ HK3.out).mono ?_
               rintro e w5 ⟨rfl, hg⟩
               have hs := HS3.out.grown hg
               obtain ⟨x0, x1, x2, x3, x4, x5, x6, x7, x8, x9, xa, xb, xc⟩ := bq13 hs.hd
               have HS4 := Lib.hid hs
               have HK4 := Lib.hid (show w.grownBy _ none from hs.tl.hd)
               clear hg hs))
          go_ret
          exact ⟨rfl, HK4.out⟩
end Go.Proofs.YtlpgjnjhhgjkmaaDoor

/-
  Sessions in the laws: own copies, equal sessions. Conditions: lengths are small.
-/
namespace Go.Proofs.YtlpgjnjhhgjkmaaDoor
open Go.RowKit
set_option linter.unusedVariables false
set_option maxRecDepth 100000

/-- A session with the slices that hold it. -/
structure SeX where
  p : Int
  k : Int
  l : Int
  pv : Value
  past : List XG
  now : XG
  fv : Value
  fut : List XG
  goal : XG
def SeX.se (x : SeX) : Se := ⟨x.p, x.k, x.l, grs x.past, x.now.gr, grs x.fut, x.goal.gr⟩
def sxV (x : SeX) : Value := seV x.p x.k x.l x.pv x.now.n x.now.ev x.now.iv x.now.ov x.fv x.goal.n x.goal.ev x.goal.iv x.goal.ov
/-- The parts of a graph that is the call's own. -/
def partsG (y : XG) : List Asrt := [OE y.ev y.xs, OI y.iv y.is, OI y.ov y.os]
def partsS (x : SeX) : List Asrt := partsG x.goal ++ (OG x.fv x.fut :: (partsG x.now ++ [OG x.pv x.past]))
def OSe (x : SeX) : Asrt := Bag (partsS x)
theorem OSe.read {w : World} {x : SeX} (h : (OSe x).holds w) : RdSe graphE edgeE w x.se x.pv x.now.ev x.now.iv x.now.ov x.fv x.goal.ev x.goal.iv x.goal.ov := by
  have ha := Sep.all (show Sep w (partsS x) from h)
  unfold partsS partsG at ha
  exact ⟨OG.read (ha (OG x.pv x.past) (by simp)), OE.read (ha (OE x.now.ev x.now.xs) (by simp)), OwnInts.read (show OwnInts 0 w _ _ from ha (OI x.now.iv x.now.is) (by simp)), OwnInts.read (show OwnInts 0 w _ _ from ha (OI x.now.ov x.now.os) (by simp)),
    OG.read (ha (OG x.fv x.fut) (by simp)), OE.read (ha (OE x.goal.ev x.goal.xs) (by simp)), OwnInts.read (show OwnInts 0 w _ _ from ha (OI x.goal.iv x.goal.is) (by simp)), OwnInts.read (show OwnInts 0 w _ _ from ha (OI x.goal.ov x.goal.os) (by simp))⟩
theorem OSe_own {x : SeX} : ∀ k, (OSe x).sees k → (OSe x).foot k := by
  rintro k ⟨A, hA, hk⟩
  refine ⟨A, hA, ?_⟩
  unfold partsS partsG at hA
  simp only [List.mem_cons, List.mem_append, List.not_mem_nil, or_false] at hA
  rcases hA with (rfl | rfl | rfl) | rfl | (rfl | rfl | rfl) | rfl
  · exact OE_own k hk
  · exact hk
  · exact hk
  · exact OG_own k hk
  · exact OE_own k hk
  · exact hk
  · exact hk
  · exact OG_own k hk
/-- The first part goes behind three others into a bag. -/
theorem Sep.toBag4 {w : World} {A X Y Z : Asrt} {L r : List Asrt} (h : Sep w (A :: X :: Y :: Z :: Bag L :: r)) : Sep w (X :: Y :: Z :: Bag (A :: L) :: r) := by
  have h1 := (Sep.intoBag h.s5.s2)
  exact h1.s4.s4.s4
theorem Sep.toBag43 {w : World} {A C D X Y Z : Asrt} {L r : List Asrt} (h : Sep w (A :: C :: D :: X :: Y :: Z :: Bag L :: r)) : Sep w (X :: Y :: Z :: Bag (A :: C :: D :: L) :: r) := by
  have h1 : Sep w (Bag [A, C, D] :: X :: Y :: Z :: Bag L :: r) := Sep.bag (l := [A, C, D]) h
  have h2 := (Sep.joinBag h1.s5.s2)
  exact h2.s4.s4.s4

theorem Sep.k13_0 {w : World} {b : Nat} {x0 x1 x2 x3 x4 x5 x6 x7 x8 x9 x10 x11 x12 u : Value} {t : TypeId} {l : List Asrt} (h : Sep w (BxA b #[x0, x1, x2, x3, x4, x5, x6, x7, x8, x9, x10, x11, x12] t :: l)) : Sep (w.setCell ⟨b, 0, none⟩ u) (BxA b #[u, x1, x2, x3, x4, x5, x6, x7, x8, x9, x10, x11, x12] t :: l) := h.setB 0 u
theorem Sep.k13_1 {w : World} {b : Nat} {x0 x1 x2 x3 x4 x5 x6 x7 x8 x9 x10 x11 x12 u : Value} {t : TypeId} {l : List Asrt} (h : Sep w (BxA b #[x0, x1, x2, x3, x4, x5, x6, x7, x8, x9, x10, x11, x12] t :: l)) : Sep (w.setCell ⟨b, 1, none⟩ u) (BxA b #[x0, u, x2, x3, x4, x5, x6, x7, x8, x9, x10, x11, x12] t :: l) := h.setB 1 u
theorem Sep.k13_2 {w : World} {b : Nat} {x0 x1 x2 x3 x4 x5 x6 x7 x8 x9 x10 x11 x12 u : Value} {t : TypeId} {l : List Asrt} (h : Sep w (BxA b #[x0, x1, x2, x3, x4, x5, x6, x7, x8, x9, x10, x11, x12] t :: l)) : Sep (w.setCell ⟨b, 2, none⟩ u) (BxA b #[x0, x1, u, x3, x4, x5, x6, x7, x8, x9, x10, x11, x12] t :: l) := h.setB 2 u
theorem Sep.k13_3 {w : World} {b : Nat} {x0 x1 x2 x3 x4 x5 x6 x7 x8 x9 x10 x11 x12 u : Value} {t : TypeId} {l : List Asrt} (h : Sep w (BxA b #[x0, x1, x2, x3, x4, x5, x6, x7, x8, x9, x10, x11, x12] t :: l)) : Sep (w.setCell ⟨b, 3, none⟩ u) (BxA b #[x0, x1, x2, u, x4, x5, x6, x7, x8, x9, x10, x11, x12] t :: l) := h.setB 3 u
theorem Sep.k13_4 {w : World} {b : Nat} {x0 x1 x2 x3 x4 x5 x6 x7 x8 x9 x10 x11 x12 u : Value} {t : TypeId} {l : List Asrt} (h : Sep w (BxA b #[x0, x1, x2, x3, x4, x5, x6, x7, x8, x9, x10, x11, x12] t :: l)) : Sep (w.setCell ⟨b, 4, none⟩ u) (BxA b #[x0, x1, x2, x3, u, x5, x6, x7, x8, x9, x10, x11, x12] t :: l) := h.setB 4 u
theorem Sep.k13_5 {w : World} {b : Nat} {x0 x1 x2 x3 x4 x5 x6 x7 x8 x9 x10 x11 x12 u : Value} {t : TypeId} {l : List Asrt} (h : Sep w (BxA b #[x0, x1, x2, x3, x4, x5, x6, x7, x8, x9, x10, x11, x12] t :: l)) : Sep (w.setCell ⟨b, 5, none⟩ u) (BxA b #[x0, x1, x2, x3, x4, u, x6, x7, x8, x9, x10, x11, x12] t :: l) := h.setB 5 u
theorem Sep.k13_6 {w : World} {b : Nat} {x0 x1 x2 x3 x4 x5 x6 x7 x8 x9 x10 x11 x12 u : Value} {t : TypeId} {l : List Asrt} (h : Sep w (BxA b #[x0, x1, x2, x3, x4, x5, x6, x7, x8, x9, x10, x11, x12] t :: l)) : Sep (w.setCell ⟨b, 6, none⟩ u) (BxA b #[x0, x1, x2, x3, x4, x5, u, x7, x8, x9, x10, x11, x12] t :: l) := h.setB 6 u
theorem Sep.k13_7 {w : World} {b : Nat} {x0 x1 x2 x3 x4 x5 x6 x7 x8 x9 x10 x11 x12 u : Value} {t : TypeId} {l : List Asrt} (h : Sep w (BxA b #[x0, x1, x2, x3, x4, x5, x6, x7, x8, x9, x10, x11, x12] t :: l)) : Sep (w.setCell ⟨b, 7, none⟩ u) (BxA b #[x0, x1, x2, x3, x4, x5, x6, u, x8, x9, x10, x11, x12] t :: l) := h.setB 7 u
theorem Sep.k13_8 {w : World} {b : Nat} {x0 x1 x2 x3 x4 x5 x6 x7 x8 x9 x10 x11 x12 u : Value} {t : TypeId} {l : List Asrt} (h : Sep w (BxA b #[x0, x1, x2, x3, x4, x5, x6, x7, x8, x9, x10, x11, x12] t :: l)) : Sep (w.setCell ⟨b, 8, none⟩ u) (BxA b #[x0, x1, x2, x3, x4, x5, x6, x7, u, x9, x10, x11, x12] t :: l) := h.setB 8 u
theorem Sep.k13_9 {w : World} {b : Nat} {x0 x1 x2 x3 x4 x5 x6 x7 x8 x9 x10 x11 x12 u : Value} {t : TypeId} {l : List Asrt} (h : Sep w (BxA b #[x0, x1, x2, x3, x4, x5, x6, x7, x8, x9, x10, x11, x12] t :: l)) : Sep (w.setCell ⟨b, 9, none⟩ u) (BxA b #[x0, x1, x2, x3, x4, x5, x6, x7, x8, u, x10, x11, x12] t :: l) := h.setB 9 u
theorem Sep.k13_10 {w : World} {b : Nat} {x0 x1 x2 x3 x4 x5 x6 x7 x8 x9 x10 x11 x12 u : Value} {t : TypeId} {l : List Asrt} (h : Sep w (BxA b #[x0, x1, x2, x3, x4, x5, x6, x7, x8, x9, x10, x11, x12] t :: l)) : Sep (w.setCell ⟨b, 10, none⟩ u) (BxA b #[x0, x1, x2, x3, x4, x5, x6, x7, x8, x9, u, x11, x12] t :: l) := h.setB 10 u
theorem Sep.k13_11 {w : World} {b : Nat} {x0 x1 x2 x3 x4 x5 x6 x7 x8 x9 x10 x11 x12 u : Value} {t : TypeId} {l : List Asrt} (h : Sep w (BxA b #[x0, x1, x2, x3, x4, x5, x6, x7, x8, x9, x10, x11, x12] t :: l)) : Sep (w.setCell ⟨b, 11, none⟩ u) (BxA b #[x0, x1, x2, x3, x4, x5, x6, x7, x8, x9, x10, u, x12] t :: l) := h.setB 11 u
theorem Sep.k13_12 {w : World} {b : Nat} {x0 x1 x2 x3 x4 x5 x6 x7 x8 x9 x10 x11 x12 u : Value} {t : TypeId} {l : List Asrt} (h : Sep w (BxA b #[x0, x1, x2, x3, x4, x5, x6, x7, x8, x9, x10, x11, x12] t :: l)) : Sep (w.setCell ⟨b, 12, none⟩ u) (BxA b #[x0, x1, x2, x3, x4, x5, x6, x7, x8, x9, x10, x11, u] t :: l) := h.setB 12 u
set_option maxHeartbeats 2000000 in
theorem toSession_any (s : Se) (pv e1 i1 o1 fv e2 i2 o2 : Value) (w : World) (hr : RdSe argGrE argEdE w s pv e1 i1 o1 fv e2 i2 o2) (hsm : SmS s) :
    Calls Tryd.prog 7 #[seV s.p s.k s.l pv s.now.n e1 i1 o1 fv s.goal.n e2 i2 o2] w fun e w' => ∃ x : SeX, e = .returned (sxV x) ∧ x.se = s ∧ Sep w' [OSe x, KeepA w] := by
  obtain ⟨pa, pc, rfl⟩ := hr.past.shape
  obtain ⟨a1, c1, rfl⟩ := hr.es1.shape
  obtain ⟨a2, c2, rfl⟩ := hr.is1.shape
  obtain ⟨a3, c3, rfl⟩ := hr.os1.shape
  obtain ⟨fa, fc, rfl⟩ := hr.fut.shape
  obtain ⟨b1, d1, rfl⟩ := hr.es2.shape
  obtain ⟨b2, d2, rfl⟩ := hr.is2.shape
  obtain ⟨b3, d3, rfl⟩ := hr.os2.shape
  have tg : ∀ {g : Gr} (_ : Sm g), g.es.length ≤ 2000000 ∧ g.i.length ≤ 2000000 ∧ g.o.length ≤ 2000000 ∧ ∀ e ∈ g.es, e.i.length ≤ 2000000 ∧ e.o.length ≤ 2000000 := fun h => ⟨by have := h.es; omega, by have := h.i; omega, by have := h.o; omega, fun e he => by have := h.ed e he; omega⟩
  obtain ⟨g1, g2, g3, g4⟩ := tg hsm.now
  obtain ⟨k1, k2, k3, k4⟩ := tg hsm.goal
  have HA := Lib.hid fun W (h : w.grownBy W none) => toGraphS_any _ s.past W (hr.past.carry h) hsm.pl hsm.past
  have HB := Lib.hid fun W (h : w.grownBy W none) => toGraph_any _ _ _ s.now W (hr.es1.carry h) (hr.is1.carry h) (hr.os1.carry h) g1 g2 g3 g4
  have HC := Lib.hid fun W (h : w.grownBy W none) => toGraphS_any _ s.fut W (hr.fut.carry h) hsm.fl hsm.fut
  have HD := Lib.hid fun W (h : w.grownBy W none) => toGraph_any _ _ _ s.goal W (hr.es2.carry h) (hr.is2.carry h) (hr.os2.carry h) k1 k2 k3 k4
  unfold grV at HB HD
  clear hr hsm tg g1 g2 g3 g4 k1 k2 k3 k4
  unfold seV
  generalize s.past.length = pn at *
  generalize s.now.es.length = n1 at *
  generalize s.now.i.length = n2 at *
  generalize s.now.o.length = n3 at *
  generalize s.fut.length = fn at *
  generalize s.goal.es.length = m1 at *
  generalize s.goal.i.length = m2 at *
  generalize s.goal.o.length = m3 at *
  have hs0 := ((((Sep.start w).noBag.box #[.int .i64 s.p, .int .i64 s.k, .int .i64 s.l, .slice pa pn pc, .int .i64 s.now.n, .slice a1 n1 c1, .slice a2 n2 c2, .slice a3 n3 c3, .slice fa fn fc, .int .i64 s.goal.n, .slice b1 m1 d1, .slice b2 m2 d2, .slice b3 m3 d3] 28).box #[.int .i64 0, .int .i64 0, .int .i64 0, .slice none 0 0, .int .i64 0, .slice none 0 0, .slice none 0 0, .slice none 0 0, .slice none 0 0, .int .i64 0, .slice none 0 0, .slice none 0 0, .slice none 0 0] 36).box #[.int .i64 s.p, .int .i64 s.k, .int .i64 s.l, .slice none 0 0, .int .i64 0, .slice none 0 0, .slice none 0 0, .slice none 0 0, .slice none 0 0, .int .i64 0, .slice none 0 0, .slice none 0 0, .slice none 0 0] 36)
  have e1 : (w.alloc (.cells #[.int .i64 s.p, .int .i64 s.k, .int .i64 s.l, .slice pa pn pc, .int .i64 s.now.n, .slice a1 n1 c1, .slice a2 n2 c2, .slice a3 n3 c3, .slice fa fn fc, .int .i64 s.goal.n, .slice b1 m1 d1, .slice b2 m2 d2, .slice b3 m3 d3] 28)).heap.size = w.heap.size + 1 := by simp
  have e2 : ((w.alloc (.cells #[.int .i64 s.p, .int .i64 s.k, .int .i64 s.l, .slice pa pn pc, .int .i64 s.now.n, .slice a1 n1 c1, .slice a2 n2 c2, .slice a3 n3 c3, .slice fa fn fc, .int .i64 s.goal.n, .slice b1 m1 d1, .slice b2 m2 d2, .slice b3 m3 d3] 28)).alloc (.cells #[.int .i64 0, .int .i64 0, .int .i64 0, .slice none 0 0, .int .i64 0, .slice none 0 0, .slice none 0 0, .slice none 0 0, .slice none 0 0, .int .i64 0, .slice none 0 0, .slice none 0 0, .slice none 0 0] 36)).heap.size = w.heap.size + 2 := by simp
  rw [e1, e2] at hs0
  have HS0 := Lib.hid hs0
  have HK0 := Lib.hid (show w.grownBy _ none from hs0.tl.tl.tl.tl.hd)
  clear hs0 e1 e2
  go_enter Tryd.func7, Tryd.ntmps7
  go_wp2_with (first
    | (go_at_call 19
       with_reducible refine (HA.out _ HK0.out).mono ?_
       rintro e w3 ⟨g, c, ps, rfl, hps, hsg⟩
       have HPS := Lib.hid hps
       have hs1 := (HS0.out.graft1 hsg OG_own).toBag4
       obtain ⟨x0, x1, x2, x3, x4, x5, x6, x7, x8, x9, xa, xb, xc⟩ := bq13 hs1.hd
       obtain ⟨y0, y1, y2, y3, y4, y5, y6, y7, y8, y9, ya, yb, yc⟩ := bf13 hs1.hd
       have hs2 := hs1.k13_3 (u := .slice (some ⟨g, 0, none⟩) pn c)
       obtain ⟨z0, z1, z2, z3, z4, z5, z6, z7, z8, z9, za, zb, zc⟩ := bq13 hs2.tl.tl.hd
       have HS1 := Lib.hid hs2
       have HK1 := Lib.hid (show w.grownBy _ none from hs2.tl.tl.tl.tl.hd)
       clear hsg hs1 hs2 hps)
    | (go_at_call 20
       with_reducible refine (HB.out _ HK1.out).mono ?_
       rintro e w4 ⟨u0, es1, u1, u2, rfl, hes, hsg⟩
       clear x0 x1 x2 x3 x4 x5 x6 x7 x8 x9 xa xb xc y0 y1 y2 y3 y4 y5 y6 y7 y8 y9 ya yb yc z0 z1 z2 z3 z4 z5 z6 z7 z8 z9 za zb zc
       have HE1 := Lib.hid hes
       obtain ⟨s0, r0, rfl⟩ := OE.shape hsg.hd
       obtain ⟨s1, r1, rfl⟩ := own_shape hsg.tl.hd
       obtain ⟨s2, r2, rfl⟩ := own_shape hsg.tl.tl.hd
       have hs1 := (HS1.out.graft3 hsg OE_own OI_own OI_own).toBag43
       obtain ⟨x0, x1, x2, x3, x4, x5, x6, x7, x8, x9, xa, xb, xc⟩ := bq13 hs1.hd
       obtain ⟨y0, y1, y2, y3, y4, y5, y6, y7, y8, y9, ya, yb, yc⟩ := bf13 hs1.hd
       have hs2 := hs1.k13_4 (u := .int .i64 s.now.n) |>.k13_5 (u := .slice s0 es1.length r0) |>.k13_6 (u := .slice s1 s.now.i.length r1) |>.k13_7 (u := .slice s2 s.now.o.length r2)
       obtain ⟨z0, z1, z2, z3, z4, z5, z6, z7, z8, z9, za, zb, zc⟩ := bq13 hs2.tl.tl.hd
       have HS2 := Lib.hid hs2
       have HK2 := Lib.hid (show w.grownBy _ none from hs2.tl.tl.tl.tl.hd)
       clear hsg hs1 hs2 hes)
    | (go_at_call 19
       with_reducible refine (HC.out _ HK2.out).mono ?_
       rintro e w5 ⟨g5, c5, fs, rfl, hfs, hsg⟩
       clear x0 x1 x2 x3 x4 x5 x6 x7 x8 x9 xa xb xc y0 y1 y2 y3 y4 y5 y6 y7 y8 y9 ya yb yc z0 z1 z2 z3 z4 z5 z6 z7 z8 z9 za zb zc
       have HFS := Lib.hid hfs
       have hs1 := (HS2.out.graft1 hsg OG_own).toBag4
       obtain ⟨x0, x1, x2, x3, x4, x5, x6, x7, x8, x9, xa, xb, xc⟩ := bq13 hs1.hd
       obtain ⟨y0, y1, y2, y3, y4, y5, y6, y7, y8, y9, ya, yb, yc⟩ := bf13 hs1.hd
       have hs2 := hs1.k13_8 (u := .slice (some ⟨g5, 0, none⟩) fn c5)
       obtain ⟨z0, z1, z2, z3, z4, z5, z6, z7, z8, z9, za, zb, zc⟩ := bq13 hs2.tl.tl.hd
       have HS3 := Lib.hid hs2
       have HK3 := Lib.hid (show w.grownBy _ none from hs2.tl.tl.tl.tl.hd)
       clear hsg hs1 hs2 hfs)
    | (go_at_call 20
       with_reducible refine (HD.out _ HK3.out).mono ?_
       rintro e w6 ⟨v0, es2, v1, v2, rfl, hes, hsg⟩
       clear x0 x1 x2 x3 x4 x5 x6 x7 x8 x9 xa xb xc y0 y1 y2 y3 y4 y5 y6 y7 y8 y9 ya yb yc z0 z1 z2 z3 z4 z5 z6 z7 z8 z9 za zb zc
       have HE2 := Lib.hid hes
       obtain ⟨t0, q0, rfl⟩ := OE.shape hsg.hd
       obtain ⟨t1, q1, rfl⟩ := own_shape hsg.tl.hd
       obtain ⟨t2, q2, rfl⟩ := own_shape hsg.tl.tl.hd
       have hs1 := (HS3.out.graft3 hsg OE_own OI_own OI_own).toBag43
       obtain ⟨x0, x1, x2, x3, x4, x5, x6, x7, x8, x9, xa, xb, xc⟩ := bq13 hs1.hd
       obtain ⟨y0, y1, y2, y3, y4, y5, y6, y7, y8, y9, ya, yb, yc⟩ := bf13 hs1.hd
       have hs2 := hs1.k13_9 (u := .int .i64 s.goal.n) |>.k13_10 (u := .slice t0 es2.length q0) |>.k13_11 (u := .slice t1 s.goal.i.length q1) |>.k13_12 (u := .slice t2 s.goal.o.length q2)
       clear x0 x1 x2 x3 x4 x5 x6 x7 x8 x9 xa xb xc y0 y1 y2 y3 y4 y5 y6 y7 y8 y9 ya yb yc
       obtain ⟨p0, p1, p2, p3, p4, p5, p6, p7, p8, p9, p10, p11, p12⟩ := bq13 hs1.hd
       obtain ⟨r00, r01, r02, r03, r04, r05, r06, r07, r08, r09, r10, r11, r12⟩ := bf13 hs1.hd
       obtain ⟨x0, x1, x2, x3, x4, x5, x6, x7, x8, x9, xa, xb, xc⟩ := bq13 hs2.hd
       have hs3 := hs2.s2
       obtain ⟨y0, y1, y2, y3, y4, y5, y6, y7, y8, y9, ya, yb, yc⟩ := bq13 hs3.hd
       obtain ⟨z0, z1, z2, z3, z4, z5, z6, z7, z8, z9, za, zb, zc⟩ := bf13 hs3.hd
       have hs4 := hs3 |>.k13_0 (u := .int .i64 s.p) |>.k13_1 (u := .int .i64 s.k) |>.k13_2 (u := .int .i64 s.l) |>.k13_3 (u := .slice (some ⟨g, 0, none⟩) pn c) |>.k13_4 (u := .int .i64 s.now.n) |>.k13_5 (u := .slice s0 es1.length r0) |>.k13_6 (u := .slice s1 s.now.i.length r1) |>.k13_7 (u := .slice s2 s.now.o.length r2) |>.k13_8 (u := .slice (some ⟨g5, 0, none⟩) fn c5) |>.k13_9 (u := .int .i64 s.goal.n) |>.k13_10 (u := .slice t0 es2.length q0) |>.k13_11 (u := .slice t1 s.goal.i.length q1) |>.k13_12 (u := .slice t2 s.goal.o.length q2)
       obtain ⟨v00, v01, v02, v03, v04, v05, v06, v07, v08, v09, v10, v11, v12⟩ := bq13 hs4.hd
       have HSF := Lib.hid hs4.tl.tl.tl
       clear hsg hs1 hs2 hs3 hs4 hes))

  refine bodyPost_ret_by (v := .agg #[.int .i64 s.p, .int .i64 s.k, .int .i64 s.l, .slice (some ⟨g, 0, none⟩) pn c, .int .i64 s.now.n, .slice s0 es1.length r0, .slice s1 s.now.i.length r1, .slice s2 s.now.o.length r2, .slice (some ⟨g5, 0, none⟩) fn c5, .int .i64 s.goal.n, .slice t0 es2.length q0, .slice t1 s.goal.i.length q1, .slice t2 s.goal.o.length q2]) ?_ rfl ⟨⟨s.p, s.k, s.l, .slice (some ⟨g, 0, none⟩) pn c, ps, ⟨s.now.n, .slice s0 es1.length r0, es1, .slice s1 s.now.i.length r1, s.now.i, .slice s2 s.now.o.length r2, s.now.o⟩, .slice (some ⟨g5, 0, none⟩) fn c5, fs, ⟨s.goal.n, .slice t0 es2.length q0, es2, .slice t1 s.goal.i.length q1, s.goal.i, .slice t2 s.goal.o.length q2, s.goal.o⟩⟩, rfl, ?_, HSF.out⟩
  · simp [results, go_sem, *]
  · unfold SeX.se XG.gr
    rw [HPS.out, HFS.out, HE1.out, HE2.out]
end Go.Proofs.YtlpgjnjhhgjkmaaDoor

/-
  Sessions in the laws: equal sessions. Conditions: lengths are small.
-/
namespace Go.Proofs.YtlpgjnjhhgjkmaaDoor
open Go.RowKit
set_option linter.unusedVariables false
set_option maxRecDepth 100000

set_option maxHeartbeats 2000000 in
theorem eqSession_same (s : Se) (pv e1 i1 o1 fv e2 i2 o2 pv' e1' i1' o1' fv' e2' i2' o2' : Value) (w : World) (hr : RdSe graphE edgeE w s pv e1 i1 o1 fv e2 i2 o2) (hr' : RdSe graphE edgeE w s pv' e1' i1' o1' fv' e2' i2' o2') (hsm : SmS s) :
    Calls Tryd.prog 9 #[seV s.p s.k s.l pv s.now.n e1 i1 o1 fv s.goal.n e2 i2 o2, seV s.p s.k s.l pv' s.now.n e1' i1' o1' fv' s.goal.n e2' i2' o2'] w fun e w' => e = .returned (.bool true) ∧ w.grownBy w' none := by
  obtain ⟨pa, pc, rfl⟩ := hr.past.shape
  obtain ⟨a1, a4, rfl⟩ := hr.es1.shape
  obtain ⟨a2, a5, rfl⟩ := hr.is1.shape
  obtain ⟨a3, a6, rfl⟩ := hr.os1.shape
  obtain ⟨fa, fc, rfl⟩ := hr.fut.shape
  obtain ⟨b1, b4, rfl⟩ := hr.es2.shape
  obtain ⟨b2, b5, rfl⟩ := hr.is2.shape
  obtain ⟨b3, b6, rfl⟩ := hr.os2.shape
  obtain ⟨qa, qc, rfl⟩ := hr'.past.shape
  obtain ⟨c1, c4, rfl⟩ := hr'.es1.shape
  obtain ⟨c2, c5, rfl⟩ := hr'.is1.shape
  obtain ⟨c3, c6, rfl⟩ := hr'.os1.shape
  obtain ⟨ga, gc, rfl⟩ := hr'.fut.shape
  obtain ⟨d1, d4, rfl⟩ := hr'.es2.shape
  obtain ⟨d2, d5, rfl⟩ := hr'.is2.shape
  obtain ⟨d3, d6, rfl⟩ := hr'.os2.shape
  have tg : ∀ {g : Gr} (_ : Sm g), g.es.length ≤ 2000000 ∧ g.i.length ≤ 1000000000 ∧ g.o.length ≤ 1000000000 ∧ ∀ e ∈ g.es, e.i.length ≤ 1000000000 ∧ e.o.length ≤ 1000000000 := fun h => ⟨by have := h.es; omega, by have := h.i; omega, by have := h.o; omega, fun e he => by have := h.ed e he; omega⟩
  obtain ⟨g1, g2, g3, g4⟩ := tg hsm.now
  obtain ⟨k1, k2, k3, k4⟩ := tg hsm.goal
  have HA := Lib.hid fun W (h : w.grownBy W none) => eqGraphS_same _ _ s.past W (hr.past.carry h) (hr'.past.carry h) (by have := hsm.pl; omega) hsm.past
  have HB := Lib.hid fun W (h : w.grownBy W none) => eqGraph_same _ _ _ _ _ _ s.now W (hr.es1.carry h) (hr.is1.carry h) (hr.os1.carry h) (hr'.es1.carry h) (hr'.is1.carry h) (hr'.os1.carry h) g1 g2 g3 g4
  have HC := Lib.hid fun W (h : w.grownBy W none) => eqGraphS_same _ _ s.fut W (hr.fut.carry h) (hr'.fut.carry h) (by have := hsm.fl; omega) hsm.fut
  have HD := Lib.hid fun W (h : w.grownBy W none) => eqGraph_same _ _ _ _ _ _ s.goal W (hr.es2.carry h) (hr.is2.carry h) (hr.os2.carry h) (hr'.es2.carry h) (hr'.is2.carry h) (hr'.os2.carry h) k1 k2 k3 k4
  unfold grV at HB HD
  clear hr hr' hsm tg g1 g2 g3 g4 k1 k2 k3 k4
  unfold seV
  generalize s.past.length = pn at *
  generalize s.now.es.length = n1 at *
  generalize s.now.i.length = n2 at *
  generalize s.now.o.length = n3 at *
  generalize s.fut.length = fn at *
  generalize s.goal.es.length = m1 at *
  generalize s.goal.i.length = m2 at *
  generalize s.goal.o.length = m3 at *
  have hs0 := ((Sep.start w).box #[.int .i64 s.p, .int .i64 s.k, .int .i64 s.l, .slice pa pn pc, .int .i64 s.now.n, .slice a1 n1 a4, .slice a2 n2 a5, .slice a3 n3 a6, .slice fa fn fc, .int .i64 s.goal.n, .slice b1 m1 b4, .slice b2 m2 b5, .slice b3 m3 b6] 36).box #[.int .i64 s.p, .int .i64 s.k, .int .i64 s.l, .slice qa pn qc, .int .i64 s.now.n, .slice c1 n1 c4, .slice c2 n2 c5, .slice c3 n3 c6, .slice ga fn gc, .int .i64 s.goal.n, .slice d1 m1 d4, .slice d2 m2 d5, .slice d3 m3 d6] 36
  have e1 : (w.alloc (.cells #[.int .i64 s.p, .int .i64 s.k, .int .i64 s.l, .slice pa pn pc, .int .i64 s.now.n, .slice a1 n1 a4, .slice a2 n2 a5, .slice a3 n3 a6, .slice fa fn fc, .int .i64 s.goal.n, .slice b1 m1 b4, .slice b2 m2 b5, .slice b3 m3 b6] 36)).heap.size = w.heap.size + 1 := by simp
  rw [e1] at hs0
  have HS0 := Lib.hid hs0
  have HK0 := Lib.hid (show w.grownBy _ none from hs0.tl.tl.hd)
  clear hs0 e1
  go_enter Tryd.func9, Tryd.ntmps9
  go_wp2_with (first
    | (go_at_call 12
       with_reducible refine (HA.out _ HK0.out).mono ?_
       rintro e w3 ⟨rfl, hg⟩
       have hs1 := HS0.out.grown hg
       obtain ⟨x0, x1, x2, x3, x4, x5, x6, x7, x8, x9, xa, xb, xc⟩ := bq13 hs1.hd
       obtain ⟨y0, y1, y2, y3, y4, y5, y6, y7, y8, y9, ya, yb, yc⟩ := bq13 hs1.tl.hd
       have HS1 := Lib.hid hs1
       have HK1 := Lib.hid (show w.grownBy _ none from hs1.tl.tl.hd)
       clear hg hs1)
    | (go_at_call 22
       with_reducible refine (HB.out _ HK1.out).mono ?_
       rintro e w4 ⟨rfl, hg⟩
       clear x0 x1 x2 x3 x4 x5 x6 x7 x8 x9 xa xb xc y0 y1 y2 y3 y4 y5 y6 y7 y8 y9 ya yb yc
       have hs1 := HS1.out.grown hg
       obtain ⟨x0, x1, x2, x3, x4, x5, x6, x7, x8, x9, xa, xb, xc⟩ := bq13 hs1.hd
       obtain ⟨y0, y1, y2, y3, y4, y5, y6, y7, y8, y9, ya, yb, yc⟩ := bq13 hs1.tl.hd
       have HS2 := Lib.hid hs1
       have HK2 := Lib.hid (show w.grownBy _ none from hs1.tl.tl.hd)
       clear hg hs1)
    | (go_at_call 12
       with_reducible refine (HC.out _ HK2.out).mono ?_
       rintro e w5 ⟨rfl, hg⟩
       clear x0 x1 x2 x3 x4 x5 x6 x7 x8 x9 xa xb xc y0 y1 y2 y3 y4 y5 y6 y7 y8 y9 ya yb yc
       have hs1 := HS2.out.grown hg
       obtain ⟨x0, x1, x2, x3, x4, x5, x6, x7, x8, x9, xa, xb, xc⟩ := bq13 hs1.hd
       obtain ⟨y0, y1, y2, y3, y4, y5, y6, y7, y8, y9, ya, yb, yc⟩ := bq13 hs1.tl.hd
       have HS3 := Lib.hid hs1
       have HK3 := Lib.hid (show w.grownBy _ none from hs1.tl.tl.hd)
       clear hg hs1)
    | (go_at_call 22
       with_reducible refine (HD.out _ HK3.out).mono ?_
       rintro e w6 ⟨rfl, hg⟩
       clear x0 x1 x2 x3 x4 x5 x6 x7 x8 x9 xa xb xc y0 y1 y2 y3 y4 y5 y6 y7 y8 y9 ya yb yc
       have hs1 := HS3.out.grown hg
       obtain ⟨x0, x1, x2, x3, x4, x5, x6, x7, x8, x9, xa, xb, xc⟩ := bq13 hs1.hd
       obtain ⟨y0, y1, y2, y3, y4, y5, y6, y7, y8, y9, ya, yb, yc⟩ := bq13 hs1.tl.hd
       have HS4 := Lib.hid hs1
       have HK4 := Lib.hid (show w.grownBy _ none from hs1.tl.tl.hd)
       clear hg hs1))
  go_ret
  exact ⟨rfl, HK4.out⟩
end Go.Proofs.YtlpgjnjhhgjkmaaDoor

/-
  All graphs of a session. Conditions: lengths are small.
-/
namespace Go.Proofs.YtlpgjnjhhgjkmaaDoor
open Go.RowKit
set_option linter.unusedVariables false
set_option maxRecDepth 100000

def allG (s : Se) : List Gr := s.now :: s.goal :: (s.past ++ s.fut)
theorem xg_one {w : World} {y : XG} (h1 : RdE edgeE w y.ev y.gr.es) (h2 : IntsV w y.iv y.gr.i) (h3 : IntsV w y.ov y.gr.o) : ∀ u ∈ graphE.cs y, u.oneCell' = true := by
  obtain ⟨a1, c1, e1⟩ := h1.shape
  obtain ⟨a2, c2, e2⟩ := h2.shape
  obtain ⟨a3, c3, e3⟩ := h3.shape
  intro u hu
  simp only [graphE, graphC, List.mem_cons, List.not_mem_nil, or_false] at hu
  rcases hu with rfl | rfl | rfl | rfl
  · rfl
  · rw [e1]; rfl
  · rw [e2]; rfl
  · rw [e3]; rfl
theorem two_own {w : World} {l : List Asrt} (h : Sep w l) (y z : XG) (b : Nat) (hb : b = w.heap.size) :
    Sep (w.alloc (.cells #[.int .i64 y.n, y.ev, y.iv, y.ov, .int .i64 z.n, z.ev, z.iv, z.ov] 34)) (OR graphE (.slice (some ⟨b, 0, none⟩) 2 2) [y, z] :: l) := by
  subst hb
  refine h.newR (grownBy_alloc w _ none) ?_
  refine ⟨rfl, Or.inr ⟨w.heap.size, 2, #[.int .i64 y.n, y.ev, y.iv, y.ov, .int .i64 z.n, z.ev, z.iv, z.ov], rfl, Nat.le_refl _, ?_, Nat.le_refl _, ?_, rfl, rfl⟩⟩
  · exact alloc_heap_new _ _
  · decide
set_option maxHeartbeats 2000000 in
theorem graphs_any (s : Se) (pv e1 i1 o1 fv e2 i2 o2 : Value) (w : World) (hr : RdSe graphE edgeE w s pv e1 i1 o1 fv e2 i2 o2) (hl : s.past.length ≤ 2000000) (hl2 : s.fut.length ≤ 2000000) :
    Calls Tryd.prog 38 #[seV s.p s.k s.l pv s.now.n e1 i1 o1 fv s.goal.n e2 i2 o2] w fun e w' => ∃ v, e = .returned v ∧ RdGs graphE edgeE w' v (allG s) ∧ w.grownBy w' none := by
  obtain ⟨pa, pc, rfl⟩ := hr.past.shape
  obtain ⟨a1, c1, rfl⟩ := hr.es1.shape
  obtain ⟨a2, c2, rfl⟩ := hr.is1.shape
  obtain ⟨a3, c3, rfl⟩ := hr.os1.shape
  obtain ⟨fa, fc, rfl⟩ := hr.fut.shape
  obtain ⟨b1, d1, rfl⟩ := hr.es2.shape
  obtain ⟨b2, d2, rfl⟩ := hr.is2.shape
  obtain ⟨b3, d3, rfl⟩ := hr.os2.shape
  obtain ⟨xs1, hx1, hx1'⟩ := hr.es1
  obtain ⟨xs2, hx2, hx2'⟩ := hr.es2
  obtain ⟨ps, hps, hpr, hpi⟩ := hr.past
  obtain ⟨fs, hfs, hfr, hfi⟩ := hr.fut
  obtain ⟨X, hX⟩ : ∃ X : XG, X = ⟨s.now.n, .slice a1 s.now.es.length c1, xs1, .slice a2 s.now.i.length c2, s.now.i, .slice a3 s.now.o.length c3, s.now.o⟩ := ⟨_, rfl⟩
  obtain ⟨Y, hY⟩ : ∃ Y : XG, Y = ⟨s.goal.n, .slice b1 s.goal.es.length d1, xs2, .slice b2 s.goal.i.length d2, s.goal.i, .slice b3 s.goal.o.length d3, s.goal.o⟩ := ⟨_, rfl⟩
  have hXg : X.gr = s.now := by rw [hX]; unfold XG.gr; rw [hx1]
  have hYg : Y.gr = s.goal := by rw [hY]; unfold XG.gr; rw [hx2]
  have hXr : RdE edgeE w X.ev X.gr.es ∧ IntsV w X.iv X.gr.i ∧ IntsV w X.ov X.gr.o := by rw [hXg, hX]; exact ⟨hr.es1, hr.is1, hr.os1⟩
  have hYr : RdE edgeE w Y.ev Y.gr.es ∧ IntsV w Y.iv Y.gr.i ∧ IntsV w Y.ov Y.gr.o := by rw [hYg, hY]; exact ⟨hr.es2, hr.is2, hr.os2⟩
  have HFIN := Lib.hid fun v W (h : Sep W [OR graphE v ([X, Y] ++ ps ++ fs), KeepA w]) => show RdGs graphE edgeE W v (allG s) from ⟨[X, Y] ++ ps ++ fs, by unfold grs allG; simp [hXg, hYg, ← hps, ← hfs, grs], OwnR.read (show OwnR graphE 0 W v _ from h.hd), fun y hy => by
    have hk : w.grownBy W none := h.tl.hd
    have : RdE edgeE w y.ev y.gr.es ∧ IntsV w y.iv y.gr.i ∧ IntsV w y.ov y.gr.o := by
      rcases List.mem_append.1 hy with hy | hy
      · rcases List.mem_append.1 hy with hy | hy
        · simp only [List.mem_cons, List.not_mem_nil, or_false] at hy
          rcases hy with rfl | rfl
          · exact hXr
          · exact hYr
        · exact hpi y hy
      · exact hfi y hy
    exact ⟨this.1.carry hk, this.2.1.carry hk, this.2.2.carry hk⟩⟩
  have HP := Lib.hid fun W (h : w.grownBy W none) => hpr.carry h
  have HQ := Lib.hid fun W (h : w.grownBy W none) => hfr.carry h
  have HPO := Lib.hid fun (y : XG) (hy : y ∈ ps) => xg_one (hpi y hy).1 (hpi y hy).2.1 (hpi y hy).2.2
  have HFO := Lib.hid fun (y : XG) (hy : y ∈ fs) => xg_one (hfi y hy).1 (hfi y hy).2.1 (hfi y hy).2.2
  have HPL := Lib.hid (show ps.length = s.past.length by rw [← hps, grs_len]); have HFL := Lib.hid (show fs.length = s.fut.length by rw [← hfs, grs_len])
  have HL1 := Lib.hid hl; have HL2 := Lib.hid hl2
  unfold seV
  clear hr hx1 hx1' hx2 hx2' hps hpr hpi hfs hfr hfi hXg hYg hXr hYr hl hl2
  have hs0 := (Sep.start w).box #[.int .i64 s.p, .int .i64 s.k, .int .i64 s.l, .slice pa s.past.length pc, .int .i64 s.now.n, .slice a1 s.now.es.length c1, .slice a2 s.now.i.length c2, .slice a3 s.now.o.length c3, .slice fa s.fut.length fc, .int .i64 s.goal.n, .slice b1 s.goal.es.length d1, .slice b2 s.goal.i.length d2, .slice b3 s.goal.o.length d3] 36
  have hs1 := two_own hs0 X Y (w.heap.size + 1) (by simp)
  obtain ⟨x0, x1, x2, x3, x4, x5, x6, x7, x8, x9, xa, xb, xc⟩ := bq13 hs1.tl.hd
  rw [hX, hY] at hs1
  simp only at hs1
  rw [← hX, ← hY] at hs1
  have HS1 := Lib.hid hs1
  clear hs0 hs1 hX hY
  generalize s.now.es.length = n1 at *
  generalize s.now.i.length = n2 at *
  generalize s.now.o.length = n3 at *
  generalize s.goal.es.length = m1 at *
  generalize s.goal.i.length = m2 at *
  generalize s.goal.o.length = m3 at *
  generalize s.past.length = pn at *
  generalize s.fut.length = fn at *
  go_enter Tryd.func38, Tryd.ntmps38
  go_wp2_with (first
    | (refine app_Rs (E := graphE) (ys := ps) info_graph rfl (by decide) Tryd.underlying31 HPO.out rfl (.tmp 8) (.tmp 10) rfl rfl rfl HS1.out (HP.out _ HS1.out.tl.tl.hd) (by rw [HPL.out]; have := HL1.out; simp; omega) ?_
       intro v' w' h'
       obtain ⟨va, vc, rfl⟩ := OwnR.shape (show OwnR graphE 0 w' v' _ from h'.hd)
       obtain ⟨y0, y1, y2, y3, y4, y5, y6, y7, y8, y9, ya, yb, yc⟩ := bq13 h'.tl.hd
       have HS2 := Lib.hid h'
       clear h')
    | (refine app_Rs (E := graphE) (ys := fs) info_graph rfl (by decide) Tryd.underlying31 HFO.out rfl (.tmp 12) (.tmp 14) rfl rfl rfl HS2.out (HQ.out _ HS2.out.tl.tl.hd) (by rw [List.length_append, HPL.out, HFL.out]; have := HL1.out; have := HL2.out; simp; omega) ?_
       intro v2 w2 h2
       have HS3 := Lib.hid (h2.drop2)
       clear h2))
  go_ret
  exact ⟨_, rfl, HFIN.out _ _ HS3.out, HS3.out.tl.hd⟩
end Go.Proofs.YtlpgjnjhhgjkmaaDoor

/-
  Is it a session, in the program. Conditions: the table of small primes holds what its text lays; lengths are small.
-/
namespace Go.Proofs.YtlpgjnjhhgjkmaaDoor
open Go.RowKit
set_option linter.unusedVariables false
set_option maxRecDepth 100000

def snB (s : Se) (g : Gr) : Bool := ovB s.p g && (monB g && (decide (g.i.length = s.now.i.length) && decide (g.o.length = s.now.o.length)))
/-- Is it a session? -/
def sesB (s : Se) : Bool := (fldB s.p && [s.k, s.l].all (elB s.p)) && (decide (s.past.length + s.fut.length ≤ 30) && (allG s).all (snB s))
theorem snall_take {s : Se} {gs : List Gr} {k : Nat} (hk : k < gs.length) : (gs.take (k + 1)).all (snB s) = ((gs.take k).all (snB s) && snB s (gs.getD k gr00)) := by
  rw [List.take_succ_eq_append_getElem hk, List.all_append, List.getD_eq_getElem?_getD, List.getElem?_eq_getElem hk]; simp
theorem snall_bad {s : Se} {gs : List Gr} {k : Nat} (hk : k < gs.length) (h : snB s (gs.getD k gr00) = false) : gs.all (snB s) = false := by
  cases hb : gs.all (snB s)
  · rfl
  · have := List.all_eq_true.1 hb _ (getD_mem (d := gr00) hk)
    rw [h] at this
    cases this
theorem SmS.all {s : Se} (h : SmS s) : ∀ g ∈ allG s, Sm g := by
  intro g hg
  unfold allG at hg
  rcases List.mem_cons.1 hg with rfl | hg
  · exact h.now
  · rcases List.mem_cons.1 hg with rfl | hg
    · exact h.goal
    · rcases List.mem_append.1 hg with hg | hg
      · exact h.past g hg
      · exact h.fut g hg
theorem allG_len (s : Se) : (allG s).length = s.past.length + s.fut.length + 2 := by simp [allG]
set_option maxHeartbeats 4000000 in
theorem isSession_any (s : Se) (pv e1 i1 o1 fv e2 i2 o2 : Value) (w : World) (ht : Tab w) (hr : RdSe graphE edgeE w s pv e1 i1 o1 fv e2 i2 o2) (hsm : SmS s) :
    Calls Tryd.prog 21 #[seV s.p s.k s.l pv s.now.n e1 i1 o1 fv s.goal.n e2 i2 o2] w fun e w' => e = .returned (.bool (sesB s)) ∧ w.grownBy w' none := by
  have HGS := Lib.hid fun W (h : w.grownBy W none) => graphs_any s _ _ _ _ _ _ _ _ W (hr.carry h) (by have := hsm.pl; omega) (by have := hsm.fl; omega)
  have HTB := Lib.hid fun W (h : w.grownBy W none) => ht.grown h
  have HAL := Lib.hid (SmS.all hsm)
  have hpl := hsm.pl
  have hfl := hsm.fl
  obtain ⟨pa, pc, rfl⟩ := hr.past.shape
  obtain ⟨a1, c1, rfl⟩ := hr.es1.shape
  obtain ⟨a2, c2, rfl⟩ := hr.is1.shape
  obtain ⟨a3, c3, rfl⟩ := hr.os1.shape
  obtain ⟨fa, fc, rfl⟩ := hr.fut.shape
  obtain ⟨b1, d1, rfl⟩ := hr.es2.shape
  obtain ⟨b2, d2, rfl⟩ := hr.is2.shape
  obtain ⟨b3, d3, rfl⟩ := hr.os2.shape
  clear hr hsm
  have HN1 := Lib.hid fun (h : s.past.length + s.fut.length ≤ 30 → False) => show sesB s = false by unfold sesB; rw [decide_eq_false (fun h' => h h')]; simp
  have HN0 := Lib.hid fun (h : (fldB s.p && [s.k, s.l].all (elB s.p)) = false) => show sesB s = false by unfold sesB; rw [h]; rfl
  have HN2 := Lib.hid fun (h : (allG s).all (snB s) = false) => show sesB s = false by unfold sesB; rw [h]; simp
  have HY := Lib.hid fun (h0 : (fldB s.p && [s.k, s.l].all (elB s.p)) = true) (h1 : s.past.length + s.fut.length ≤ 30) (h2 : (allG s).all (snB s) = true) => show sesB s = true by unfold sesB; rw [h0, h2, decide_eq_true h1]; rfl
  have HLA := Lib.hid (allG_len s)
  have HSN := Lib.hid fun (g : Gr) => show snB s g = (ovB s.p g && (monB g && (decide (g.i.length = s.now.i.length) && decide (g.o.length = s.now.o.length)))) from rfl
  unfold seV at *
  have hs0 := (Sep.start w).box #[.int .i64 s.p, .int .i64 s.k, .int .i64 s.l, .slice pa s.past.length pc, .int .i64 s.now.n, .slice a1 s.now.es.length c1, .slice a2 s.now.i.length c2, .slice a3 s.now.o.length c3, .slice fa s.fut.length fc, .int .i64 s.goal.n, .slice b1 s.goal.es.length d1, .slice b2 s.goal.i.length d2, .slice b3 s.goal.o.length d3] 36
  have hs1 := hs0.al (.cells #[.int .i64 s.k, .int .i64 s.l] 3)
  obtain ⟨x0, x1, x2, x3, x4, x5, x6, x7, x8, x9, xa, xb, xc⟩ := bq13 hs1.hd
  have HS1 := Lib.hid hs1
  have HK1 := Lib.hid (show w.grownBy _ none from hs1.tl.hd)
  have HAE := Lib.hid (areElements_any s.p (.slice (some ⟨w.heap.size + 1, 0, none⟩) 2 2) [s.k, s.l] _ (HTB.out _ HK1.out) ⟨some ⟨w.heap.size + 1, 0, none⟩, 2, rfl, fun _ => ⟨⟨w.heap.size + 1, 0, none⟩, rfl, rfl, by simp, by
    have := intsAt_new (w.alloc (.cells #[.int .i64 s.p, .int .i64 s.k, .int .i64 s.l, .slice pa s.past.length pc, .int .i64 s.now.n, .slice a1 s.now.es.length c1, .slice a2 s.now.i.length c2, .slice a3 s.now.o.length c3, .slice fa s.fut.length fc, .int .i64 s.goal.n, .slice b1 s.goal.es.length d1, .slice b2 s.goal.i.length d2, .slice b3 s.goal.o.length d3] 36)) [s.k, s.l] 3
    rw [show (w.alloc (.cells #[.int .i64 s.p, .int .i64 s.k, .int .i64 s.l, .slice pa s.past.length pc, .int .i64 s.now.n, .slice a1 s.now.es.length c1, .slice a2 s.now.i.length c2, .slice a3 s.now.o.length c3, .slice fa s.fut.length fc, .int .i64 s.goal.n, .slice b1 s.goal.es.length d1, .slice b2 s.goal.i.length d2, .slice b3 s.goal.o.length d3] 36)).heap.size = w.heap.size + 1 by simp] at this
    exact this⟩⟩ (by simp))
  clear hs0 hs1 ht
  generalize hpn : s.past.length = pn at *
  generalize hfn : s.fut.length = fn at *
  generalize s.now.es.length = n1 at *
  generalize s.now.i.length = n2 at *
  generalize s.now.o.length = n3 at *
  generalize s.goal.es.length = m1 at *
  generalize s.goal.i.length = m2 at *
  generalize s.goal.o.length = m3 at *
  clear hpn hfn
  cases h0 : fldB s.p && [s.k, s.l].all (elB s.p)
  · rw [h0] at HAE
    have HR := Lib.hid (HN0.out h0)
    clear h0
    go_enter Tryd.func21, Tryd.ntmps21
    go_wp2_with (go_at_call 37; with_reducible refine HAE.out.mono ?_; rintro e w3 ⟨rfl, rfl⟩)
    go_ret
    exact ⟨by rw [HR.out]; try rfl, HK1.out⟩
  · rw [h0] at HAE
    have H0 := Lib.hid h0
    clear h0
    by_cases hp : (30 : Int) < (pn : Int)
    · have HR := Lib.hid (HN1.out (by omega))
      go_enter Tryd.func21, Tryd.ntmps21
      go_wp2_with (go_at_call 37; with_reducible refine HAE.out.mono ?_; rintro e w3 ⟨rfl, rfl⟩)
      go_ret
      exact ⟨by rw [HR.out]; try rfl, HK1.out⟩
    · have hwr : IntKind.i64.wrap ((pn : Int) + (fn : Int)) = (pn : Int) + (fn : Int) := by rw [IntKind.wrap_i64]; omega
      by_cases hq : (30 : Int) < (pn : Int) + (fn : Int)
      · have HR := Lib.hid (HN1.out (by omega))
        go_enter Tryd.func21, Tryd.ntmps21
        go_wp2_with (go_at_call 37; with_reducible refine HAE.out.mono ?_; rintro e w3 ⟨rfl, rfl⟩)
        go_ret
        exact ⟨by rw [HR.out]; try rfl, HK1.out⟩
      · have HLE := Lib.hid (show pn + fn ≤ 30 by omega)
        have hlen : (allG s).length ≤ 32 := by rw [HLA.out]; omega
        have HLN := Lib.hid hlen
        clear hlen
        generalize hn : (allG s).length = n at *
        have HN := Lib.hid hn
        clear hn
        go_enter Tryd.func21, Tryd.ntmps21
        go_wp2_with (first
          | (go_at_call 37; with_reducible refine HAE.out.mono ?_; rintro e w3 ⟨rfl, rfl⟩)
          | (go_at_call 38
             with_reducible refine (HGS.out _ HK1.out).mono ?_
             rintro e w4 ⟨v, rfl, hgs, hg⟩
             obtain ⟨va, vc, rfl⟩ := hgs.shape
             rw [HN.out]
             rw [HN.out] at hgs
             have HV := Lib.hid hgs
             have HS4 := Lib.hid (HS1.out.grown hg)
             clear hg hgs))
        obtain ⟨z0, z1, z2, z3, z4, z5, z6, z7, z8, z9, za, zb, zc⟩ := bq13 HS4.out.hd
        clear x0 x1 x2 x3 x4 x5 x6 x7 x8 x9 xa xb xc HGS HAE
        go_loopw [4, 33] (fun _ i wr => ∃ k : Nat, k ≤ n ∧ i = .int .i64 k ∧ ((allG s).take k).all (snB s) = true ∧ w4.grownBy wr none) (fun _ i _ => n - (intOf i).toNat)
        case atStart => exact ⟨0, by omega, rfl, by simp, grownBy_refl _ _⟩
        case round =>
          obtain ⟨k, hk, rfl, ha, hg⟩ := hrel
          have hnb := HLN.out
          have HA := Lib.hid ha; have HG := Lib.hid hg
          clear ha hg z0 z1 z2 z3 z4 z5 z6 z7 z8 z9 za zb zc
          by_cases hlt : k < n
          · have hke : k < (allG s).length := by rw [HN.out]; exact hlt
            obtain ⟨gb, go, ev, iv, ov, rfl, hat⟩ := HV.out.atK rfl rfl hke
            obtain ⟨⟨q0, q1, q2, q3⟩, he, hi, ho⟩ := hat wr HG.out
            have hsx := HS4.out.grown HG.out
            have HTK := Lib.hid (snall_take (s := s) hke)
            have HBD := Lib.hid fun (h : snB s ((allG s).getD k gr00) = false) => HN2.out (snall_bad (s := s) hke h)
            have hSM := HAL.out _ (getD_mem (d := gr00) hke)
            have HS := Lib.hid (HSN.out ((allG s).getD k gr00))
            generalize (allG s).getD k gr00 = y at *
            have hk1 : ∀ W, wr.grownBy W none → w4.grownBy W none := fun W h => grownBy_trans HG.out h
            have HOV := Lib.hid fun W (h : wr.grownBy W none) => isGraphOver_any s.p ev iv ov y W (HTB.out _ (grownBy_trans HS4.out.tl.hd (hk1 _ h))) (he.carry h) (hi.carry h) (ho.carry h) (by have := hSM.es; omega) (by have := hSM.i; omega) (by have := hSM.o; omega)
            have HMO := Lib.hid fun W (h : wr.grownBy W none) => isMonogamous_any ev iv ov y W (he.carry h) (hi.carry h) (ho.carry h) (by have := hSM.es; omega) (by have := hSM.i; omega) (by have := hSM.o; omega)
            unfold grV at HOV HMO
            obtain ⟨t1, r1, rfl⟩ := he.shape
            obtain ⟨t2, r2, rfl⟩ := hi.shape
            obtain ⟨t3, r3, rfl⟩ := ho.shape
            have hsb := (hsx.box #[.int .i64 y.n, .slice t1 y.es.length r1, .slice t2 y.i.length r2, .slice t3 y.o.length r3] 34).s2
            obtain ⟨z0, z1, z2, z3, z4, z5, z6, z7, z8, z9, za, zb, zc⟩ := bq13 hsb.hd
            have HSB := Lib.hid hsb
            have HGB := Lib.hid (gr1 wr (.cells #[.int .i64 y.n, .slice t1 y.es.length r1, .slice t2 y.i.length r2, .slice t3 y.o.length r3] 34))
            have HKB := Lib.hid (show w.grownBy _ none from hsb.tl.tl.hd)
            have hgr : ovB s.p y = true → grB y = true := by unfold ovB; intro h; simp only [Bool.and_eq_true] at h; exact h.2.1
            clear he hi ho hat hke hsx hsb hSM
            cases hov : ovB s.p y
            · rw [hov] at HOV
              have HR := Lib.hid (HBD.out (by rw [HS.out, hov]; rfl))
              clear hov hgr
              generalize y.es.length = l1 at *
              generalize y.i.length = l2 at *
              generalize y.o.length = l3 at *
              generalize y.n = yn at *
              go_wp2_with (
                go_at_call 39
                with_reducible refine (HOV.out _ HGB.out).mono ?_
                rintro e w6 ⟨rfl, hg⟩
                have HK6 := Lib.hid (grownBy_trans HKB.out hg)
                clear hg)
              go_ret
              exact ⟨by rw [HR.out]; try rfl, HK6.out⟩
            · rw [hov] at HOV
              rw [hgr hov, Bool.true_and] at HMO
              have HS2 := Lib.hid (show snB s y = (monB y && (decide (y.i.length = n2) && decide (y.o.length = n3))) by rw [HS.out, hov]; rfl)
              clear hov hgr
              cases hmb : monB y
              · rw [hmb] at HMO
                have HR := Lib.hid (HBD.out (by rw [HS2.out, hmb]; rfl))
                clear hmb
                generalize y.es.length = l1 at *
                generalize y.i.length = l2 at *
                generalize y.o.length = l3 at *
                generalize y.n = yn at *
                go_wp2_with (first
                  | (go_at_call 39
                     with_reducible refine (HOV.out _ HGB.out).mono ?_
                     rintro e w6 ⟨rfl, hg⟩
                     have HG6 := Lib.hid (grownBy_trans HGB.out hg)
                     have hs6 := HSB.out.grown hg
                     obtain ⟨v0, v1, v2, v3, v4, v5, v6, v7, v8, v9, va, vb, vc⟩ := bq13 hs6.hd
                     obtain ⟨u0, u1, u2, u3, _⟩ := bq4 hs6.tl.hd
                     have HK6 := Lib.hid (show w.grownBy _ none from hs6.tl.tl.hd)
                     clear hg hs6)
                  | (go_at_call 40
                     with_reducible refine (HMO.out _ HG6.out).mono ?_
                     rintro e w7 ⟨rfl, hg⟩
                     have HK7 := Lib.hid (grownBy_trans HK6.out hg)
                     clear hg))
                go_ret
                exact ⟨by rw [HR.out]; try rfl, HK7.out⟩
              · rw [hmb] at HMO
                have HS3 := Lib.hid (show snB s y = (decide (y.i.length = n2) && decide (y.o.length = n3)) by rw [HS2.out, hmb]; rfl)
                clear hmb
                generalize y.es.length = l1 at *
                generalize y.i.length = l2 at *
                generalize y.o.length = l3 at *
                generalize y.n = yn at *
                have HRD := Lib.hid (show ((allG s).take (k + 1)).all (snB s) = (decide (l2 = n2) && decide (l3 = n3)) by rw [HTK.out, HA.out, HS3.out]; rfl)
                by_cases hl2 : l2 = n2
                · subst hl2
                  by_cases hl3 : l3 = n3
                  · subst hl3
                    have HN3 := Lib.hid (show ((allG s).take (k + 1)).all (snB s) = true by rw [HRD.out]; simp)
                    have f2 : ((l2 : Int) != (l2 : Int)) = false := by simp
                    have f3 : ((l3 : Int) != (l3 : Int)) = false := by simp
                    go_wp2_with (first
                      | (go_at_call 39
                         with_reducible refine (HOV.out _ HGB.out).mono ?_
                         rintro e w6 ⟨rfl, hg⟩
                         have HG6 := Lib.hid (grownBy_trans HGB.out hg)
                         have hs6 := HSB.out.grown hg
                         obtain ⟨v0, v1, v2, v3, v4, v5, v6, v7, v8, v9, va, vb, vc⟩ := bq13 hs6.hd
                         obtain ⟨u0, u1, u2, u3, _⟩ := bq4 hs6.tl.hd
                         have HSC := Lib.hid hs6
                         clear hg hs6)
                      | (go_at_call 40
                         with_reducible refine (HMO.out _ HG6.out).mono ?_
                         rintro e w7 ⟨rfl, hg⟩
                         have hs7 := HSC.out.grown hg
                         obtain ⟨v0, v1, v2, v3, v4, v5, v6, v7, v8, v9, va, vb, vc⟩ := bq13 hs7.hd
                         obtain ⟨u0, u1, u2, u3, _⟩ := bq4 hs7.tl.hd
                         have HK7 := Lib.hid (show w.grownBy _ none from hs7.tl.tl.hd)
                         have HG7 := Lib.hid (grownBy_trans HG6.out hg)
                         clear hg hs7))
                    go_roundw
                    case rel => exact ⟨k + 1, by omega, by go_num, HN3.out, grownBy_trans HG.out HG7.out⟩
                    case measure => simp [intOf]; omega
                  · have HR := Lib.hid (HBD.out (by rw [HS3.out, decide_eq_false hl3]; simp))
                    have f2 : ((l2 : Int) != (l2 : Int)) = false := by simp
                    have f3 : ((l3 : Int) != (n3 : Int)) = true := by simp; omega
                    go_wp2_with (first
                      | (go_at_call 39
                         with_reducible refine (HOV.out _ HGB.out).mono ?_
                         rintro e w6 ⟨rfl, hg⟩
                         have HG6 := Lib.hid (grownBy_trans HGB.out hg)
                         have hs6 := HSB.out.grown hg
                         obtain ⟨v0, v1, v2, v3, v4, v5, v6, v7, v8, v9, va, vb, vc⟩ := bq13 hs6.hd
                         obtain ⟨u0, u1, u2, u3, _⟩ := bq4 hs6.tl.hd
                         have HSC := Lib.hid hs6
                         clear hg hs6)
                      | (go_at_call 40
                         with_reducible refine (HMO.out _ HG6.out).mono ?_
                         rintro e w7 ⟨rfl, hg⟩
                         have hs7 := HSC.out.grown hg
                         obtain ⟨v0, v1, v2, v3, v4, v5, v6, v7, v8, v9, va, vb, vc⟩ := bq13 hs7.hd
                         obtain ⟨u0, u1, u2, u3, _⟩ := bq4 hs7.tl.hd
                         have HK7 := Lib.hid (show w.grownBy _ none from hs7.tl.tl.hd)
                         have HG7 := Lib.hid (grownBy_trans HG6.out hg)
                         clear hg hs7))
                    go_ret
                    exact ⟨by rw [HR.out]; try rfl, HK7.out⟩
                · have HR := Lib.hid (HBD.out (by rw [HS3.out, decide_eq_false hl2]; simp))
                  have f2 : ((l2 : Int) != (n2 : Int)) = true := by simp; omega
                  go_wp2_with (first
                    | (go_at_call 39
                       with_reducible refine (HOV.out _ HGB.out).mono ?_
                       rintro e w6 ⟨rfl, hg⟩
                       have HG6 := Lib.hid (grownBy_trans HGB.out hg)
                       have hs6 := HSB.out.grown hg
                       obtain ⟨v0, v1, v2, v3, v4, v5, v6, v7, v8, v9, va, vb, vc⟩ := bq13 hs6.hd
                       obtain ⟨u0, u1, u2, u3, _⟩ := bq4 hs6.tl.hd
                       have HSC := Lib.hid hs6
                       clear hg hs6)
                    | (go_at_call 40
                       with_reducible refine (HMO.out _ HG6.out).mono ?_
                       rintro e w7 ⟨rfl, hg⟩
                       have hs7 := HSC.out.grown hg
                       obtain ⟨v0, v1, v2, v3, v4, v5, v6, v7, v8, v9, va, vb, vc⟩ := bq13 hs7.hd
                       obtain ⟨u0, u1, u2, u3, _⟩ := bq4 hs7.tl.hd
                       have HK7 := Lib.hid (show w.grownBy _ none from hs7.tl.tl.hd)
                       have HG7 := Lib.hid (grownBy_trans HG6.out hg)
                       clear hg hs7))
                  go_ret
                  exact ⟨by rw [HR.out]; try rfl, HK7.out⟩
          · have hkn : k = n := by omega
            subst hkn
            have ha := HA.out
            rw [List.take_of_length_le (by rw [HN.out]; exact Nat.le_refl _)] at ha
            have HR := Lib.hid (HY.out H0.out HLE.out ha)
            have HKF := Lib.hid (grownBy_trans HS4.out.tl.hd HG.out)
            clear ha hlt
            go_wp2
            go_ret
            exact ⟨by rw [HR.out]; try rfl, HKF.out⟩
end Go.Proofs.YtlpgjnjhhgjkmaaDoor

/-
  Own copies of sessions, in the program. Conditions: the session is valid.
-/
namespace Go.Proofs.YtlpgjnjhhgjkmaaDoor
open Go.RowKit
set_option linter.unusedVariables false
set_option maxRecDepth 100000

theorem Sep.toBag3 {w : World} {A X Y : Asrt} {L r : List Asrt} (h : Sep w (A :: X :: Y :: Bag L :: r)) : Sep w (X :: Y :: Bag (A :: L) :: r) := (Sep.intoBag h.s4.s2).s3.s3
theorem Sep.toBag33 {w : World} {A C D X Y : Asrt} {L r : List Asrt} (h : Sep w (A :: C :: D :: X :: Y :: Bag L :: r)) : Sep w (X :: Y :: Bag (A :: C :: D :: L) :: r) := by
  have h1 : Sep w (Bag [A, C, D] :: X :: Y :: Bag L :: r) := Sep.bag (l := [A, C, D]) h
  exact (Sep.joinBag h1.s4.s2).s3.s3
theorem ses_valid {s : Se} (h : sesB s = true) : (∀ g ∈ allG s, grB g = true) ∧ s.past.length ≤ 30 ∧ s.fut.length ≤ 30 := by
  unfold sesB at h
  simp only [Bool.and_eq_true, decide_eq_true_iff] at h
  obtain ⟨_, h1, h2⟩ := h
  refine ⟨fun g hg => ?_, by omega, by omega⟩
  have h3 := List.all_eq_true.1 h2 g hg
  unfold snB ovB at h3
  simp only [Bool.and_eq_true] at h3
  exact h3.1.2.1
set_option maxHeartbeats 8000000 in
theorem scopy_any (s : Se) (pv e1 i1 o1 fv e2 i2 o2 : Value) (w : World) (hr : RdSe graphE edgeE w s pv e1 i1 o1 fv e2 i2 o2) (hs : sesB s = true) :
    Calls Tryd.prog 25 #[seV s.p s.k s.l pv s.now.n e1 i1 o1 fv s.goal.n e2 i2 o2] w fun e w' => ∃ x : SeX, e = .returned (sxV x) ∧ x.se = s ∧ Sep w' [OSe x, KeepA w] := by
  obtain ⟨hv, hl1, hl2⟩ := ses_valid hs
  have HA := Lib.hid fun W (h : w.grownBy W none) => copyGraphs_any pv s.past W (hr.past.carry h) (fun g hg => hv g (by unfold allG; simp [hg])) (by omega)
  have HC := Lib.hid fun W (h : w.grownBy W none) => copyGraphs_any fv s.fut W (hr.fut.carry h) (fun g hg => hv g (by unfold allG; simp [hg])) (by omega)
  have HB := Lib.hid fun W (h : w.grownBy W none) => gcopy_any e1 i1 o1 s.now W (hr.es1.carry h) (hr.is1.carry h) (hr.os1.carry h) (hv _ (by unfold allG; simp))
  have HD := Lib.hid fun W (h : w.grownBy W none) => gcopy_any e2 i2 o2 s.goal W (hr.es2.carry h) (hr.is2.carry h) (hr.os2.carry h) (hv _ (by unfold allG; simp))
  obtain ⟨pa, pc, rfl⟩ := hr.past.shape
  obtain ⟨a1, c1, rfl⟩ := hr.es1.shape
  obtain ⟨a2, c2, rfl⟩ := hr.is1.shape
  obtain ⟨a3, c3, rfl⟩ := hr.os1.shape
  obtain ⟨fa, fc, rfl⟩ := hr.fut.shape
  obtain ⟨b1, d1, rfl⟩ := hr.es2.shape
  obtain ⟨b2, d2, rfl⟩ := hr.is2.shape
  obtain ⟨b3, d3, rfl⟩ := hr.os2.shape
  unfold OwnG grV at HB HD
  clear hr hs hv hl1 hl2
  unfold seV
  generalize s.past.length = pn at *
  generalize s.now.es.length = n1 at *
  generalize s.now.i.length = n2 at *
  generalize s.now.o.length = n3 at *
  generalize s.fut.length = fn at *
  generalize s.goal.es.length = m1 at *
  generalize s.goal.i.length = m2 at *
  generalize s.goal.o.length = m3 at *
  have hs0 := (((Sep.start w).noBag.box #[.int .i64 s.p, .int .i64 s.k, .int .i64 s.l, .slice pa pn pc, .int .i64 s.now.n, .slice a1 n1 c1, .slice a2 n2 c2, .slice a3 n3 c3, .slice fa fn fc, .int .i64 s.goal.n, .slice b1 m1 d1, .slice b2 m2 d2, .slice b3 m3 d3] 36).box #[.int .i64 0, .int .i64 0, .int .i64 0, .slice none 0 0, .int .i64 0, .slice none 0 0, .slice none 0 0, .slice none 0 0, .slice none 0 0, .int .i64 0, .slice none 0 0, .slice none 0 0, .slice none 0 0] 36).s2
  have e1 : (w.alloc (.cells #[.int .i64 s.p, .int .i64 s.k, .int .i64 s.l, .slice pa pn pc, .int .i64 s.now.n, .slice a1 n1 c1, .slice a2 n2 c2, .slice a3 n3 c3, .slice fa fn fc, .int .i64 s.goal.n, .slice b1 m1 d1, .slice b2 m2 d2, .slice b3 m3 d3] 36)).heap.size = w.heap.size + 1 := by simp
  rw [e1] at hs0
  have HSD := Lib.hid hs0.dr
  have HKD := Lib.hid (show w.grownBy _ none from hs0.dr.tl.tl.tl.hd)
  have SX := Lib.hid fun (W : World) (l : List Asrt) (h : Sep W (BxA w.heap.size #[.int .i64 s.p, .int .i64 s.k, .int .i64 s.l, .slice pa pn pc, .int .i64 s.now.n, .slice a1 n1 c1, .slice a2 n2 c2, .slice a3 n3 c3, .slice fa fn fc, .int .i64 s.goal.n, .slice b1 m1 d1, .slice b2 m2 d2, .slice b3 m3 d3] 36 :: l)) => And.intro (bq13 h.hd).2.2.2.1 (bq13 h.hd).2.2.2.2.2.2.2.2.1
  have X0 := Lib.hid (SX.out _ _ HSD.out)
  clear hs0 e1
  go_enter Tryd.func25, Tryd.ntmps25
  go_upto_region 1 with fail
  refine AnyL.start (fun _ => True) (fun w' => w'.cell? ⟨w.heap.size, 3, none⟩ = some (.slice pa pn pc) ∧ w'.cell? ⟨w.heap.size, 8, none⟩ = some (.slice fa fn fc)) 7 (by kernel_rfl) ?_
  refine AnyL.take (i := 0) (v := ?vx1) (by rfl) (by kernel_rfl) (by kernel_rfl) (by kernel_rfl) rfl (by exact fun _ _ _ h => h) (by rfl) ?hyx1 (by exact ⟨trivial, fun _ => X0.out⟩) ?restx1
  case hyx1 => intro W hSW; (try dsimp only at hSW); first | (go_simp; done) | (go_simp; with_reducible rfl)
  try simp only [Act.put, List.setIfInBounds_toArray, List.set_cons_zero, List.set_cons_succ]
  refine AnyL.takeA (i := 1) (v := ?vx2) (by rfl) (by kernel_rfl) (by kernel_rfl) (by kernel_rfl) rfl (by rfl) (by kernel_rfl) (by kernel_rfl) (by exact fun _ _ _ h => h) (by rfl) ?hyx2 (by exact ⟨trivial, fun _ => X0.out⟩) ?restx2
  case hyx2 => intro W hSW; (try dsimp only at hSW); first | (go_simp; done) | (go_simp; with_reducible rfl)
  try simp only [Act.put, List.setIfInBounds_toArray, List.set_cons_zero, List.set_cons_succ]
  refine AnyL.take (i := 3) (v := ?vx3) (by rfl) (by kernel_rfl) (by kernel_rfl) (by kernel_rfl) rfl (by exact fun _ _ _ h => h) (by rfl) ?hyx3 (by exact ⟨trivial, fun _ => X0.out⟩) ?restx3
  case hyx3 => intro W hSW; (try dsimp only at hSW); first | (go_simp; done) | (go_simp; with_reducible rfl)
  try simp only [Act.put, List.setIfInBounds_toArray, List.set_cons_zero, List.set_cons_succ]
  refine AnyL.takeA (i := 4) (v := ?vx4) (by rfl) (by kernel_rfl) (by kernel_rfl) (by kernel_rfl) rfl (by rfl) (by kernel_rfl) (by kernel_rfl) (by exact fun _ _ _ h => h) (by rfl) ?hyx4 (by exact ⟨trivial, fun _ => X0.out⟩) ?restx4
  case hyx4 => intro W hSW; (try dsimp only at hSW); first | (go_simp; done) | (go_simp; with_reducible rfl)
  try simp only [Act.put, List.setIfInBounds_toArray, List.set_cons_zero, List.set_cons_succ]
  refine AnyL.step (i := 2) (by kernel_rfl) (by rfl) (fun K hK => ?_)
  go_simp
  go_at_call 44
  with_reducible refine (HA.out _ HKD.out).mono ?_
  rintro e w2 ⟨q, ps, rfl, hps, hsg⟩
  have HPS := Lib.hid hps
  obtain ⟨qa, qc, rfl⟩ := OG.shape hsg.hd
  have HS2 := Lib.hid (HSD.out.graft1 hsg OG_own).toBag3
  have X2 := Lib.hid (SX.out _ _ HS2.out)
  have HK2 := Lib.hid (show w.grownBy _ none from HS2.out.tl.tl.tl.hd)
  clear hsg hps
  refine hK.out _ _ (by exact trivial) (by exact fun _ => X2.out) ?_
  clear hK K
  try simp only [Act.put, List.setIfInBounds_toArray, List.set_cons_zero, List.set_cons_succ]
  refine AnyL.take (i := 6) (v := ?vx5) (by rfl) (by kernel_rfl) (by kernel_rfl) (by kernel_rfl) rfl (by exact fun _ _ _ h => h) (by rfl) ?hyx5 (by exact ⟨trivial, fun _ => X2.out⟩) ?restx5
  case hyx5 => intro W hSW; (try dsimp only at hSW); first | (go_simp; done) | (go_simp; with_reducible rfl)
  try simp only [Act.put, List.setIfInBounds_toArray, List.set_cons_zero, List.set_cons_succ]
  refine AnyL.step (i := 5) (by kernel_rfl) (by rfl) (fun K hK => ?_)
  go_simp
  go_at_call 44
  with_reducible refine (HC.out _ HK2.out).mono ?_
  rintro e w3 ⟨r, fs, rfl, hfs, hsg⟩
  have HFS := Lib.hid hfs
  obtain ⟨ra, rc, rfl⟩ := OG.shape hsg.hd
  have hs3 := (HS2.out.graft1 hsg OG_own).toBag3
  have X3 := Lib.hid (SX.out _ _ hs3)
  have y3 := (bq13 hs3.hd).2.2.2.1
  have z3 := (bf13 hs3.hd).2.2.2.1
  have hs4 := hs3.k13_3 (u := .slice qa ps.length qc)
  have y8 := (bq13 hs4.hd).2.2.2.2.2.2.2.2.1
  have z8 := (bf13 hs4.hd).2.2.2.2.2.2.2.2.1
  have HS5 := Lib.hid (hs4.k13_8 (u := .slice ra fs.length rc))
  clear hsg hfs hs3 hs4
  refine hK.out _ _ (by exact trivial) (by exact fun _ => X3.out) ?_
  clear hK K
  try simp only [Act.put, List.setIfInBounds_toArray, List.set_cons_zero, List.set_cons_succ]
  refine AnyL.step (i := 7) (by kernel_rfl) (by rfl) (fun K hK => ?_)
  go_simp
  refine hK.out _ _ (by exact trivial) (by exact fun h => noTF (by kernel_rfl) h) ?_
  clear hK K
  try simp only [Act.put, List.setIfInBounds_toArray, List.set_cons_zero, List.set_cons_succ]
  refine AnyL.take (i := 8) (v := ?vx6) (by rfl) (by kernel_rfl) (by kernel_rfl) (by kernel_rfl) rfl (by exact fun _ _ _ h => h) (by rfl) ?hyx6 (by exact ⟨trivial, fun h => noTF (by kernel_rfl) h⟩) ?restx6
  case hyx6 => intro W hSW; (try dsimp only at hSW); first | (go_simp; done) | (go_simp; with_reducible rfl)
  try simp only [Act.put, List.setIfInBounds_toArray, List.set_cons_zero, List.set_cons_succ]
  refine AnyL.step (i := 9) (by kernel_rfl) (by rfl) (fun K hK => ?_)
  go_simp
  refine hK.out _ _ (by exact trivial) (by exact fun h => noTF (by kernel_rfl) h) ?_
  clear hK K
  try simp only [Act.put, List.setIfInBounds_toArray, List.set_cons_zero, List.set_cons_succ]
  refine AnyL.done (by kernel_rfl) ?_ _
  go_upto_region 2 with fail
  clear X0 X2 X3 SX y3 z3 y8 z8
  have HSE := Lib.hid HS5.out.dr
  have HKE := Lib.hid (show w.grownBy _ none from HSE.out.tl.tl.tl.hd)
  have SY := Lib.hid fun (W : World) (l : List Asrt) (h : Sep W (BxA w.heap.size #[.int .i64 s.p, .int .i64 s.k, .int .i64 s.l, .slice qa ps.length qc, .int .i64 s.now.n, .slice a1 n1 c1, .slice a2 n2 c2, .slice a3 n3 c3, .slice ra fs.length rc, .int .i64 s.goal.n, .slice b1 m1 d1, .slice b2 m2 d2, .slice b3 m3 d3] 36 :: l)) =>
    show (W.cell? ⟨w.heap.size, 4, none⟩ = some (.int .i64 s.now.n) ∧ W.cell? ⟨w.heap.size, 5, none⟩ = some (.slice a1 n1 c1) ∧ W.cell? ⟨w.heap.size, 6, none⟩ = some (.slice a2 n2 c2) ∧ W.cell? ⟨w.heap.size, 7, none⟩ = some (.slice a3 n3 c3) ∧
      W.cell? ⟨w.heap.size, 9, none⟩ = some (.int .i64 s.goal.n) ∧ W.cell? ⟨w.heap.size, 10, none⟩ = some (.slice b1 m1 d1) ∧ W.cell? ⟨w.heap.size, 11, none⟩ = some (.slice b2 m2 d2) ∧ W.cell? ⟨w.heap.size, 12, none⟩ = some (.slice b3 m3 d3)) from by
      obtain ⟨x0, x1, x2, x3, x4, x5, x6, x7, x8, x9, xa, xb, xc⟩ := bq13 h.hd
      exact ⟨x4, x5, x6, x7, x9, xa, xb, xc⟩
  have X5 := Lib.hid (SY.out _ _ HSE.out)
  refine AnyL.start (fun _ => True) (fun w' => w'.cell? ⟨w.heap.size, 4, none⟩ = some (.int .i64 s.now.n) ∧ w'.cell? ⟨w.heap.size, 5, none⟩ = some (.slice a1 n1 c1) ∧ w'.cell? ⟨w.heap.size, 6, none⟩ = some (.slice a2 n2 c2) ∧ w'.cell? ⟨w.heap.size, 7, none⟩ = some (.slice a3 n3 c3) ∧ w'.cell? ⟨w.heap.size, 9, none⟩ = some (.int .i64 s.goal.n) ∧ w'.cell? ⟨w.heap.size, 10, none⟩ = some (.slice b1 m1 d1) ∧ w'.cell? ⟨w.heap.size, 11, none⟩ = some (.slice b2 m2 d2) ∧ w'.cell? ⟨w.heap.size, 12, none⟩ = some (.slice b3 m3 d3)) 7 (by kernel_rfl) ?_
  refine AnyL.take (i := 0) (v := ?vx7) (by rfl) (by kernel_rfl) (by kernel_rfl) (by kernel_rfl) rfl (by exact fun _ _ _ h => h) (by rfl) ?hyx7 (by exact ⟨trivial, fun _ => X5.out⟩) ?restx7
  case hyx7 => intro W hSW; (try dsimp only at hSW); first | (go_simp; done) | (go_simp; with_reducible rfl)
  try simp only [Act.put, List.setIfInBounds_toArray, List.set_cons_zero, List.set_cons_succ]
  refine AnyL.takeA (i := 1) (v := ?vx8) (by rfl) (by kernel_rfl) (by kernel_rfl) (by kernel_rfl) rfl (by rfl) (by kernel_rfl) (by kernel_rfl) (by exact fun _ _ _ h => h) (by rfl) ?hyx8 (by exact ⟨trivial, fun _ => X5.out⟩) ?restx8
  case hyx8 => intro W hSW; (try dsimp only at hSW); first | (go_simp; done) | (go_simp; with_reducible rfl)
  try simp only [Act.put, List.setIfInBounds_toArray, List.set_cons_zero, List.set_cons_succ]
  refine AnyL.take (i := 3) (v := ?vx9) (by rfl) (by kernel_rfl) (by kernel_rfl) (by kernel_rfl) rfl (by exact fun _ _ _ h => h) (by rfl) ?hyx9 (by exact ⟨trivial, fun _ => X5.out⟩) ?restx9
  case hyx9 => intro W hSW; (try dsimp only at hSW); first | (go_simp; done) | (go_simp; with_reducible rfl)
  try simp only [Act.put, List.setIfInBounds_toArray, List.set_cons_zero, List.set_cons_succ]
  refine AnyL.takeA (i := 4) (v := ?vx10) (by rfl) (by kernel_rfl) (by kernel_rfl) (by kernel_rfl) rfl (by rfl) (by kernel_rfl) (by kernel_rfl) (by exact fun _ _ _ h => h) (by rfl) ?hyx10 (by exact ⟨trivial, fun _ => X5.out⟩) ?restx10
  case hyx10 => intro W hSW; (try dsimp only at hSW); first | (go_simp; done) | (go_simp; with_reducible rfl)
  try simp only [Act.put, List.setIfInBounds_toArray, List.set_cons_zero, List.set_cons_succ]
  refine AnyL.step (i := 2) (by kernel_rfl) (by rfl) (fun K hK => ?_)
  go_simp
  go_at_call 45
  with_reducible refine (HB.out _ HKE.out).mono ?_
  rintro e w6 ⟨u0, xs1, u1, u2, rfl, hxs, hsg⟩
  have HX1 := Lib.hid hxs
  obtain ⟨s0, r0, rfl⟩ := OE.shape hsg.hd
  obtain ⟨s1, r1, rfl⟩ := own_shape hsg.tl.hd
  obtain ⟨s2, r2, rfl⟩ := own_shape hsg.tl.tl.hd
  have HS6 := Lib.hid (HSE.out.graft3 hsg OE_own OI_own OI_own).toBag33
  have X6 := Lib.hid (SY.out _ _ HS6.out)
  have HK6 := Lib.hid (show w.grownBy _ none from HS6.out.tl.tl.tl.hd)
  clear hsg hxs
  refine hK.out _ _ (by exact trivial) (by exact fun _ => X6.out) ?_
  clear hK K
  try simp only [Act.put, List.setIfInBounds_toArray, List.set_cons_zero, List.set_cons_succ]
  refine AnyL.take (i := 6) (v := ?vx11) (by rfl) (by kernel_rfl) (by kernel_rfl) (by kernel_rfl) rfl (by exact fun _ _ _ h => h) (by rfl) ?hyx11 (by exact ⟨trivial, fun _ => X6.out⟩) ?restx11
  case hyx11 => intro W hSW; (try dsimp only at hSW); first | (go_simp; done) | (go_simp; with_reducible rfl)
  try simp only [Act.put, List.setIfInBounds_toArray, List.set_cons_zero, List.set_cons_succ]
  refine AnyL.step (i := 5) (by kernel_rfl) (by rfl) (fun K hK => ?_)
  go_simp
  go_at_call 45
  with_reducible refine (HD.out _ HK6.out).mono ?_
  rintro e w7 ⟨v0, xs2, v1, v2, rfl, hxs, hsg⟩
  have HX2 := Lib.hid hxs
  obtain ⟨t0, q0, rfl⟩ := OE.shape hsg.hd
  obtain ⟨t1, q1, rfl⟩ := own_shape hsg.tl.hd
  obtain ⟨t2, q2, rfl⟩ := own_shape hsg.tl.tl.hd
  have hs7 := (HS6.out.graft3 hsg OE_own OI_own OI_own).toBag33
  have X7 := Lib.hid (SY.out _ _ hs7)
  obtain ⟨_, _, _, _, y4, y5, y6, y7, _, _, _, _, _⟩ := bq13 hs7.hd
  obtain ⟨_, _, _, _, z4, z5, z6, z7, _, _, _, _, _⟩ := bf13 hs7.hd
  have hs8 := hs7 |>.k13_4 (u := .int .i64 s.now.n) |>.k13_5 (u := .slice s0 xs1.length r0) |>.k13_6 (u := .slice s1 s.now.i.length r1) |>.k13_7 (u := .slice s2 s.now.o.length r2)
  obtain ⟨_, _, _, _, _, _, _, _, _, y9, ya, yb, yc⟩ := bq13 hs8.hd
  obtain ⟨_, _, _, _, _, _, _, _, _, z9, za, zb, zc⟩ := bf13 hs8.hd
  have HS9 := Lib.hid (hs8 |>.k13_9 (u := .int .i64 s.goal.n) |>.k13_10 (u := .slice t0 xs2.length q0) |>.k13_11 (u := .slice t1 s.goal.i.length q1) |>.k13_12 (u := .slice t2 s.goal.o.length q2))
  clear hsg hxs hs7 hs8
  refine hK.out _ _ (by exact trivial) (by exact fun _ => X7.out) ?_
  clear hK K
  try simp only [Act.put, List.setIfInBounds_toArray, List.set_cons_zero, List.set_cons_succ]
  refine AnyL.step (i := 7) (by kernel_rfl) (by rfl) (fun K hK => ?_)
  go_simp
  refine hK.out _ _ (by exact trivial) (by exact fun h => noTF (by kernel_rfl) h) ?_
  clear hK K
  try simp only [Act.put, List.setIfInBounds_toArray, List.set_cons_zero, List.set_cons_succ]
  refine AnyL.take (i := 8) (v := ?vx12) (by rfl) (by kernel_rfl) (by kernel_rfl) (by kernel_rfl) rfl (by exact fun _ _ _ h => h) (by rfl) ?hyx12 (by exact ⟨trivial, fun h => noTF (by kernel_rfl) h⟩) ?restx12
  case hyx12 => intro W hSW; (try dsimp only at hSW); first | (go_simp; done) | (go_simp; with_reducible rfl)
  try simp only [Act.put, List.setIfInBounds_toArray, List.set_cons_zero, List.set_cons_succ]
  refine AnyL.step (i := 9) (by kernel_rfl) (by rfl) (fun K hK => ?_)
  go_simp
  refine hK.out _ _ (by exact trivial) (by exact fun h => noTF (by kernel_rfl) h) ?_
  clear hK K
  try simp only [Act.put, List.setIfInBounds_toArray, List.set_cons_zero, List.set_cons_succ]
  refine AnyL.done (by kernel_rfl) ?_ _
  clear X5 X6 X7 SY y4 y5 y6 y7 z4 z5 z6 z7 y9 ya yb yc z9 za zb zc
  obtain ⟨x0, x1, x2, x3, x4, x5, x6, x7, x8, x9, xa, xb, xc⟩ := bq13 HS9.out.hd
  have hs9 := HS9.out.s2
  obtain ⟨y0, y1, y2, y3, y4, y5, y6, y7, y8, y9, ya, yb, yc⟩ := bq13 hs9.hd
  obtain ⟨z0, z1, z2, z3, z4, z5, z6, z7, z8, z9, za, zb, zc⟩ := bf13 hs9.hd
  have hsf := hs9 |>.k13_0 (u := .int .i64 s.p) |>.k13_1 (u := .int .i64 s.k) |>.k13_2 (u := .int .i64 s.l) |>.k13_3 (u := .slice qa ps.length qc) |>.k13_4 (u := .int .i64 s.now.n) |>.k13_5 (u := .slice s0 xs1.length r0) |>.k13_6 (u := .slice s1 s.now.i.length r1) |>.k13_7 (u := .slice s2 s.now.o.length r2) |>.k13_8 (u := .slice ra fs.length rc) |>.k13_9 (u := .int .i64 s.goal.n) |>.k13_10 (u := .slice t0 xs2.length q0) |>.k13_11 (u := .slice t1 s.goal.i.length q1) |>.k13_12 (u := .slice t2 s.goal.o.length q2)
  obtain ⟨v00, v01, v02, v03, v04, v05, v06, v07, v08, v09, v10, v11, v12⟩ := bq13 hsf.hd
  have HSF := Lib.hid hsf.tl.tl
  clear hs9 hsf
  go_wp2_with fail
  refine bodyPost_ret_by (v := .agg #[.int .i64 s.p, .int .i64 s.k, .int .i64 s.l, .slice qa ps.length qc, .int .i64 s.now.n, .slice s0 xs1.length r0, .slice s1 s.now.i.length r1, .slice s2 s.now.o.length r2, .slice ra fs.length rc, .int .i64 s.goal.n, .slice t0 xs2.length q0, .slice t1 s.goal.i.length q1, .slice t2 s.goal.o.length q2]) ?_ rfl ⟨⟨s.p, s.k, s.l, .slice qa ps.length qc, ps, ⟨s.now.n, .slice s0 xs1.length r0, xs1, .slice s1 s.now.i.length r1, s.now.i, .slice s2 s.now.o.length r2, s.now.o⟩, .slice ra fs.length rc, fs, ⟨s.goal.n, .slice t0 xs2.length q0, xs2, .slice t1 s.goal.i.length q1, s.goal.i, .slice t2 s.goal.o.length q2, s.goal.o⟩⟩, rfl, ?_, ?_⟩
  · simp [results, go_sem, *]
  · unfold SeX.se XG.gr
    rw [HPS.out, HFS.out, HX1.out, HX2.out]
  · refine Sep.bagPerm ?_ HSF.out
    unfold partsS partsG
    exact List.Perm.append_left [_, _, _] (List.perm_middle (l₁ := [_, _, _]) (l₂ := [_]))
end Go.Proofs.YtlpgjnjhhgjkmaaDoor

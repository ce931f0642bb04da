/-
  State spaces in the laws: sized, copied, compared, marked. Conditions: lengths are small.
-/
import Derived.Test.YtghfifpicklonaaDoorYv01
import Derived.Test.YtghfifpicklonaaDoorYv00
import Derived.Deep.QuietTactic
import Derived.BigQuiet
namespace Go.Proofs.YtghfifpicklonaaDoor
open Go.RowKit
set_option linter.unusedVariables false
set_option maxRecDepth 100000

def tS (L : List (List Int)) : Nat := L.length + totS L
def totSS (s : StSp) : Nat := tS s.A + tS s.B + tS s.C + tS s.D
def okSS (s : StSp) : Prop := okS s.A ∧ okS s.B ∧ okS s.C ∧ okS s.D
theorem lft_two {left : Int} {a b : Nat} (h : ¬ lft left a < 0) : lft (lft left a) b = lft left (a + b) := by
  unfold lft at *
  by_cases h1 : left - (a : Int) < 0
  · rw [if_pos h1] at h; exact absurd (by decide) h
  · rw [if_neg h1] at h ⊢
    by_cases h2 : left - (a : Int) - b < 0
    · rw [if_pos h2, if_pos (by omega)]
    · rw [if_neg h2, if_neg (by omega)]; omega
theorem lft_neg {left : Int} {a b : Nat} (h : lft left a < 0) (hab : a ≤ b) : lft left b = -1 := by
  unfold lft at *
  by_cases h1 : left - (a : Int) < 0
  · rw [if_pos (by omega)]
  · rw [if_neg h1] at h; exact absurd h h1
theorem lft_le {left : Int} {a : Nat} (h : left ≤ 1048576) : lft left a ≤ 1048576 := by unfold lft; split <;> omega
theorem lft_eq {left : Int} {a : Nat} (h : lft left a < 0) : lft left a = -1 := lft_neg h (Nat.le_refl _)
theorem SmS.of {s : StSp} (h : totSS s ≤ 1048576) : SmS s := by
  unfold totSS tS at h
  exact ⟨⟨by omega, by omega, by omega, by omega⟩, fun r hr => by have := totS_mem hr; omega, fun r hr => by have := totS_mem hr; omega, fun r hr => by have := totS_mem hr; omega, fun r hr => by have := totS_mem hr; omega⟩
/-- Four lists of rows as one part. -/
def OX4 (av : Value) (xa : List XR) (bv : Value) (xb : List XR) (cv : Value) (xc : List XR) (dv : Value) (xd : List XR) : Asrt := Bag [OS av xa, OS bv xb, OS cv xc, OS dv xd]
theorem OX4_own {av : Value} {xa : List XR} {bv : Value} {xb : List XR} {cv : Value} {xc : List XR} {dv : Value} {xd : List XR} : ∀ k, (OX4 av xa bv xb cv xc dv xd).sees k → (OX4 av xa bv xb cv xc dv xd).foot k := by
  rintro k ⟨A, hA, hk⟩
  refine ⟨A, hA, ?_⟩
  simp only [List.mem_cons, List.not_mem_nil, or_false] at hA
  rcases hA with rfl | rfl | rfl | rfl <;> exact OS_own k hk
theorem OX4.read {w : World} {s : StSp} {av : Value} {xa : List XR} {bv : Value} {xb : List XR} {cv : Value} {xc : List XR} {dv : Value} {xd : List XR} (h : (OX4 av xa bv xb cv xc dv xd).holds w) (ha : rws xa = s.A) (hb : rws xb = s.B) (hc : rws xc = s.C) (hd : rws xd = s.D) : RdSs w s av bv cv dv := by
  have hs := show Sep w [OS av xa, OS bv xb, OS cv xc, OS dv xd] from h
  exact ⟨by rw [← ha]; exact OS.read hs.hd, by rw [← hb]; exact OS.read hs.tl.hd, by rw [← hc]; exact OS.read hs.tl.tl.hd, by rw [← hd]; exact OS.read hs.tl.tl.tl.hd⟩
set_option maxHeartbeats 4000000 in
theorem szSS_any (s : StSp) (av bv cv dv : Value) (left : Int) (w : World) (h : RdSs w s av bv cv dv) (h0 : 0 ≤ left) (h1 : left ≤ 1048576) (hok : okSS s) :
    Calls Tryd.prog 6 #[.agg #[.int .i64 s.S, .int .i64 s.I, .int .i64 s.O, av, bv, cv, dv], .int .i64 left] w fun e w' => e = .returned (.int .i64 (lft left (totSS s))) ∧ w.grownBy w' none := by
  obtain ⟨sa, ta, rfl⟩ := h.a.shape
  obtain ⟨sb, tb, rfl⟩ := h.b.shape
  obtain ⟨sc, tc, rfl⟩ := h.c.shape
  obtain ⟨sd, td, rfl⟩ := h.d.shape
  have HC1 := Lib.hid fun (l : Int) (h0 : 0 ≤ l) (h1 : l ≤ 1048576) W (hw : w.grownBy W none) => show Calls Tryd.prog 28 #[.slice sa s.A.length ta, .int .i64 l] W fun e w' => e = .returned (.int .i64 (lft l (tS s.A))) ∧ W.grownBy w' none from szIntSS_any sa s.A.length ta s.A l W (h.a.carry hw) rfl h0 h1 hok.1
  have HC2 := Lib.hid fun (l : Int) (h0 : 0 ≤ l) (h1 : l ≤ 1048576) W (hw : w.grownBy W none) => show Calls Tryd.prog 28 #[.slice sb s.B.length tb, .int .i64 l] W fun e w' => e = .returned (.int .i64 (lft l (tS s.B))) ∧ W.grownBy w' none from szIntSS_any sb s.B.length tb s.B l W (h.b.carry hw) rfl h0 h1 hok.2.1
  have HC3 := Lib.hid fun (l : Int) (h0 : 0 ≤ l) (h1 : l ≤ 1048576) W (hw : w.grownBy W none) => show Calls Tryd.prog 28 #[.slice sc s.C.length tc, .int .i64 l] W fun e w' => e = .returned (.int .i64 (lft l (tS s.C))) ∧ W.grownBy w' none from szIntSS_any sc s.C.length tc s.C l W (h.c.carry hw) rfl h0 h1 hok.2.2.1
  have HC4 := Lib.hid fun (l : Int) (h0 : 0 ≤ l) (h1 : l ≤ 1048576) W (hw : w.grownBy W none) => show Calls Tryd.prog 28 #[.slice sd s.D.length td, .int .i64 l] W fun e w' => e = .returned (.int .i64 (lft l (tS s.D))) ∧ W.grownBy w' none from szIntSS_any sd s.D.length td s.D l W (h.d.carry hw) rfl h0 h1 hok.2.2.2
  have HTOT := Lib.hid (show totSS s = tS s.A + tS s.B + tS s.C + tS s.D from rfl)
  have HS0 := Lib.hid ((Sep.start w).box #[.int .i64 s.S, .int .i64 s.I, .int .i64 s.O, .slice sa s.A.length ta, .slice sb s.B.length tb, .slice sc s.C.length tc, .slice sd s.D.length td] 24)
  have HK0 := Lib.hid (show w.grownBy _ none from HS0.out.tl.hd)
  have HL := Lib.hid h1
  clear h hok
  generalize s.A.length = nA at *
  generalize s.B.length = nB at *
  generalize s.C.length = nC at *
  generalize s.D.length = nD at *
  generalize totSS s = tt at *
  generalize tS s.A = kA at *
  generalize tS s.B = kB at *
  generalize tS s.C = kC at *
  generalize tS s.D = kD at *
  have ha1 := HC1.out left (by omega) (by omega)
  obtain ⟨l1, hl1⟩ : ∃ l, l = lft left kA := ⟨_, rfl⟩
  rw [← hl1] at ha1
  have HA1 := Lib.hid ha1
  have hle1 : l1 ≤ 1048576 := by rw [hl1]; exact lft_le (by omega)
  have HQ1 := Lib.hid (show l1 = lft left (kA) from by rw [hl1])
  clear ha1 hl1
  by_cases hn1 : l1 < 0
  · have HM := Lib.hid (show l1 = -1 from by rw [HQ1.out]; exact lft_eq (by rw [← HQ1.out]; exact hn1))
    have HE := Lib.hid (show lft left tt = l1 from by rw [HM.out]; exact lft_neg (a := kA) (by rw [← HQ1.out]; exact hn1) (by have := HTOT.out; omega))
    go_enter Tryd.func6, Tryd.ntmps6
    go_wp2_with (first
      | (go_at_call 28
         with_reducible refine (HA1.out _ HK0.out).mono ?_
         rintro e w1 ⟨rfl, hg⟩
         have hs := HS0.out.grown hg
         obtain ⟨x0, x1, x2, x3, x4, x5, x6⟩ := bq7 hs.hd
         have HS1 := Lib.hid hs
         have HK1 := Lib.hid (show w.grownBy w1 none from hs.tl.hd)
         clear hg hs))
    go_ret
    exact ⟨by rw [HE.out, HM.out]; try rfl, HK1.out⟩
  · have ha2 := HC2.out l1 (by omega) (by omega)
    obtain ⟨l2, hl2⟩ : ∃ l, l = lft l1 kB := ⟨_, rfl⟩
    rw [← hl2] at ha2
    have HA2 := Lib.hid ha2
    have hle2 : l2 ≤ 1048576 := by rw [hl2]; exact lft_le (by omega)
    have HQ2 := Lib.hid (show l2 = lft left (kA + kB) from by rw [hl2, HQ1.out, lft_two (by rw [← HQ1.out]; exact hn1)])
    clear ha2 hl2
    by_cases hn2 : l2 < 0
    · have HM := Lib.hid (show l2 = -1 from by rw [HQ2.out]; exact lft_eq (by rw [← HQ2.out]; exact hn2))
      have HE := Lib.hid (show lft left tt = l2 from by rw [HM.out]; exact lft_neg (a := kA + kB) (by rw [← HQ2.out]; exact hn2) (by have := HTOT.out; omega))
      go_enter Tryd.func6, Tryd.ntmps6
      go_wp2_with (first
        | (go_at_call 28
           with_reducible refine (HA1.out _ HK0.out).mono ?_
           rintro e w1 ⟨rfl, hg⟩
           have hs := HS0.out.grown hg
           obtain ⟨x0, x1, x2, x3, x4, x5, x6⟩ := bq7 hs.hd
           have HS1 := Lib.hid hs
           have HK1 := Lib.hid (show w.grownBy w1 none from hs.tl.hd)
           clear hg hs)
        | (go_at_call 28
           with_reducible refine (HA2.out _ HK1.out).mono ?_
           rintro e w2 ⟨rfl, hg⟩
           have hs := HS1.out.grown hg
           clear x0 x1 x2 x3 x4 x5 x6
           obtain ⟨x0, x1, x2, x3, x4, x5, x6⟩ := bq7 hs.hd
           have HS2 := Lib.hid hs
           have HK2 := Lib.hid (show w.grownBy w2 none from hs.tl.hd)
           clear hg hs))
      go_ret
      exact ⟨by rw [HE.out, HM.out]; try rfl, HK2.out⟩
    · have ha3 := HC3.out l2 (by omega) (by omega)
      obtain ⟨l3, hl3⟩ : ∃ l, l = lft l2 kC := ⟨_, rfl⟩
      rw [← hl3] at ha3
      have HA3 := Lib.hid ha3
      have hle3 : l3 ≤ 1048576 := by rw [hl3]; exact lft_le (by omega)
      have HQ3 := Lib.hid (show l3 = lft left (kA + kB + kC) from by rw [hl3, HQ2.out, lft_two (by rw [← HQ2.out]; exact hn2)])
      clear ha3 hl3
      by_cases hn3 : l3 < 0
      · have HM := Lib.hid (show l3 = -1 from by rw [HQ3.out]; exact lft_eq (by rw [← HQ3.out]; exact hn3))
        have HE := Lib.hid (show lft left tt = l3 from by rw [HM.out]; exact lft_neg (a := kA + kB + kC) (by rw [← HQ3.out]; exact hn3) (by have := HTOT.out; omega))
        go_enter Tryd.func6, Tryd.ntmps6
        go_wp2_with (first
          | (go_at_call 28
             with_reducible refine (HA1.out _ HK0.out).mono ?_
             rintro e w1 ⟨rfl, hg⟩
             have hs := HS0.out.grown hg
             obtain ⟨x0, x1, x2, x3, x4, x5, x6⟩ := bq7 hs.hd
             have HS1 := Lib.hid hs
             have HK1 := Lib.hid (show w.grownBy w1 none from hs.tl.hd)
             clear hg hs)
          | (go_at_call 28
             with_reducible refine (HA2.out _ HK1.out).mono ?_
             rintro e w2 ⟨rfl, hg⟩
             have hs := HS1.out.grown hg
             clear x0 x1 x2 x3 x4 x5 x6
             obtain ⟨x0, x1, x2, x3, x4, x5, x6⟩ := bq7 hs.hd
             have HS2 := Lib.hid hs
             have HK2 := Lib.hid (show w.grownBy w2 none from hs.tl.hd)
             clear hg hs)
          | (go_at_call 28
             with_reducible refine (HA3.out _ HK2.out).mono ?_
             rintro e w3 ⟨rfl, hg⟩
             have hs := HS2.out.grown hg
             clear x0 x1 x2 x3 x4 x5 x6
             obtain ⟨x0, x1, x2, x3, x4, x5, x6⟩ := bq7 hs.hd
             have HS3 := Lib.hid hs
             have HK3 := Lib.hid (show w.grownBy w3 none from hs.tl.hd)
             clear hg hs))
        go_ret
        exact ⟨by rw [HE.out, HM.out]; try rfl, HK3.out⟩
      · have ha4 := HC4.out l3 (by omega) (by omega)
        obtain ⟨l4, hl4⟩ : ∃ l, l = lft l3 kD := ⟨_, rfl⟩
        rw [← hl4] at ha4
        have HA4 := Lib.hid ha4
        have hle4 : l4 ≤ 1048576 := by rw [hl4]; exact lft_le (by omega)
        have HQ4 := Lib.hid (show l4 = lft left (kA + kB + kC + kD) from by rw [hl4, HQ3.out, lft_two (by rw [← HQ3.out]; exact hn3)])
        clear ha4 hl4
        by_cases hn4 : l4 < 0
        · have HE := Lib.hid (show lft left tt = l4 from by rw [HQ4.out, HTOT.out])
          have HM := Lib.hid (show l4 = -1 from by rw [HQ4.out]; exact lft_eq (by rw [← HQ4.out]; exact hn4))
          go_enter Tryd.func6, Tryd.ntmps6
          go_wp2_with (first
            | (go_at_call 28
               with_reducible refine (HA1.out _ HK0.out).mono ?_
               rintro e w1 ⟨rfl, hg⟩
               have hs := HS0.out.grown hg
               obtain ⟨x0, x1, x2, x3, x4, x5, x6⟩ := bq7 hs.hd
               have HS1 := Lib.hid hs
               have HK1 := Lib.hid (show w.grownBy w1 none from hs.tl.hd)
               clear hg hs)
            | (go_at_call 28
               with_reducible refine (HA2.out _ HK1.out).mono ?_
               rintro e w2 ⟨rfl, hg⟩
               have hs := HS1.out.grown hg
               clear x0 x1 x2 x3 x4 x5 x6
               obtain ⟨x0, x1, x2, x3, x4, x5, x6⟩ := bq7 hs.hd
               have HS2 := Lib.hid hs
               have HK2 := Lib.hid (show w.grownBy w2 none from hs.tl.hd)
               clear hg hs)
            | (go_at_call 28
               with_reducible refine (HA3.out _ HK2.out).mono ?_
               rintro e w3 ⟨rfl, hg⟩
               have hs := HS2.out.grown hg
               clear x0 x1 x2 x3 x4 x5 x6
               obtain ⟨x0, x1, x2, x3, x4, x5, x6⟩ := bq7 hs.hd
               have HS3 := Lib.hid hs
               have HK3 := Lib.hid (show w.grownBy w3 none from hs.tl.hd)
               clear hg hs)
            | (go_at_call 28
               with_reducible refine (HA4.out _ HK3.out).mono ?_
               rintro e w4 ⟨rfl, hg⟩
               have hs := HS3.out.grown hg
               clear x0 x1 x2 x3 x4 x5 x6
               obtain ⟨x0, x1, x2, x3, x4, x5, x6⟩ := bq7 hs.hd
               have HS4 := Lib.hid hs
               have HK4 := Lib.hid (show w.grownBy w4 none from hs.tl.hd)
               clear hg hs))
          go_ret
          exact ⟨by rw [HE.out, HM.out]; try rfl, HK4.out⟩
        · have HE := Lib.hid (show lft left tt = l4 from by rw [HQ4.out, HTOT.out])
          go_enter Tryd.func6, Tryd.ntmps6
          go_wp2_with (first
            | (go_at_call 28
               with_reducible refine (HA1.out _ HK0.out).mono ?_
               rintro e w1 ⟨rfl, hg⟩
               have hs := HS0.out.grown hg
               obtain ⟨x0, x1, x2, x3, x4, x5, x6⟩ := bq7 hs.hd
               have HS1 := Lib.hid hs
               have HK1 := Lib.hid (show w.grownBy w1 none from hs.tl.hd)
               clear hg hs)
            | (go_at_call 28
               with_reducible refine (HA2.out _ HK1.out).mono ?_
               rintro e w2 ⟨rfl, hg⟩
               have hs := HS1.out.grown hg
               clear x0 x1 x2 x3 x4 x5 x6
               obtain ⟨x0, x1, x2, x3, x4, x5, x6⟩ := bq7 hs.hd
               have HS2 := Lib.hid hs
               have HK2 := Lib.hid (show w.grownBy w2 none from hs.tl.hd)
               clear hg hs)
            | (go_at_call 28
               with_reducible refine (HA3.out _ HK2.out).mono ?_
               rintro e w3 ⟨rfl, hg⟩
               have hs := HS2.out.grown hg
               clear x0 x1 x2 x3 x4 x5 x6
               obtain ⟨x0, x1, x2, x3, x4, x5, x6⟩ := bq7 hs.hd
               have HS3 := Lib.hid hs
               have HK3 := Lib.hid (show w.grownBy w3 none from hs.tl.hd)
               clear hg hs)
            | (go_at_call 28
               with_reducible refine (HA4.out _ HK3.out).mono ?_
               rintro e w4 ⟨rfl, hg⟩
               have hs := HS3.out.grown hg
               clear x0 x1 x2 x3 x4 x5 x6
               obtain ⟨x0, x1, x2, x3, x4, x5, x6⟩ := bq7 hs.hd
               have HS4 := Lib.hid hs
               have HK4 := Lib.hid (show w.grownBy w4 none from hs.tl.hd)
               clear hg hs))
          go_ret
          exact ⟨by rw [HE.out]; try rfl, HK4.out⟩
/-- What hands back a state space of its own. -/
def GivesS (s : StSp) (w : World) (e : Ending) (w' : World) : Prop :=
  ∃ (sa sb sc sd : Option Addr) (ta tb tc td : Nat) (xa xb xc xd : List XR), e = .returned (.agg #[.int .i64 s.S, .int .i64 s.I, .int .i64 s.O, .slice sa s.A.length ta, .slice sb s.B.length tb, .slice sc s.C.length tc, .slice sd s.D.length td]) ∧ rws xa = s.A ∧ rws xb = s.B ∧ rws xc = s.C ∧ rws xd = s.D ∧ Sep w' [OX4 (.slice sa s.A.length ta) xa (.slice sb s.B.length tb) xb (.slice sc s.C.length tc) xc (.slice sd s.D.length td) xd, KeepA w]
set_option maxHeartbeats 4000000 in
theorem toSS_any (s : StSp) (av bv cv dv : Value) (w : World) (h : RdSs w s av bv cv dv) (hs : SmS s) :
    Calls Tryd.prog 8 #[.agg #[.int .i64 s.S, .int .i64 s.I, .int .i64 s.O, av, bv, cv, dv]] w (GivesS s w) := by
  have HTA := Lib.hid fun W (hw : w.grownBy W none) => toIntSS_any _ s.A W (h.a.carry hw) (by have := hs.l; omega) (fun r hr => by have := hs.a r hr; omega)
  have HTB := Lib.hid fun W (hw : w.grownBy W none) => toIntSS_any _ s.B W (h.b.carry hw) (by have := hs.l; omega) (fun r hr => by have := hs.b r hr; omega)
  have HTC := Lib.hid fun W (hw : w.grownBy W none) => toIntSS_any _ s.C W (h.c.carry hw) (by have := hs.l; omega) (fun r hr => by have := hs.c r hr; omega)
  have HTD := Lib.hid fun W (hw : w.grownBy W none) => toIntSS_any _ s.D W (h.d.carry hw) (by have := hs.l; omega) (fun r hr => by have := hs.d r hr; omega)
  unfold GivesS OwnS at *
  obtain ⟨sa, ta, rfl⟩ := h.a.shape
  obtain ⟨sb, tb, rfl⟩ := h.b.shape
  obtain ⟨sc, tc, rfl⟩ := h.c.shape
  obtain ⟨sd, td, rfl⟩ := h.d.shape
  have HS0 := Lib.hid ((((Sep.start w).box #[.int .i64 s.S, .int .i64 s.I, .int .i64 s.O, .slice sa s.A.length ta, .slice sb s.B.length tb, .slice sc s.C.length tc, .slice sd s.D.length td] 24).boxAt (w.heap.size + 1) (by simp) #[.int .i64 0, .int .i64 0, .int .i64 0, .slice none 0 0, .slice none 0 0, .slice none 0 0, .slice none 0 0] 32).boxAt (w.heap.size + 1 + 1) (by simp) #[.int .i64 s.S, .int .i64 s.I, .int .i64 s.O, .slice none 0 0, .slice none 0 0, .slice none 0 0, .slice none 0 0] 32)
  have HK0 := Lib.hid (show w.grownBy _ none from HS0.out.tl.tl.tl.hd)
  clear h hs
  obtain ⟨sS, sI, sO, sA, sB, sC, sD⟩ := s
  simp only at *
  generalize sA.length = nA at *
  generalize sB.length = nB at *
  generalize sC.length = nC at *
  generalize sD.length = nD at *
  go_enter Tryd.func8, Tryd.ntmps8
  go_wp2_with (first
    | (go_at_call 32
       go_loud (
       with_reducible refine (HTA.out _ HK0.out).mono ?_
       rintro e v1 ⟨ga, ca, xa, rfl, hx, hsg⟩
       have HXA := Lib.hid hx
       have hs1 := Sep.blk (A := [_]) (B := [_]) (HS0.out.graft1 hsg OS_own)
       obtain ⟨x0, x1, x2, x3, x4, x5, x6⟩ := bq7 hs1.hd
       obtain ⟨y0, y1, y2, y3, y4, y5, y6⟩ := bf7 hs1.hd
       have hs2 := hs1.setB 3 (.slice ga nA ca)
       obtain ⟨z0, z1, z2, z3, z4, z5, z6⟩ := bq7 hs2.tl.tl.tl.hd
       have HS1 := Lib.hid hs2
       have HK1 := Lib.hid (show w.grownBy _ none from hs2.tl.tl.tl.tl.hd)
       clear hx hsg hs1 hs2))
    | (go_at_call 32
       go_loud (
       with_reducible refine (HTB.out _ HK1.out).mono ?_
       rintro e v2 ⟨gb, cb, xb, rfl, hx, hsg⟩
       have HXB := Lib.hid hx
       have hs1 := Sep.blk (A := [_]) (B := [_]) (HS1.out.graft1 hsg OS_own)
       obtain ⟨x0, x1, x2, x3, x4, x5, x6⟩ := bq7 hs1.hd
       obtain ⟨y0, y1, y2, y3, y4, y5, y6⟩ := bf7 hs1.hd
       have hs2 := hs1.setB 4 (.slice gb nB cb)
       obtain ⟨z0, z1, z2, z3, z4, z5, z6⟩ := bq7 hs2.tl.tl.tl.tl.hd
       have HS2 := Lib.hid hs2
       have HK2 := Lib.hid (show w.grownBy _ none from hs2.tl.tl.tl.tl.tl.hd)
       clear hx hsg hs1 hs2))
    | (go_at_call 32
       go_loud (
       with_reducible refine (HTC.out _ HK2.out).mono ?_
       rintro e v3 ⟨gc, cc, xc, rfl, hx, hsg⟩
       have HXC := Lib.hid hx
       have hs1 := Sep.blk (A := [_]) (B := [_]) (HS2.out.graft1 hsg OS_own)
       obtain ⟨x0, x1, x2, x3, x4, x5, x6⟩ := bq7 hs1.hd
       obtain ⟨y0, y1, y2, y3, y4, y5, y6⟩ := bf7 hs1.hd
       have hs2 := hs1.setB 5 (.slice gc nC cc)
       obtain ⟨z0, z1, z2, z3, z4, z5, z6⟩ := bq7 hs2.tl.tl.tl.tl.tl.hd
       have HS3 := Lib.hid hs2
       have HK3 := Lib.hid (show w.grownBy _ none from hs2.tl.tl.tl.tl.tl.tl.hd)
       clear hx hsg hs1 hs2))
    | (go_at_call 32
       go_loud (
       with_reducible refine (HTD.out _ HK3.out).mono ?_
       rintro e v4 ⟨gd, cd, xd, rfl, hx, hsg⟩
       have HXD := Lib.hid hx
       have hs1 := Sep.blk (A := [_]) (B := [_]) (HS3.out.graft1 hsg OS_own)
       obtain ⟨x0, x1, x2, x3, x4, x5, x6⟩ := bq7 hs1.hd
       obtain ⟨y0, y1, y2, y3, y4, y5, y6⟩ := bf7 hs1.hd
       have hs2 := hs1.setB 6 (.slice gd nD cd)
       obtain ⟨z0, z1, z2, z3, z4, z5, z6⟩ := bq7 hs2.hd
       have hs3 := Sep.blk (A := [_, _, _, _, _]) (B := [_]) hs2
       obtain ⟨r0, r1, r2, r3, r4, r5, r6⟩ := bq7 hs3.hd
       obtain ⟨q0, q1, q2, q3, q4, q5, q6⟩ := bf7 hs3.hd
       have hs4 := (((((((hs3.setB 0 (.int .i64 sS)).setB 1 (.int .i64 sI)).setB 2 (.int .i64 sO)).setB 3 (.slice ga nA ca)).setB 4 (.slice gb nB cb)).setB 5 (.slice gc nC cc)).setB 6 (.slice gd nD cd))
       obtain ⟨k0, k1, k2, k3, k4, k5, k6⟩ := bq7 hs4.hd
       have hs5 := Sep.cutA (X := [_, _, _, _]) (A := [_]) (r := [KeepA w]) hs4.tl.tl
       have HSF := Lib.hid (Sep.bag (l := [_, _, _, _]) (show Sep _ [OS (.slice ga nA ca) xa, OS (.slice gb nB cb) xb, OS (.slice gc nC cc) xc, OS (.slice gd nD cd) xd, KeepA w] from Sep.perm (List.Perm.append_right [KeepA w] (List.reverse_perm [OS (.slice ga nA ca) xa, OS (.slice gb nB cb) xb, OS (.slice gc nC cc) xc, OS (.slice gd nD cd) xd])) hs5))
       clear hx hsg hs1 hs2 hs3 hs4 hs5)))
  refine bodyPost_ret_by (v := .agg #[.int .i64 sS, .int .i64 sI, .int .i64 sO, .slice ga nA ca, .slice gb nB cb, .slice gc nC cc, .slice gd nD cd]) ?_ rfl ⟨_, _, _, _, _, _, _, _, xa, xb, xc, xd, rfl, HXA.out, HXB.out, HXC.out, HXD.out, HSF.out⟩
  simp [results, go_sem, *]
set_option maxHeartbeats 4000000 in
theorem eqSS_same (s : StSp) (av bv cv dv av' bv' cv' dv' : Value) (w : World) (h : RdSs w s av bv cv dv) (h' : RdSs w s av' bv' cv' dv') (hs : SmS s) :
    Calls Tryd.prog 11 #[.agg #[.int .i64 s.S, .int .i64 s.I, .int .i64 s.O, av, bv, cv, dv], .agg #[.int .i64 s.S, .int .i64 s.I, .int .i64 s.O, av', bv', cv', dv']] w fun e w' => e = .returned (.bool true) ∧ w.grownBy w' none := by
  have HEA := Lib.hid fun W (hw : w.grownBy W none) => eqIntSS_same _ _ s.A W (h.a.carry hw) (h'.a.carry hw) (by have := hs.l; omega) (fun r hr => by have := hs.a r hr; omega)
  have HEB := Lib.hid fun W (hw : w.grownBy W none) => eqIntSS_same _ _ s.B W (h.b.carry hw) (h'.b.carry hw) (by have := hs.l; omega) (fun r hr => by have := hs.b r hr; omega)
  have HEC := Lib.hid fun W (hw : w.grownBy W none) => eqIntSS_same _ _ s.C W (h.c.carry hw) (h'.c.carry hw) (by have := hs.l; omega) (fun r hr => by have := hs.c r hr; omega)
  have HED := Lib.hid fun W (hw : w.grownBy W none) => eqIntSS_same _ _ s.D W (h.d.carry hw) (h'.d.carry hw) (by have := hs.l; omega) (fun r hr => by have := hs.d r hr; omega)
  obtain ⟨sa, ta, rfl⟩ := h.a.shape
  obtain ⟨sb, tb, rfl⟩ := h.b.shape
  obtain ⟨sc, tc, rfl⟩ := h.c.shape
  obtain ⟨sd, td, rfl⟩ := h.d.shape
  obtain ⟨sa1, ta1, rfl⟩ := h'.a.shape
  obtain ⟨sb1, tb1, rfl⟩ := h'.b.shape
  obtain ⟨sc1, tc1, rfl⟩ := h'.c.shape
  obtain ⟨sd1, td1, rfl⟩ := h'.d.shape
  have hs0 := ((Sep.start w).box #[.int .i64 s.S, .int .i64 s.I, .int .i64 s.O, .slice sa s.A.length ta, .slice sb s.B.length tb, .slice sc s.C.length tc, .slice sd s.D.length td] 32).boxAt (w.heap.size + 1) (by simp) #[.int .i64 s.S, .int .i64 s.I, .int .i64 s.O, .slice sa1 s.A.length ta1, .slice sb1 s.B.length tb1, .slice sc1 s.C.length tc1, .slice sd1 s.D.length td1] 32
  have HS0 := Lib.hid hs0
  have HK0 := Lib.hid (show w.grownBy _ none from hs0.tl.tl.hd)
  obtain ⟨x0, x1, x2, x3, x4, x5, x6⟩ := bq7 hs0.hd
  obtain ⟨y0, y1, y2, y3, y4, y5, y6⟩ := bq7 hs0.tl.hd
  clear h h' hs hs0
  generalize s.A.length = nA at *
  generalize s.B.length = nB at *
  generalize s.C.length = nC at *
  generalize s.D.length = nD at *
  have e1 : (s.S != s.S) = false := by simp
  have e2 : (s.I != s.I) = false := by simp
  have e3 : (s.O != s.O) = false := by simp
  go_enter Tryd.func11, Tryd.ntmps11
  go_wp2_with (first
    | (go_at_call 38
       with_reducible refine (HEA.out _ HK0.out).mono ?_
       rintro e w1 ⟨rfl, hg⟩
       have hs := HS0.out.grown hg
       clear x0 x1 x2 x3 x4 x5 x6 y0 y1 y2 y3 y4 y5 y6
       obtain ⟨x0, x1, x2, x3, x4, x5, x6⟩ := bq7 hs.hd
       obtain ⟨y0, y1, y2, y3, y4, y5, y6⟩ := bq7 hs.tl.hd
       have HS1 := Lib.hid hs
       have HK1 := Lib.hid (show w.grownBy w1 none from hs.tl.tl.hd)
       clear hg hs)
    | (go_at_call 38
       with_reducible refine (HEB.out _ HK1.out).mono ?_
       rintro e w2 ⟨rfl, hg⟩
       have hs := HS1.out.grown hg
       clear x0 x1 x2 x3 x4 x5 x6 y0 y1 y2 y3 y4 y5 y6
       obtain ⟨x0, x1, x2, x3, x4, x5, x6⟩ := bq7 hs.hd
       obtain ⟨y0, y1, y2, y3, y4, y5, y6⟩ := bq7 hs.tl.hd
       have HS2 := Lib.hid hs
       have HK2 := Lib.hid (show w.grownBy w2 none from hs.tl.tl.hd)
       clear hg hs)
    | (go_at_call 38
       with_reducible refine (HEC.out _ HK2.out).mono ?_
       rintro e w3 ⟨rfl, hg⟩
       have hs := HS2.out.grown hg
       clear x0 x1 x2 x3 x4 x5 x6 y0 y1 y2 y3 y4 y5 y6
       obtain ⟨x0, x1, x2, x3, x4, x5, x6⟩ := bq7 hs.hd
       obtain ⟨y0, y1, y2, y3, y4, y5, y6⟩ := bq7 hs.tl.hd
       have HS3 := Lib.hid hs
       have HK3 := Lib.hid (show w.grownBy w3 none from hs.tl.tl.hd)
       clear hg hs)
    | (go_at_call 38
       with_reducible refine (HED.out _ HK3.out).mono ?_
       rintro e w4 ⟨rfl, hg⟩
       have hs := HS3.out.grown hg
       clear x0 x1 x2 x3 x4 x5 x6 y0 y1 y2 y3 y4 y5 y6
       obtain ⟨x0, x1, x2, x3, x4, x5, x6⟩ := bq7 hs.hd
       obtain ⟨y0, y1, y2, y3, y4, y5, y6⟩ := bq7 hs.tl.hd
       have HS4 := Lib.hid hs
       have HK4 := Lib.hid (show w.grownBy w4 none from hs.tl.tl.hd)
       clear hg hs))
  go_ret
  exact ⟨rfl, HK4.out⟩
/-- What marking hands back, as far as it matters. -/
def MarkR (b : Int) (l : List Asrt) (e : Ending) (w' : World) : Prop := ∃ r : Int, e = .returned (.int .i64 r) ∧ 0 ≤ r ∧ r ≤ b ∧ Sep w' l
set_option maxHeartbeats 4000000 in
theorem markSS_any (s : StSp) (sa sb sc sd : Option Addr) (ta tb tc td : Nat) (xa xb xc xd : List XR) (k : Int) (w : World) (l : List Asrt) (hs : Sep w (OX4 (.slice sa s.A.length ta) xa (.slice sb s.B.length tb) xb (.slice sc s.C.length tc) xc (.slice sd s.D.length td) xd :: l)) (ha : rws xa = s.A) (hb : rws xb = s.B) (hc : rws xc = s.C) (hd : rws xd = s.D) (ht : totSS s ≤ 1048576) (h0 : 0 ≤ k) (h1 : k ≤ 10000000) :
    Calls Tryd.prog 12 #[.agg #[.int .i64 s.S, .int .i64 s.I, .int .i64 s.O, .slice sa s.A.length ta, .slice sb s.B.length tb, .slice sc s.C.length tc, .slice sd s.D.length td], .int .i64 k] w (MarkR (k + 3000000) l) := by
  unfold totSS tS at ht
  have lA : s.A.length = xa.length := by rw [← ha, rws_len]
  have uA : totS (rws xa) ≤ 1048576 := by rw [ha]; omega
  have lB : s.B.length = xb.length := by rw [← hb, rws_len]
  have uB : totS (rws xb) ≤ 1048576 := by rw [hb]; omega
  have lC : s.C.length = xc.length := by rw [← hc, rws_len]
  have uC : totS (rws xc) ≤ 1048576 := by rw [hc]; omega
  have lD : s.D.length = xd.length := by rw [← hd, rws_len]
  have uD : totS (rws xd) ≤ 1048576 := by rw [hd]; omega
  obtain ⟨k1, e1⟩ : ∃ q, q = k + (totS (rws xa) : Int) := ⟨_, rfl⟩
  have HM1 := Lib.hid fun W l (h : Sep W (OS (.slice sa s.A.length ta) xa :: l)) => markIntSS_any sa s.A.length ta xa k W l h lA (by omega) (by omega) (by omega) (by omega)
  rw [← e1] at HM1
  obtain ⟨k2, e2⟩ : ∃ q, q = k1 + (totS (rws xb) : Int) := ⟨_, rfl⟩
  have HM2 := Lib.hid fun W l (h : Sep W (OS (.slice sb s.B.length tb) xb :: l)) => markIntSS_any sb s.B.length tb xb k1 W l h lB (by omega) (by omega) (by omega) (by omega)
  rw [← e2] at HM2
  obtain ⟨k3, e3⟩ : ∃ q, q = k2 + (totS (rws xc) : Int) := ⟨_, rfl⟩
  have HM3 := Lib.hid fun W l (h : Sep W (OS (.slice sc s.C.length tc) xc :: l)) => markIntSS_any sc s.C.length tc xc k2 W l h lC (by omega) (by omega) (by omega) (by omega)
  rw [← e3] at HM3
  obtain ⟨k4, e4⟩ : ∃ q, q = k3 + (totS (rws xd) : Int) := ⟨_, rfl⟩
  have HM4 := Lib.hid fun W l (h : Sep W (OS (.slice sd s.D.length td) xd :: l)) => markIntSS_any sd s.D.length td xd k3 W l h lD (by omega) (by omega) (by omega) (by omega)
  rw [← e4] at HM4
  have HB := Lib.hid (show 0 ≤ k4 ∧ k4 ≤ k + 3000000 from ⟨by omega, by have := ha; rw [ha] at e1; rw [hb] at e2; rw [hc] at e3; rw [hd] at e4; omega⟩)
  have hs0 := (Sep.unbag (l := [_, _, _, _]) hs).box #[.int .i64 s.S, .int .i64 s.I, .int .i64 s.O, .slice sa s.A.length ta, .slice sb s.B.length tb, .slice sc s.C.length tc, .slice sd s.D.length td] 32
  have HS0 := Lib.hid (Sep.blk (A := [_]) (B := [_, _, _, _]) hs0)
  clear hs hs0 ht ha hb hc hd e1 e2 e3 e4 uA uB uC uD lA lB lC lD
  generalize s.A.length = nA at *
  generalize s.B.length = nB at *
  generalize s.C.length = nC at *
  generalize s.D.length = nD at *
  go_enter Tryd.func12, Tryd.ntmps12
  go_wp2_with (first
    | (go_at_call 39
       with_reducible refine (HM1.out _ _ HS0.out).mono ?_
       rintro e w1 ⟨rfl, hs⟩
       have hs2 := hs.tl
       obtain ⟨x0, x1, x2, x3, x4, x5, x6⟩ := bq7 hs2.tl.tl.tl.hd
       have HS1 := Lib.hid hs2
       clear hs hs2)
    | (go_at_call 39
       with_reducible refine (HM2.out _ _ HS1.out).mono ?_
       rintro e w2 ⟨rfl, hs⟩
       clear x0 x1 x2 x3 x4 x5 x6
       have hs2 := hs.tl
       obtain ⟨x0, x1, x2, x3, x4, x5, x6⟩ := bq7 hs2.tl.tl.hd
       have HS2 := Lib.hid hs2
       clear hs hs2)
    | (go_at_call 39
       with_reducible refine (HM3.out _ _ HS2.out).mono ?_
       rintro e w3 ⟨rfl, hs⟩
       clear x0 x1 x2 x3 x4 x5 x6
       have hs2 := hs.tl
       obtain ⟨x0, x1, x2, x3, x4, x5, x6⟩ := bq7 hs2.tl.hd
       have HS3 := Lib.hid hs2
       clear hs hs2)
    | (go_at_call 39
       with_reducible refine (HM4.out _ _ HS3.out).mono ?_
       rintro e w4 ⟨rfl, hs⟩
       clear x0 x1 x2 x3 x4 x5 x6
       have hs2 := hs.tl
       obtain ⟨x0, x1, x2, x3, x4, x5, x6⟩ := bq7 hs2.hd
       have HS4 := Lib.hid hs2
       clear hs hs2))
  go_ret
  exact ⟨k4, rfl, HB.out.1, HB.out.2, HS4.out.tl⟩
end Go.Proofs.YtghfifpicklonaaDoor

/-
  Which edges each edge needs, in the program. Conditions: at most 60 edges of at most two wires a side.
-/
namespace Go.Proofs.YtghfifpicklonaaDoor
open Go.RowKit
set_option linter.unusedVariables false
set_option maxRecDepth 100000

def needTo (es : List Ed) (i k : Nat) : List Int := ((List.range k).filter (needB es i)).map fun (j : Nat) => (j : Int)
def needL (es : List Ed) (i : Nat) : List Int := needTo es i es.length
theorem needTo_yes {es : List Ed} {i k : Nat} (h : needB es i k = true) : needTo es i (k + 1) = needTo es i k ++ [(k : Int)] := by
  unfold needTo
  rw [List.range_succ, List.filter_append, List.map_append]
  simp [h]
theorem needTo_no {es : List Ed} {i k : Nat} (h : needB es i k = false) : needTo es i (k + 1) = needTo es i k := by
  unfold needTo
  rw [List.range_succ, List.filter_append]
  simp [h]
theorem needTo_len (es : List Ed) (i k : Nat) : (needTo es i k).length ≤ k := by
  unfold needTo
  rw [List.length_map]
  have := List.length_filter_le (needB es i) (List.range k)
  rw [List.length_range] at this
  exact this
theorem rows_set {A R : List XR} {x y : XR} {i : Nat} (h : A.length = i) : (A ++ x :: R).set i y = A ++ y :: R := by
  rw [List.set_append_right _ _ (by omega), show i - A.length = 0 by omega]
  rfl
theorem rows_mid {A R : List XR} {x : XR} {i : Nat} (h : A.length = i) : (A ++ x :: R).getD i xr0 = x := by
  rw [List.getD_eq_getElem?_getD, List.getElem?_append_right (by omega), show i - A.length = 0 by omega]
  rfl
set_option maxHeartbeats 8000000 in
theorem gneeds_any (n : Int) (ev iv ov : Value) (es : List Ed) (is os : List Int) (w : World) (he : RdE edgeE w ev es) (hi : IntsV w iv is) (ho : IntsV w ov os) (hm : es.length ≤ 60) (hr : ∀ e ∈ es, e.i.length ≤ 2 ∧ e.o.length ≤ 2) :
    Calls Tryd.prog 138 #[grV n ev iv ov] w (OwnS ((List.range es.length).map (needL es)) w) := by
  obtain ⟨i0, hi0, hz0, hz1, hz2⟩ := info_parts info_row
  have HI := Lib.hid hi0; have HZ0 := Lib.hid hz0; have HZ1 := Lib.hid hz1; have HZ2 := Lib.hid hz2
  have HE := Lib.hid he; have HR := Lib.hid hr
  unfold grV OwnS
  obtain ⟨ea, ec, rfl⟩ := he.shape
  obtain ⟨ia, ic, rfl⟩ := hi.shape
  obtain ⟨oa, oc, rfl⟩ := ho.shape
  rw [List.length_map, List.length_range]
  generalize is.length = m1 at *
  generalize os.length = m2 at *
  generalize hes : es.length = m at *
  have HM := Lib.hid hes
  have HLD := Lib.hid fun i => (show needL es i = needTo es i m from by unfold needL; rw [hes])
  clear he hi ho hr hi0 hz0 hz1 hz2 hes
  have HS0 := Lib.hid ((Sep.start w).boxAt w.heap.size rfl #[.int .i64 n, .slice ea m ec, .slice ia m1 ic, .slice oa m2 oc] 56)
  go_enter Tryd.func138, Tryd.ntmps138
  go_wp2_with (
    at_make
    refine wpList_make_full _ rfl _ _ 22 rfl _ 27 i0 _ 1 Tryd.underlying22 HI.out HZ0.out HZ1.out _ _ _ _ m rfl rfl rfl rfl (by rw [HZ2.out]; omega) (by unfold maxLen; omega) (Nat.le_refl _) ?_
    intro w1 hown' hgr'
    have hs0 := (HS0.out.newR hgr' (OwnR.made zeroRow_cells hown'))
    obtain ⟨x0, x1, x2, x3, _⟩ := bq4 hs0.tl.hd
    have HS1 := Lib.hid hs0
    clear hs0 hown' hgr')
  go_loopw [4, 5, 6, 7, 15] (fun _ _ _ _ i wr => ∃ (k : Nat) (A : List XR), k ≤ m ∧ i = .int .i64 k ∧ A.length = k ∧ rws A = (List.range k).map (needL es) ∧ Sep wr [OR rowE (.slice (some ⟨w.heap.size + 1, 0, none⟩) m m) (A ++ List.replicate (m - k) xr0), Bag (rowsS A), BxA w.heap.size #[.int .i64 n, .slice ea m ec, .slice ia m1 ic, .slice oa m2 oc] 56, KeepA w]) (fun _ _ _ _ i _ => m - (intOf i).toNat)
  case atStart => exact ⟨0, [], by omega, rfl, rfl, rfl, by simpa [rowsS] using (Sep.bag (l := []) HS1.out).s2⟩
  case round =>
    obtain ⟨k, A, hk, rfl, hA, hrw, hs⟩ := hrel
    have HSX := Lib.hid hs; have HA := Lib.hid hA; have HRW := Lib.hid hrw
    clear hs hA hrw HS1 x0 x1 x2 x3
    by_cases hlt : k < m
    · have hke : k < es.length := by rw [HM.out]; exact hlt
      have hgr := HSX.out.tl.tl.tl.hd
      obtain ⟨x0, x1, x2, x3, _⟩ := bq4 HSX.out.tl.tl.hd
      obtain ⟨eb, eo, u1, u2, rfl, hat⟩ := HE.out.atK rfl rfl hke
      obtain ⟨⟨q0, q1, q2, q3⟩, hi, ho⟩ := hat wr hgr
      have HN := Lib.hid fun j => (show needB es k j = meetB (es.getD k e0).i (es.getD j e0).o from rfl)
      have HRY := Lib.hid (HR.out _ (esMem hke))
      generalize es.getD k e0 = y at *
      obtain ⟨yk, yv, yi, yo⟩ := y
      simp only at q0 q1 q2 q3 hi ho HN HRY
      obtain ⟨s1, r1, rfl⟩ := hi.shape
      obtain ⟨s2, r2, rfl⟩ := ho.shape
      have HYI := Lib.hid fun W (hW : w.grownBy W none) => (hat W hW).2.1
      have hs0 := HSX.out
      rw [show m - k = (m - (k + 1)) + 1 by omega, List.replicate_succ] at hs0
      have HS2 := Lib.hid (Sep.blk (A := [_, _]) (B := [_, _]) (hs0.boxAt wr.heap.size rfl #[.int .i64 yk, .int .i64 yv, .slice s1 yi.length r1, .slice s2 yo.length r2] 84).nilI)
      have hyl : yi.length ≤ 2 := HRY.out.1
      generalize hyi : yi.length = n1 at *
      have HYL := Lib.hid hyi
      generalize yo.length = n2 at *
      clear hi ho hat hke hgr hs0 hyi
      obtain ⟨z0, z1, z2, z3, _⟩ := bq4 HS2.out.tl.tl.tl.tl.hd
      go_wp2_with fail
      clear q0 q1 q2 q3 x0 x1 x2 x3 z0 z1 z2 z3
      have HS2' := HS2.out
      clear HS2 HSX
      generalize wr.heap.size = xb at *
      have HS2 := Lib.hid HS2'
      clear HS2'
      go_loopw [6, 7, 23] (fun _ _ i wq => ∃ (j : Nat) (cur : XR), j ≤ m ∧ i = .int .i64 j ∧ cur.zs = needTo es k j ∧ Sep wq [OR rowE (.slice (some ⟨w.heap.size + 1, 0, none⟩) m m) (A ++ cur :: List.replicate (m - (k + 1)) xr0), Bag (rowsS A), OI cur.v cur.zs, BxA xb #[.int .i64 yk, .int .i64 yv, .slice s1 n1 r1, .slice s2 n2 r2] 84, BxA w.heap.size #[.int .i64 n, .slice (some ⟨eb, eo, none⟩) m ec, .slice ia m1 ic, .slice oa m2 oc] 56, KeepA w]) (fun _ _ i _ => m - (intOf i).toNat)
      case atStart => exact ⟨0, xr0, by omega, rfl, rfl, HS2.out⟩
      case round =>
        obtain ⟨j, cur, hj, rfl, hcz, hs⟩ := hrel
        have HSQ := Lib.hid hs; have HCZ := Lib.hid hcz
        clear hs hcz HS2
        by_cases hjt : j < m
        · have hje : j < es.length := by rw [HM.out]; exact hjt
          have hgq := HSQ.out.tl.tl.tl.tl.tl.hd
          obtain ⟨fb, fo, v1, v2, hfe, hatf⟩ := HE.out.atK rfl rfl hje
          injection hfe with hfe
          injection hfe with hfb hfo _
          subst hfb hfo
          obtain ⟨⟨q0, q1, q2, q3⟩, hi, ho⟩ := hatf wr hgq
          obtain ⟨y0, y1, y2, y3, _⟩ := bq4 HSQ.out.tl.tl.tl.hd
          obtain ⟨x0, x1, x2, x3, _⟩ := bq4 HSQ.out.tl.tl.tl.tl.hd
          have HNJ := Lib.hid (HN.out j)
          have HFY := Lib.hid (HR.out _ (esMem hje))
          generalize es.getD j e0 = f at *
          obtain ⟨fk, fv, fi, fo2⟩ := f
          simp only at q0 q1 q2 q3 hi ho HNJ HFY
          obtain ⟨s3, r3, rfl⟩ := hi.shape
          obtain ⟨s4, r4, rfl⟩ := ho.shape
          have hs3 := HSQ.out.boxAt wr.heap.size rfl #[.int .i64 fk, .int .i64 fv, .slice s3 fi.length r3, .slice s4 fo2.length r4] 84
          obtain ⟨z0, z1, z2, z3, _⟩ := bq4 hs3.hd
          obtain ⟨t0, t1, t2, t3, _⟩ := bq4 hs3.tl.tl.tl.tl.hd
          have hz3 := World.block_lt_of_cell? _ _ z3
          have hal := grownBy_alloc wr (.cells #[.int .i64 fk, .int .i64 fv, .slice s3 fi.length r3, .slice s4 fo2.length r4] 84) none
          have HCF := Lib.hid (containsFunc_any 158 #[.pointer (some ⟨wr.heap.size, 0, none⟩)] (enters_of Tryd.func158 (by kernel_rfl) rfl) yi (fun x => decide (x ∈ fo2)) _ _ (HYI.out _ (hgq.trans hal)) (by have := HYL.out; omega) (fun W' x hx hg' => needs1_any x wr.heap.size (.int .i64 0) (.int .i64 0) nilS (.slice s4 fo2.length r4) fo2 W' ((World.cell?_of_block (a := ⟨wr.heap.size, 3, none⟩) (hg'.block _ hz3 (by simp))).trans z3) ((ho.carry hal).carry hg') (by have := HFY.out.2; omega)))
          have HS3 := Lib.hid hs3.tl
          clear hs3 hz3 hal hi ho hatf hje hgq HFY
          unfold meetB at HNJ
          generalize (yi.any fun x => decide (x ∈ fo2)) = b at *
          generalize fi.length = n3 at *
          generalize fo2.length = n4 at *
          cases b
          · have HT := Lib.hid (show cur.zs = needTo es k (j + 1) from by rw [needTo_no HNJ.out]; exact HCZ.out)
            go_wp2_with (
              go_at_call 142
              with_reducible refine HCF.out.mono ?_
              rintro e w3 ⟨rfl, hg⟩
              have HS4 := Lib.hid (HS3.out.grown hg)
              clear hg)
            go_roundw
            case rel => exact ⟨j + 1, cur, by omega, by go_num, HT.out, HS4.out⟩
            case measure => simp [intOf]; omega
          · have HT := Lib.hid (show cur.zs ++ [(j : Int)] = needTo es k (j + 1) from by rw [needTo_yes HNJ.out, HCZ.out])
            have HLZ := Lib.hid (show cur.zs.length ≤ 60 from by rw [HCZ.out]; have := needTo_len es k j; omega)
            obtain ⟨cv, cz⟩ := cur
            simp only at HT HLZ HS3
            have HAK := Lib.hid (show k < (A ++ (⟨cv, cz⟩ : XR) :: List.replicate (m - (k + 1)) xr0).length from by rw [List.length_append, HA.out]; simp)
            have HAM := Lib.hid (show m = (A ++ (⟨cv, cz⟩ : XR) :: List.replicate (m - (k + 1)) xr0).length from by rw [List.length_append, HA.out, List.length_cons, List.length_replicate]; omega)
            have HAG := Lib.hid (rows_mid (R := List.replicate (m - (k + 1)) xr0) (x := ⟨cv, cz⟩) HA.out)
            have HAS := Lib.hid fun y => rows_set (R := List.replicate (m - (k + 1)) xr0) (x := ⟨cv, cz⟩) (y := y) HA.out
            go_wp2_with (first
              | (go_at_call 142
                 with_reducible refine HCF.out.mono ?_
                 rintro e w3 ⟨rfl, hg⟩
                 have hs4 := HS3.out.grown hg
                 have d0 := row_cell (show OwnR rowE 0 w3 _ _ from hs4.hd) HAM.out HAK.out
                 rw [HAG.out] at d0
                 have HS4 := Lib.hid (Sep.blk (A := [_, _]) (B := [_]) hs4)
                 clear hg hs4)
              | (at_builtin
                 go_loud (
                 refine app_intS rfl _ _ rfl rfl rfl HS4.out (by have := HLZ.out; omega) ?_
                 intro g5 c5 w5 h5
                 have hs5 := Sep.blk (A := [_]) (B := [_, _]) h5
                 have d1 := row_cell (show OwnR rowE 0 w5 _ _ from hs5.hd) HAM.out HAK.out
                 have f1 := (show OwnR rowE 0 w5 _ _ from hs5.hd).free HAM.out k
                 have hs6 := hs5.setW HAM.out HAK.out ⟨.slice (some ⟨g5, 0, none⟩) (cz.length + 1) c5, cz ++ [(j : Int)]⟩
                 rw [HAS.out] at hs6
                 have HS6 := Lib.hid hs6
                 clear h5 hs5 hs6)))
            go_roundw
            case rel => exact ⟨j + 1, ⟨.slice (some ⟨g5, 0, none⟩) (cz.length + 1) c5, cz ++ [(j : Int)]⟩, by omega, by go_num, HT.out, HS6.out⟩
            case measure => simp [intOf]; omega
        · have hjm : j = m := by omega
          subst hjm
          have HT := Lib.hid (show cur.zs = needL es k from by rw [HLD.out]; exact HCZ.out)
          have hs3 := HSQ.out
          have e1 : A ++ cur :: List.replicate (j - (k + 1)) xr0 = (A ++ [cur]) ++ List.replicate (j - (k + 1)) xr0 := by simp
          rw [e1] at hs3
          have hs4 := Sep.bagOne (L := rowsS A) (X := OR rowE _ _) (A := OI cur.v cur.zs) (Sep.perm (by exact List.Perm.cons _ (List.Perm.swap _ _ _)) hs3)
          rw [← rowsS_snoc] at hs4
          have HS5 := Lib.hid (Sep.cutA (X := [_, _]) (A := [_]) hs4)
          have HR2 := Lib.hid (show rws (A ++ [cur]) = (List.range (k + 1)).map (needL es) from by
            have := HRW.out
            unfold rws at this ⊢
            rw [List.map_append, this, List.range_succ, List.map_append]
            simp [HT.out])
          clear hs3 hs4 e1
          go_wp2_with fail
          go_roundw
          case rel => exact ⟨k + 1, A ++ [cur], by omega, by go_num, by rw [List.length_append, HA.out]; rfl, HR2.out, HS5.out⟩
          case measure => simp [intOf]; omega
    · have hkm : k = m := by omega
      subst hkm
      have hs := HSX.out
      rw [Nat.sub_self, List.replicate_zero, List.append_nil] at hs
      have HF := Lib.hid (Sep.cutA (X := [_]) (A := [_]) (Sep.intoBag hs))
      clear hs hlt
      go_wp2
      go_ret
      exact ⟨_, _, A, rfl, HRW.out, HF.out⟩
end Go.Proofs.YtghfifpicklonaaDoor

/-
  The order of edges, in the program. Conditions: at most 60 edges of at most two wires a side.
-/
namespace Go.Proofs.YtghfifpicklonaaDoor
open Go.RowKit
set_option linter.unusedVariables false
set_option maxRecDepth 100000

def outI (O : List Nat) : List Int := O.map fun x : Nat => (x : Int)
theorem outI_mem {O : List Nat} {k : Nat} : (k : Int) ∈ outI O ↔ k ∈ O := by
  unfold outI
  constructor
  · intro h
    obtain ⟨y, hy, he⟩ := List.mem_map.1 h
    have : y = k := by omega
    exact this ▸ hy
  · intro h
    exact List.mem_map.2 ⟨k, h, rfl⟩
theorem el11_any (k m lb g : Nat) (L : List Bool) (w : World) (hc : w.cell? ⟨lb, 0, none⟩ = some (.slice (some ⟨g, 0, none⟩) m m)) (hb : OwnR boolE 0 w (.slice (some ⟨g, 0, none⟩) m m) L) (hL : m = L.length) (hk : k < m) :
    Calls Tryd.prog 143 #[.int .i64 k, .pointer (some ⟨lb, 0, none⟩)] w fun e w' => e = .returned (.bool (!L.getD k false)) ∧ w = w' := by
  have h1 := bool_cell hb hL hk
  have hki : (k : Int) < (m : Int) := by omega
  clear hb hL
  generalize L.getD k false = x at *
  go_enter Tryd.func143, Tryd.ntmps143
  go_wp2_with fail
  go_ret
  exact ⟨rfl, rfl⟩
set_option maxHeartbeats 4000000 in
theorem el1_any (i m lb g nb : Nat) (na : Option Addr) (nc : Nat) (L : List Bool) (xs : List XR) (zs : List Int) (w : World) (l : List Asrt) (hs : Sep w (OR boolE (.slice (some ⟨g, 0, none⟩) m m) L :: BxA lb #[.slice (some ⟨g, 0, none⟩) m m] 160 :: BxA nb #[.slice na m nc] 22 :: OS (.slice na m nc) xs :: l))
    (hL : m = L.length) (hi : i < m) (hx : (rws xs).length = m) (hz : (rws xs).getD i [] = zs) (hzr : ∀ x ∈ zs, 0 ≤ x ∧ x < (m : Int)) (hm : m ≤ 60) (hzl : zs.length ≤ 60) :
    Calls Tryd.prog 141 #[.int .i64 i, .pointer (some ⟨lb, 0, none⟩), .pointer (some ⟨nb, 0, none⟩)] w fun e w' => e = .returned (.bool (!L.getD i false && !zs.any fun x => !L.getD x.toNat false)) ∧ w.grownBy w' none := by
  obtain ⟨x0, _⟩ := bx1 hs.tl.hd
  obtain ⟨y0, _⟩ := bx1 hs.tl.tl.hd
  have h1 := bool_cell (show OwnR boolE 0 w _ L from hs.hd) hL hi
  obtain ⟨b, o, rv, rfl, _, q0, hrv⟩ := (OS.read hs.tl.tl.tl.hd).at (show i < (rws xs).length by omega)
  rw [hz] at hrv
  have HC := Lib.hid (containsFunc_any 143 #[.pointer (some ⟨lb, 0, none⟩)] (enters_of Tryd.func143 (by kernel_rfl) rfl) zs (fun x => !L.getD x.toNat false) _ w hrv (by omega) (fun W' x hx hg' => by
    obtain ⟨b0, b1⟩ := hzr x hx
    obtain ⟨k, rfl⟩ := Int.eq_ofNat_of_zero_le b0
    have hs' := hs.grown hg'
    refine (el11_any k m lb g L W' (bx1 hs'.tl.hd).1 (show OwnR boolE 0 W' _ L from hs'.hd) hL (by omega)).mono ?_
    rintro e w' ⟨rfl, rfl⟩
    exact ⟨rfl, grownBy_refl _ _⟩))
  obtain ⟨s1, r1, rfl⟩ := hrv.shape
  have hki : (i : Int) < (m : Int) := by omega
  clear hs hx hz hzr hrv hL
  generalize (zs.any fun x => !L.getD x.toNat false) = b at *
  generalize L.getD i false = li at *
  generalize zs.length = zl at *
  cases li
  · go_enter Tryd.func141, Tryd.ntmps141
    go_wp2_with (
      go_at_call 142
      with_reducible refine HC.out.mono ?_
      rintro e w3 ⟨rfl, hg⟩
      have HG := Lib.hid hg
      clear hg)
    go_ret
    exact ⟨rfl, HG.out⟩
  · go_enter Tryd.func141, Tryd.ntmps141
    go_wp2_with fail
    go_ret
    exact ⟨rfl, grownBy_refl _ _⟩
theorem need_all (es : List Ed) (O : List Nat) {i : Nat} (hi : i < es.length) : (!(seenL es.length (outI O)).getD i false && !(needL es i).any fun x => !(seenL es.length (outI O)).getD x.toNat false) = freeB es O i := by
  unfold freeB
  rw [seen_at hi, show decide ((i : Int) ∈ outI O) = decide (i ∈ O) from decide_eq_decide.2 outI_mem]
  refine congrArg (fun q => !decide (i ∈ O) && q) ?_
  rw [Bool.eq_iff_iff]
  simp only [Bool.not_eq_true', List.any_eq_false, List.all_eq_true, List.mem_range, Bool.or_eq_true, decide_eq_true_iff]
  constructor
  · intro h k hk
    cases hn : needB es i k
    · exact Or.inl rfl
    · refine Or.inr ?_
      have hm : (k : Int) ∈ needL es i := by
        unfold needL needTo
        exact List.mem_map.2 ⟨k, List.mem_filter.2 ⟨List.mem_range.2 hk, hn⟩, rfl⟩
      have := h _ hm
      rw [show ((k : Int)).toNat = k from rfl, seen_at hk] at this
      exact outI_mem.1 (of_decide_eq_true (by simpa using this))
  · intro h x hx
    unfold needL needTo at hx
    obtain ⟨k, hk, rfl⟩ := List.mem_map.1 hx
    obtain ⟨hk1, hk2⟩ := List.mem_filter.1 hk
    have hk1 := List.mem_range.1 hk1
    rw [show ((k : Int)).toNat = k from rfl, seen_at hk1]
    rcases h k hk1 with h2 | h2
    · rw [hk2] at h2; cases h2
    · simpa using outI_mem.2 h2
theorem idx_nextO {es : List Ed} {O : List Nat} {m : Nat} (hm : es.length = m) {φ : Int → Bool} (hφ : ∀ i : Nat, i < m → φ i = freeB es O i) : idxR φ (upL m) = match nextO es O with
    | some i => (i : Int)
    | none => -1 := by
  subst hm
  cases h : nextO es O with
  | none =>
    refine idxR_none fun j hj => ?_
    rw [upL_len] at hj
    rw [upL_at hj, hφ j hj]
    have := List.find?_eq_none.1 h j (List.mem_range.2 hj)
    simpa using this
  | some i =>
    obtain ⟨h2, _, _⟩ := next_some h
    have h1 := List.find?_some h
    obtain ⟨_, la, lb, h3, h4⟩ := List.find?_eq_some_iff_append.1 h
    refine idxR_some (by rw [upL_len]; exact h2) (by rw [upL_at h2, hφ i h2]; exact h1) fun j hj => ?_
    rw [upL_at (Nat.lt_trans hj h2), hφ j (Nat.lt_trans hj h2)]
    have e2 : la.length = i := by
      have h5 : (List.range es.length)[la.length]? = some i := by rw [h3]; simp
      have h6 : la.length < es.length := by
        have := congrArg List.length h3
        simp at this
        omega
      rw [List.getElem?_range h6] at h5
      injection h5
    have hja : j ∈ la := by
      have h7 : (List.range es.length)[j]? = some j := List.getElem?_range (Nat.lt_trans hj h2)
      rw [h3, List.getElem?_append_left (by omega)] at h7
      exact List.mem_of_getElem? h7
    have := h4 j hja
    simpa using this
end Go.Proofs.YtghfifpicklonaaDoor

/-
  The order of edges, in the program, whole. Conditions: at most 60 edges of at most two wires a side.
-/
namespace Go.Proofs.YtghfifpicklonaaDoor
open Go.RowKit
set_option linter.unusedVariables false
set_option maxRecDepth 100000

theorem outI_len (O : List Nat) : (outI O).length = O.length := by simp [outI]
theorem needL_rng {es : List Ed} {i : Nat} : (∀ x ∈ needL es i, 0 ≤ x ∧ x < (es.length : Int)) ∧ (needL es i).length ≤ es.length := by
  refine ⟨fun x hx => ?_, needTo_len es i es.length⟩
  unfold needL needTo at hx
  obtain ⟨k, hk, rfl⟩ := List.mem_map.1 hx
  have := List.mem_range.1 (List.mem_filter.1 hk).1
  omega
set_option maxHeartbeats 8000000 in
theorem edgeOrder_any (n : Int) (ev iv ov : Value) (es : List Ed) (is os : List Int) (w : World) (he : RdE edgeE w ev es) (hi : IntsV w iv is) (ho : IntsV w ov os) (hm : es.length ≤ 60) (hr : ∀ e ∈ es, e.i.length ≤ 2 ∧ e.o.length ≤ 2) :
    Calls Tryd.prog 107 #[grV n ev iv ov] w fun e w' => (∃ a c, e = .returned (.slice a (runO es es.length).length c)) ∧ w.grownBy w' none := by
  obtain ⟨i0, hbi, hz0, hz1, hz2⟩ := info_parts info_bool
  have HBI := Lib.hid hbi; have HZ0 := Lib.hid hz0; have HZ1 := Lib.hid hz1; have HZ2 := Lib.hid hz2
  have HND := Lib.hid fun W (hw : w.grownBy W none) => gneeds_any n ev iv ov es is os W (he.carry hw) (hi.carry hw) (ho.carry hw) hm hr
  unfold grV OwnS at *
  obtain ⟨ea, ec, rfl⟩ := he.shape
  obtain ⟨ia, ic, rfl⟩ := hi.shape
  obtain ⟨oa, oc, rfl⟩ := ho.shape
  rw [List.length_map, List.length_range] at HND
  have HUP := Lib.hid fun W => upTo_any es.length W (by omega)
  obtain ⟨m, hes⟩ : ∃ m, es.length = m := ⟨_, rfl⟩
  have HM := Lib.hid hes
  rw [hes] at HND HUP hm ⊢
  generalize is.length = m1 at *
  generalize os.length = m2 at *
  clear he hi ho hr hbi hz0 hz1 hz2 hes
  have hs0 := (Sep.start w).boxAt w.heap.size rfl #[.int .i64 n, .slice ea m ec, .slice ia m1 ic, .slice oa m2 oc] 56
  have HS0 := Lib.hid hs0
  have HK0 := Lib.hid (show w.grownBy _ none from hs0.tl.hd)
  clear hs0
  go_enter Tryd.func107, Tryd.ntmps107
  go_wp2_with (first
    | (go_at_call 138
       with_reducible refine (HND.out _ HK0.out).mono ?_
       rintro e w1 ⟨na, nc, xs, rfl, hx, hsg⟩
       have HX := Lib.hid hx
       have hs1 := (HS0.out.graft1 hsg OS_own).boxAt w1.heap.size rfl #[.slice na m nc] 22
       obtain ⟨y0, _⟩ := bx1 hs1.hd
       have HS1 := Lib.hid hs1
       clear hx hsg hs1)
    | (at_make
       go_loud (
       refine wpList_make_full _ rfl _ _ 160 rfl (w1.alloc (.cells #[.slice na m nc] 22)).heap.size 4 i0 _ 1 Tryd.underlying160 HBI.out HZ0.out HZ1.out _ _ _ _ m rfl rfl rfl rfl (by rw [HZ2.out]; omega) (by unfold maxLen; omega) (Nat.le_refl _) ?_
       intro w2 hown' hgr'
       have hs2 := HS1.out.newR hgr' (OwnR.made (E := boolE) falseCells hown')
       have hs3 := hs2.boxAt w2.heap.size rfl #[.slice (some ⟨(w1.alloc (.cells #[.slice na m nc] 22)).heap.size, 0, none⟩) m m] 160
       have HS3 := Lib.hid hs3
       clear hs2 hs3 hown' hgr' y0)))
  have hs3 := HS3.out.s2
  clear HS3 HS1 HS0 HK0 HND
  have hlr : List.replicate m false = seenL m (outI (runO es 0)) := (seen_nil m).symm
  rw [hlr] at hs3
  rw [show (w1.alloc (.cells #[.slice na m nc] 22)).heap.size = w1.heap.size + 1 by simp] at hs3
  generalize w1.heap.size = nb at *
  obtain ⟨lg, hlg⟩ : ∃ lg, nb + 1 = lg := ⟨_, rfl⟩
  rw [hlg] at hs3
  have hs4 := hs3.emptyI
  rw [show (w2.alloc (.cells #[.slice (some ⟨lg, 0, none⟩) m m] 160)).heap.size = w2.heap.size + 1 by simp] at hs4
  obtain ⟨lb, hlb⟩ : ∃ lb, w2.heap.size = lb := ⟨_, rfl⟩
  rw [hlb] at hs4
  have HS4 := Lib.hid hs4
  clear hs3 hs4 hlr
  go_wp2_with fail
  try rw [hlg]
  try rw [hlb]
  go_loopw [5] (fun ov wr => ∃ (j : Nat) (oa2 : Option Addr) (oc2 : Nat), ov = .slice oa2 j oc2 ∧ (runO es j).length = j ∧ j ≤ m ∧ Sep wr [OI ov (outI (runO es j)), OR boolE (.slice (some ⟨lg, 0, none⟩) m m) (seenL m (outI (runO es j))), BxA lb #[.slice (some ⟨lg, 0, none⟩) m m] 160, BxA nb #[.slice na m nc] 22, OS (.slice na m nc) xs, BxA w.heap.size #[.int .i64 n, .slice ea m ec, .slice ia m1 ic, .slice oa m2 oc] 56, KeepA w]) (fun ov _ => m - sliceLen ov)
  case atStart => exact ⟨0, _, _, rfl, rfl, by omega, HS4.out⟩
  case round =>
    obtain ⟨j, oa2, oc2, rfl, hjl, hjm, hs⟩ := hrel
    have HS := Lib.hid hs; have HJL := Lib.hid hjl
    obtain ⟨x0, _⟩ := bx1 hs.tl.tl.hd
    obtain ⟨y0, _⟩ := bx1 hs.tl.tl.tl.hd
    clear hs hjl HS4
    by_cases hlt : j < m
    · have hji : (j : Int) < (m : Int) := by omega
      have HIF := Lib.hid fun W v (hW : wr.grownBy W none) (hv : IntsV W v (upL m)) => indexFunc_any 141 #[.pointer (some ⟨lb, 0, none⟩), .pointer (some ⟨nb, 0, none⟩)] (enters_of Tryd.func141 (by kernel_rfl) rfl) (upL m) (fun x => freeB es (runO es j) x.toNat) v W hv (by rw [upL_len]; omega) (fun W' x hx hg' => by
        obtain ⟨i, hi, rfl⟩ := List.mem_map.1 hx
        have hi : i < m := by simpa using hi
        have hgw := grownBy_trans hW hg'
        have hs' := HS.out.tl.grown hgw
        have hnr := @needL_rng es i
        rw [HM.out] at hnr
        have h := el1_any i m lb lg nb na nc (seenL m (outI (runO es j))) xs (needL es i) W' _ hs' (by rw [seen_len]) hi (by rw [HX.out, List.length_map, List.length_range]) (by
          rw [HX.out, List.getD_eq_getElem?_getD, List.getElem?_map, List.getElem?_range hi]; rfl) hnr.1 hm (by have := hnr.2; omega)
        have e := need_all es (runO es j) (i := i) (by rw [HM.out]; exact hi)
        rw [HM.out] at e
        rw [e] at h
        exact h)
      rw [idx_nextO HM.out (O := runO es j) (fun i hi => rfl)] at HIF
      cases hnx : nextO es (runO es j) with
      | none =>
        rw [hnx] at HIF
        have HE := Lib.hid (show (runO es m).length = j from by
          have := run_stop hnx (m - j)
          rw [show j + (m - j) = m by omega] at this
          rw [this]; exact HJL.out)
        clear hnx
        go_wp2_with (first
          | (go_at_call 140
             with_reducible refine (HUP.out _).mono ?_
             rintro e w2 ⟨g, c', rfl, hsu⟩
             have HU := Lib.hid hsu
             have HKU := Lib.hid (show wr.grownBy w2 none from hsu.tl.hd)
             have HIU := Lib.hid (show IntsV w2 _ _ from (show OwnInts 0 w2 _ _ from hsu.hd).read)
             clear hsu)
          | (go_at_call 139
             with_reducible refine (HIF.out _ _ HKU.out HIU.out).mono ?_
             rintro e w3 ⟨rfl, hg3⟩
             have HG3 := Lib.hid (grownBy_trans HKU.out hg3)
             clear hg3))
        go_ret
        exact ⟨⟨oa2, oc2, by rw [HE.out]; try rfl⟩, (HS.out.grown HG3.out).tl.tl.tl.tl.tl.tl.hd⟩
      | some i =>
        rw [hnx] at HIF
        obtain ⟨hi1, hi2, _⟩ := next_some hnx
        have him : i < m := by rw [← HM.out]; exact hi1
        have HRS := Lib.hid (run_succ hnx)
        have HSN := Lib.hid ((seen_new (P := outI (runO es j)) him (fun h => hi2 (outI_mem.1 h))).1)
        have hii : (i : Int) < (m : Int) := by omega
        have hi0 : ¬ (i : Int) < 0 := by omega
        clear hnx hi1 hi2
        go_upto_region 9 with (first
          | (go_at_call 140
             with_reducible refine (HUP.out _).mono ?_
             rintro e w2 ⟨g, c', rfl, hsu⟩
             have HU := Lib.hid hsu
             have HKU := Lib.hid (show wr.grownBy w2 none from hsu.tl.hd)
             have HIU := Lib.hid (show IntsV w2 _ _ from (show OwnInts 0 w2 _ _ from hsu.hd).read)
             clear hsu)
          | (go_at_call 139
             with_reducible refine (HIF.out _ _ HKU.out HIU.out).mono ?_
             rintro e w3 ⟨rfl, hg3⟩
             have hs3 := (HS.out.grown (grownBy_trans HKU.out hg3)).s2
             obtain ⟨z0, _⟩ := bx1 hs3.tl.tl.hd
             have c0 := bool_cell (show OwnR boolE 0 w3 _ _ from hs3.hd) (by rw [seen_len]) him
             have f0 := bool_free (show OwnR boolE 0 w3 _ _ from hs3.hd) (by rw [seen_len]) i
             have hs4 := hs3.setBo (by rw [seen_len]) him true
             rw [← HSN.out] at hs4
             have HS4 := Lib.hid hs4.s2
             clear hg3 hs3 hs4))
        generalize w3.setCell ⟨lg, i, none⟩ (.bool true) = w4 at *
        go_wp2_with (
             at_builtin
             go_loud (
             refine app_intS rfl _ _ rfl rfl rfl HS4.out (by rw [outI_len, HJL.out]; omega) ?_
             intro g5 c5 w5 h5
             rw [outI_len, HJL.out] at h5 ⊢
             have HS5 := Lib.hid h5
             clear h5))
        go_roundw
        case rel => exact ⟨j + 1, _, _, rfl, by rw [HRS.out, List.length_append, HJL.out]; rfl, by omega, by
          have := HS5.out
          rw [HRS.out, show outI (runO es j ++ [i]) = outI (runO es j) ++ [(i : Int)] from by simp [outI]]
          exact this⟩
        case measure =>
          show m - (j + 1) < m - j
          omega
    · have hjm2 : m = j := by omega
      subst hjm2
      have hjj : ¬ (m : Int) < (m : Int) := by omega
      go_wp2_with fail
      go_ret
      exact ⟨⟨oa2, oc2, by rw [HJL.out]; try rfl⟩, HS.out.tl.tl.tl.tl.tl.tl.hd⟩
end Go.Proofs.YtghfifpicklonaaDoor

/-
  Does a graph lead back only by delays, in the program. Conditions: at most 60 edges of at most two wires a side.
-/
namespace Go.Proofs.YtghfifpicklonaaDoor
open Go.RowKit
set_option linter.unusedVariables false
set_option maxRecDepth 100000

theorem nd_step {es : List Ed} {j : Nat} (h : j < es.length) : ndE (es.take (j + 1)) = ndE (es.take j) ++ if (es.getD j e0).k = 8 then [] else [es.getD j e0] := by
  unfold ndE
  rw [List.take_succ_eq_append_getElem h, List.filter_append, List.getD_eq_getElem?_getD, List.getElem?_eq_getElem h]
  simp only [Option.getD_some]
  by_cases h8 : es[j].k = 8 <;> simp [h8]
theorem edge_oneC (e : Ed) (a1 : Option Addr) (n1 c1 : Nat) (a2 : Option Addr) (n2 c2 : Nat) : ∀ u ∈ edgeE.cs ⟨e, .slice a1 n1 c1, .slice a2 n2 c2⟩, u.oneCell' = true := by
  intro u hu
  simp only [edgeE, edgeC, List.mem_cons, List.not_mem_nil, or_false] at hu
  rcases hu with rfl | rfl | rfl | rfl <;> rfl
theorem nd_len (es : List Ed) : (ndE es).length ≤ es.length := List.length_filter_le _ _
theorem nd_mem {es : List Ed} {e : Ed} (h : e ∈ ndE es) : e ∈ es := (List.mem_filter.1 h).1
/-- A list of edges whose rows lie elsewhere can be read. -/
theorem OR.rde {w : World} {v : Value} {xs : List XE} {es : List Ed} (h : (OR edgeE v xs).holds w) (he : eds xs = es) (hr : ∀ x ∈ xs, IntsV w x.iv x.ed.i ∧ IntsV w x.ov x.ed.o) : RdE edgeE w v es := ⟨xs, he, OwnR.read (show OwnR edgeE 0 w v xs from h), hr⟩
set_option maxHeartbeats 8000000 in
theorem leadsBack_any (n : Int) (ev iv ov : Value) (es : List Ed) (is os : List Int) (w : World) (he : RdE edgeE w ev es) (hi : IntsV w iv is) (ho : IntsV w ov os) (hm : es.length ≤ 60) (hr : ∀ e ∈ es, e.i.length ≤ 2 ∧ e.o.length ≤ 2) :
    Calls Tryd.prog 61 #[grV n ev iv ov] w fun e w' => e = .returned (.bool (acyB (ndE es))) ∧ w.grownBy w' none := by
  have HE := Lib.hid he; have HR := Lib.hid hr; have HII := Lib.hid hi; have HOO := Lib.hid ho
  unfold grV
  obtain ⟨b, hb⟩ : ∃ b, acyB (ndE es) = b := ⟨_, rfl⟩
  rw [hb]
  have HB := Lib.hid hb
  clear hb
  obtain ⟨ea, ec, rfl⟩ := he.shape
  obtain ⟨ia, ic, rfl⟩ := hi.shape
  obtain ⟨oa, oc, rfl⟩ := ho.shape
  generalize hes : es.length = m at *
  have HM := Lib.hid hes
  generalize hm1 : is.length = m1 at *
  generalize hm2 : os.length = m2 at *
  clear he hi ho hr hes hm1 hm2
  have hs0 := ((Sep.start w).boxAt w.heap.size rfl #[.int .i64 n, .slice ea m ec, .slice ia m1 ic, .slice oa m2 oc] 56).boxAt (w.heap.size + 1) (by simp) #[.int .i64 n, .slice none 0 0, .slice none 0 0, .slice none 0 0] 56
  obtain ⟨x0, x1, x2, x3, _⟩ := bq4 hs0.tl.hd
  have HS0 := Lib.hid (Sep.blk (A := [_]) (B := [_]) (Sep.nilR edgeE hs0))
  clear hs0
  go_enter Tryd.func61, Tryd.ntmps61
  go_wp2_with fail
  clear x0 x1 x2 x3
  go_loopw [5, 12] (fun _ i wr => ∃ (j : Nat) (cv : Value) (xs : List XE), j ≤ m ∧ i = .int .i64 j ∧ eds xs = ndE (es.take j) ∧ (∀ W, w.grownBy W none → ∀ x ∈ xs, IntsV W x.iv x.ed.i ∧ IntsV W x.ov x.ed.o) ∧ Sep wr [BxA (w.heap.size + 1) #[.int .i64 n, cv, .slice none 0 0, .slice none 0 0] 56, OR edgeE cv xs, BxA w.heap.size #[.int .i64 n, .slice ea m ec, .slice ia m1 ic, .slice oa m2 oc] 56, KeepA w]) (fun _ i _ => m - (intOf i).toNat)
  case atStart => exact ⟨0, _, [], by omega, rfl, rfl, (fun W hW x hx => by cases hx), HS0.out⟩
  case round =>
    obtain ⟨j, cv, xs, hj, rfl, hxe, hxr, hs⟩ := hrel
    obtain ⟨ca, cc, rfl⟩ := OwnR.shape (show OwnR edgeE 0 wr cv xs from hs.tl.hd)
    have HSX := Lib.hid hs; have HXE := Lib.hid hxe; have HXR := Lib.hid hxr
    clear hs hxe hxr HS0
    by_cases hlt : j < m
    · have hke : j < es.length := by rw [HM.out]; exact hlt
      have hgr := HSX.out.tl.tl.tl.hd
      obtain ⟨eb, eo, u1, u2, rfl, hat⟩ := HE.out.atK rfl rfl hke
      obtain ⟨⟨q0, q1, q2, q3⟩, hi, ho⟩ := hat wr hgr
      have HND := Lib.hid (nd_step hke)
      generalize es.getD j e0 = y at *
      obtain ⟨yk, yv, yi, yo⟩ := y
      simp only at q0 q1 q2 q3 hi ho HND
      obtain ⟨s1, r1, rfl⟩ := hi.shape
      obtain ⟨s2, r2, rfl⟩ := ho.shape
      have HYR := Lib.hid fun W (hW : w.grownBy W none) => (hat W hW).2
      simp only at HYR
      generalize hn1 : yi.length = n1 at *
      generalize hn2 : yo.length = n2 at *
      have hs2 := HSX.out.boxAt wr.heap.size rfl #[.int .i64 yk, .int .i64 yv, .slice s1 n1 r1, .slice s2 n2 r2] 84
      obtain ⟨z0, z1, z2, z3, _⟩ := bq4 hs2.hd
      obtain ⟨x0, x1, x2, x3, _⟩ := bq4 hs2.tl.hd
      have HS2 := Lib.hid (Sep.blk (A := [_, _]) (B := [_]) hs2)
      have hxl : xs.length ≤ 60 := by
        have h1 : (eds xs).length = (ndE (es.take j)).length := by rw [HXE.out]
        have h2 := nd_len (es.take j)
        rw [List.length_take] at h2
        unfold eds at h1
        rw [List.length_map] at h1
        omega
      clear hi ho hat hke hgr hs2
      by_cases h8 : yk = 8
      · have hne : (yk != 8) = false := by rw [h8]; rfl
        have HN := Lib.hid (show eds xs = ndE (es.take (j + 1)) from by rw [HND.out, if_pos h8, List.append_nil]; exact HXE.out)
        clear h8
        have HS3 := Lib.hid (Sep.cutA (X := [_, _]) (A := [_]) (Sep.blk (A := [_, _]) (B := [_]) HS2.out))
        go_wp2_with fail
        go_roundw
        case rel => exact ⟨j + 1, _, xs, by omega, by go_num, HN.out, HXR.out, HS3.out⟩
        case measure => simp [intOf]; omega
      · have hne : (yk != 8) = true := by rw [bne_iff_ne]; exact h8
        have HN := Lib.hid (show eds (xs ++ [⟨⟨yk, yv, yi, yo⟩, .slice s1 n1 r1, .slice s2 n2 r2⟩]) = ndE (es.take (j + 1)) from by rw [HND.out, if_neg h8, ← HXE.out]; unfold eds; rw [List.map_append]; rfl)
        have HNR := Lib.hid (show ∀ W, w.grownBy W none → ∀ x ∈ xs ++ [(⟨⟨yk, yv, yi, yo⟩, .slice s1 n1 r1, .slice s2 n2 r2⟩ : XE)], IntsV W x.iv x.ed.i ∧ IntsV W x.ov x.ed.o from fun W hW x hx => by
          rcases List.mem_append.1 hx with hx | hx
          · exact HXR.out W hW x hx
          · rw [List.mem_singleton.1 hx]; exact HYR.out W hW)
        clear h8
        have HLX := Lib.hid hxl
        go_upto_region 6 with fail
        generalize wr.alloc (.cells #[.int .i64 yk, .int .i64 yv, .slice s1 n1 r1, .slice s2 n2 r2] 84) = w2 at *
        go_wp2_with (
          at_builtin
          go_loud (
          refine app_R (E := edgeE) (y := ⟨⟨yk, yv, yi, yo⟩, .slice s1 n1 r1, .slice s2 n2 r2⟩) info_edge rfl (by decide) Tryd.underlying54 (edge_oneC _ _ _ _ _ _ _) rfl (.tmp 20) (.tmp 22) rfl rfl rfl rfl HS2.out (by have := HLX.out; omega) ?_
          intro g5 c5 w5 h5
          have h6 := Sep.blk (A := [_, _]) (B := [_]) h5
          obtain ⟨k0, k1, k2, k3, l0, l1, l2, l3⟩ := bq4 h6.hd
          have h7 := h6.setB 1 (.slice (some ⟨g5, 0, none⟩) (xs.length + 1) c5)
          have HS7 := Lib.hid (Sep.cutA (X := [_, _]) (A := [_]) h7)
          clear h5 h6 h7))
        go_roundw
        case rel => exact ⟨j + 1, .slice (some ⟨g5, 0, none⟩) (xs.length + 1) c5, xs ++ [(⟨⟨yk, yv, yi, yo⟩, .slice s1 n1 r1, .slice s2 n2 r2⟩ : XE)], by omega, by go_num, HN.out, HNR.out, HS7.out⟩
        case measure => simp [intOf]; omega
    · have hjm : m = j := by omega
      subst hjm
      have hjj : ¬ (m : Int) < (m : Int) := by omega
      have hxe := HXE.out
      rw [List.take_of_length_le (by rw [HM.out]; exact Nat.le_refl _)] at hxe
      have hnl := nd_len es
      rw [HM.out] at hnl
      have hxl : xs.length = (ndE es).length := by rw [← hxe]; simp [eds]
      have HXX := Lib.hid hxe
      have hrn : ∀ e ∈ ndE es, e.i.length ≤ 2 ∧ e.o.length ≤ 2 := fun e he => HR.out e (nd_mem he)
      have HC := Lib.hid fun W (hW : wr.grownBy W none) => edgeOrder_any n (.slice ca xs.length cc) nilS nilS (ndE es) [] [] W (OR.rde (HSX.out.grown hW).tl.hd HXX.out (fun x hx => HXR.out W (HSX.out.grown hW).tl.tl.tl.hd x hx)) (IntsV.nil W) (IntsV.nil W) (by omega) hrn
      unfold grV nilS at HC
      have hbb := HB.out
      unfold acyB at hbb
      rw [← hxl] at HC hbb
      have HBQ := Lib.hid hbb
      clear hbb
      have HDR := Lib.hid (show wr.grownBy wr.drew none from ⟨rfl, rfl, rfl, Nat.le_refl _, fun _ _ _ => rfl⟩)
      generalize (runO (ndE es) xs.length).length = rl at *
      generalize xs.length = xl at *
      clear hxe hnl hrn hxl
      go_upto_region 8 with fail
      have HSD := Lib.hid HSX.out.dr
      have hkd := HSD.out.tl.tl.tl.hd
      have HKD := Lib.hid (show w.grownBy _ none from hkd)
      clear hkd
      have HBM := Lib.hid fun (W1 : World) (L : List Asrt) (h : Sep W1 L) (h1 : BxA (w.heap.size + 1) #[.int .i64 n, .slice ca xl cc, .slice none 0 0, .slice none 0 0] 56 ∈ L) => show W1.cell? ⟨w.heap.size + 1, 0, none⟩ = some (.int .i64 n) ∧ W1.cell? ⟨w.heap.size + 1, 1, none⟩ = some (.slice ca xl cc) ∧ W1.cell? ⟨w.heap.size + 1, 2, none⟩ = some (.slice none 0 0) ∧ W1.cell? ⟨w.heap.size + 1, 3, none⟩ = some (.slice none 0 0) from by
        obtain ⟨a0, a1, a2, a3, _⟩ := bq4 (show W1.heap[w.heap.size + 1]? = some (.cells #[.int .i64 n, .slice ca xl cc, .slice none 0 0, .slice none 0 0] 56 (0, 0)) from Sep.all h _ h1)
        exact ⟨a0, a1, a2, a3⟩
      have X0 := Lib.hid (HBM.out _ _ HSD.out (by simp))
      refine AnyL.start (fun W1 => W1.cell? ⟨w.heap.size + 1, 0, none⟩ = some (.int .i64 n) ∧ W1.cell? ⟨w.heap.size + 1, 1, none⟩ = some (.slice ca xl cc) ∧ W1.cell? ⟨w.heap.size + 1, 2, none⟩ = some (.slice none 0 0) ∧ W1.cell? ⟨w.heap.size + 1, 3, none⟩ = some (.slice none 0 0)) (fun _ => True) 99 (by kernel_rfl) ?_
      refine AnyL.take (i := 0) (v := ?vx1) (by rfl) (by kernel_rfl) (by kernel_rfl) (by kernel_rfl) rfl (by exact fun _ _ _ h => h) (by rfl) ?hyx1 (by exact ⟨X0.out, fun _ => trivial⟩) ?restx1
      case hyx1 => intro W hSW; (try dsimp only at hSW); first | (go_simp; done) | (go_simp; with_reducible rfl)
      try simp only [Act.put, List.setIfInBounds_toArray, List.set_cons_zero, List.set_cons_succ]
      refine AnyL.take (i := 3) (v := ?vx2) (by rfl) (by kernel_rfl) (by kernel_rfl) (by kernel_rfl) rfl (by exact fun _ _ _ h => h) (by rfl) ?hyx2 (by exact ⟨X0.out, fun _ => trivial⟩) ?restx2
      case hyx2 => intro W hSW; (try dsimp only at hSW); first | (go_simp; done) | (go_simp; with_reducible rfl)
      try simp only [Act.put, List.setIfInBounds_toArray, List.set_cons_zero, List.set_cons_succ]
      refine AnyL.take (i := 4) (v := ?vx3) (by rfl) (by kernel_rfl) (by kernel_rfl) (by kernel_rfl) rfl (by exact fun _ _ _ h => h) (by rfl) ?hyx3 (by exact ⟨X0.out, fun _ => trivial⟩) ?restx3
      case hyx3 => intro W hSW; (try dsimp only at hSW); first | (go_simp; done) | (go_simp; with_reducible rfl)
      try simp only [Act.put, List.setIfInBounds_toArray, List.set_cons_zero, List.set_cons_succ]
      refine AnyL.take (i := 5) (v := ?vx4) (by rfl) (by kernel_rfl) (by kernel_rfl) (by kernel_rfl) rfl (by exact fun _ _ _ h => h) (by rfl) ?hyx4 (by exact ⟨X0.out, fun _ => trivial⟩) ?restx4
      case hyx4 => intro W hSW; (try dsimp only at hSW); first | (go_simp; done) | (go_simp; with_reducible rfl)
      try simp only [Act.put, List.setIfInBounds_toArray, List.set_cons_zero, List.set_cons_succ]
      refine AnyL.step (i := 1) (by kernel_rfl) (by rfl) (fun K hK => ?_)
      have hkE := Lib.hid (show wr.grownBy wr.drew none from HDR.out)
      go_simp
      go_at_call 107
      with_reducible refine (HC.out _ hkE.out).mono ?_
      rintro e w2 ⟨⟨ra, rc, rfl⟩, hg⟩
      have HSE := Lib.hid (HSD.out.grown hg)
      have HKF := Lib.hid (grownBy_trans HKD.out hg)
      clear hg hkE
      refine hK.out _ _ (by exact HBM.out _ _ HSE.out (by simp)) (by exact fun _ => trivial) ?_
      clear hK K
      try simp only [Act.put, List.setIfInBounds_toArray, List.set_cons_zero, List.set_cons_succ]
      refine AnyL.take (i := 2) (v := ?vx5) (by rfl) (by kernel_rfl) (by kernel_rfl) (by kernel_rfl) rfl (by exact fun _ _ _ h => h) (by rfl) ?hyx5 (by exact ⟨HBM.out _ _ HSE.out (by simp), fun _ => trivial⟩) ?restx5
      case hyx5 => intro W hSW; (try dsimp only at hSW); first | (go_simp; done) | (go_simp; with_reducible rfl)
      try simp only [Act.put, List.setIfInBounds_toArray, List.set_cons_zero, List.set_cons_succ]
      refine AnyL.take (i := 6) (v := ?vx6) (by rfl) (by kernel_rfl) (by kernel_rfl) (by kernel_rfl) rfl (by exact fun _ _ _ h => h) (by rfl) ?hyx6 (by exact ⟨HBM.out _ _ HSE.out (by simp), fun _ => trivial⟩) ?restx6
      case hyx6 => intro W hSW; (try dsimp only at hSW); first | (go_simp; done) | (go_simp; with_reducible rfl)
      try simp only [Act.put, List.setIfInBounds_toArray, List.set_cons_zero, List.set_cons_succ]
      refine AnyL.take (i := 7) (v := ?vx7) (by rfl) (by kernel_rfl) (by kernel_rfl) (by kernel_rfl) rfl (by exact fun _ _ _ h => h) (by rfl) ?hyx7 (by exact ⟨HBM.out _ _ HSE.out (by simp), fun _ => trivial⟩) ?restx7
      case hyx7 => intro W hSW; (try dsimp only at hSW); first | (go_simp; done) | (go_simp; with_reducible rfl)
      try simp only [Act.put, List.setIfInBounds_toArray, List.set_cons_zero, List.set_cons_succ]
      refine AnyL.done (by kernel_rfl) ?_ _
      go_wp2_with fail
      go_ret
      have hq : ((rl : Int) == (xl : Int)) = b := by
        rw [← HBQ.out, Bool.eq_iff_iff, beq_iff_eq, decide_eq_true_iff]; omega
      exact ⟨by rw [← hq]; rfl, HKF.out⟩
end Go.Proofs.YtghfifpicklonaaDoor

/-
  Has a list a number, and do two lists meet, in the reference: the world stays as it is. Conditions: lengths are small.
-/
namespace Go.Proofs.YtghfifpicklonaaDoor
open Go.RowKit
set_option linter.unusedVariables false
set_option maxRecDepth 100000

theorem q0c {f : FuncId} {args : Array Value} {W : World} {v : Value} (h : Calls Tryd.prog f args W fun e w' => e = .returned v ∧ W = w') : Calls Tryd.prog f args W fun e w' => e = .returned v ∧ ∃ m, w' = W.drewN m :=
  h.mono fun _ _ h => ⟨h.1, 0, h.2 ▸ rfl⟩
theorem grown_drewC (w : World) (m : Nat) : w.grownBy (w.drewN m) none := ⟨rfl, rfl, rfl, Nat.le_refl _, fun _ _ _ => rfl⟩
theorem l1Has_q (v : Value) (zs : List Int) (x : Int) (w : World) (hv : IntsV w v zs) (hl : zs.length ≤ 1000000) :
    Calls Tryd.prog 162 #[v, .int .i64 x] w fun e w' => e = .returned (.bool (decide (x ∈ zs))) ∧ w = w' := by
  have HV := Lib.hid hv
  obtain ⟨a, c, rfl⟩ := hv.shape
  generalize hm : zs.length = m at *
  have HM := Lib.hid hm
  clear hv hm
  go_enter Tryd.func162, Tryd.ntmps162
  go_wp2_with fail
  go_loop [6, 9] (fun _ i => ∃ k : Nat, k ≤ m ∧ i = .int .i64 k ∧ ∀ j, j < k → zs.getD j 0 ≠ x) (fun _ i => m - (intOf i).toNat)
  case atStart => exact ⟨0, by omega, rfl, fun j hj => absurd hj (Nat.not_lt_zero _)⟩
  case round =>
    obtain ⟨k, hk, rfl, hne⟩ := hrel
    have HNE := Lib.hid hne
    clear hne
    by_cases hlt : k < m
    · have hkz : k < zs.length := by rw [HM.out]; exact hlt
      obtain ⟨b, o, rfl, _, hc0⟩ := HV.out.atD hkz
      have HZ := Lib.hid (show zs.getD k 0 ∈ zs from getD_mem' hkz)
      have hki : (k : Int) < (m : Int) := by omega
      by_cases he : zs.getD k 0 = x
      · rw [he] at hc0 HZ
        go_wp2_with fail
        go_ret
        exact ⟨by rw [show decide (x ∈ zs) = true from decide_eq_true HZ.out]; rfl, rfl⟩
      · have HE := Lib.hid he
        generalize hy : zs.getD k 0 = y at *
        have HY := Lib.hid hy
        clear hy
        go_wp2_with fail
        go_round
        case rel => exact ⟨k + 1, by omega, by go_num, fun j hj => by
          by_cases e : j = k
          · subst e; rw [HY.out]; exact HE.out
          · exact HNE.out j (by omega)⟩
        case measure => simp [intOf]; omega
    · have hkm : k = m := by omega
      subst hkm
      have hki : ¬ (k : Int) < (k : Int) := by omega
      clear hlt
      go_wp2_with fail
      go_ret
      have hn : ¬ x ∈ zs := by
        intro hx
        obtain ⟨i, hi, he⟩ := List.getElem_of_mem hx
        have := HNE.out i (by rw [← HM.out]; exact hi)
        rw [List.getD_eq_getElem?_getD, List.getElem?_eq_getElem hi] at this
        exact this he
      exact ⟨by rw [show decide (x ∈ zs) = false from decide_eq_false hn]; rfl, rfl⟩
theorem meet_comm (a b : List Int) : meetB a b = meetB b a := by
  rw [Bool.eq_iff_iff]
  unfold meetB
  simp only [List.any_eq_true, decide_eq_true_iff]
  exact ⟨fun ⟨x, h1, h2⟩ => ⟨x, h2, h1⟩, fun ⟨x, h1, h2⟩ => ⟨x, h2, h1⟩⟩
theorem hgMeets_q (a b : Value) (A B : List Int) (w : World) (h1 : IntsV w a A) (h2 : IntsV w b B) (l1 : A.length ≤ 1000000) (l2 : B.length ≤ 1000000) :
    Calls Tryd.prog 154 #[a, b] w fun e w' => e = .returned (.bool (meetB A B)) ∧ w = w' := by
  have HA := Lib.hid h1
  have HB := Lib.hid fun x => l1Has_q b B x w h2 l2
  obtain ⟨a1, c1, rfl⟩ := h1.shape
  obtain ⟨a2, c2, rfl⟩ := h2.shape
  have HMB := Lib.hid (show meetB A B = A.any fun x => decide (x ∈ B) from rfl)
  generalize meetB A B = mb at *
  generalize hn1 : A.length = n1 at *
  have HN := Lib.hid hn1
  generalize B.length = n2 at *
  clear h1 h2 l2 hn1
  go_enter Tryd.func154, Tryd.ntmps154
  go_wp2_with fail
  go_loop [6, 9] (fun _ i => ∃ k : Nat, k ≤ n1 ∧ i = .int .i64 k ∧ (∀ j, j < k → A.getD j 0 ∉ B)) (fun _ i => n1 - (intOf i).toNat)
  case atStart => exact ⟨0, by omega, rfl, fun j hj => by omega⟩
  case round =>
    obtain ⟨k, hk, rfl, hall⟩ := hrel
    have HALL := Lib.hid hall
    clear hall
    by_cases hlt : k < n1
    · have hkA : k < A.length := by rw [HN.out]; exact hlt
      obtain ⟨b1, o1, rfl, _, x0⟩ := HA.out.atD hkA
      have HC := Lib.hid (HB.out (A.getD k 0))
      have HMEM := Lib.hid (getD_mem' hkA)
      have hki : (k : Int) < (n1 : Int) := by omega
      obtain ⟨x, hx⟩ : ∃ x, A.getD k 0 = x := ⟨_, rfl⟩
      rw [hx] at x0 HC HMEM
      have HXX := Lib.hid hx
      clear hx hkA
      by_cases hin : x ∈ B
      · rw [decide_eq_true hin] at HC
        have HT := Lib.hid (show mb = true from by rw [HMB.out, List.any_eq_true]; exact ⟨x, HMEM.out, decide_eq_true hin⟩)
        clear hin
        go_wp2_with (
          go_at_call 162
          with_reducible refine HC.out.mono ?_
          rintro e w2 ⟨rfl, rfl⟩)
        go_ret
        exact ⟨by rw [HT.out]; try rfl, rfl⟩
      · rw [decide_eq_false hin] at HC
        have HN2 := Lib.hid (show ∀ j, j < k + 1 → A.getD j 0 ∉ B from fun j hj => by
          by_cases e : j = k
          · rw [e, HXX.out]; exact hin
          · exact HALL.out j (by omega))
        clear hin
        go_wp2_with (
          go_at_call 162
          with_reducible refine HC.out.mono ?_
          rintro e w2 ⟨rfl, rfl⟩)
        go_round
        case rel => exact ⟨k + 1, by omega, by go_num, HN2.out⟩
        case measure => simp [intOf]; omega
    · have HT := Lib.hid (show mb = false from by
        rw [HMB.out, List.any_eq_false]
        intro x hx
        obtain ⟨j, hj, rfl⟩ := mem_gd.1 hx
        simpa using HALL.out j (by have := HN.out; omega))
      have hki : ¬ (k : Int) < (n1 : Int) := by omega
      go_wp2_with fail
      go_ret
      exact ⟨by rw [HT.out]; try rfl, rfl⟩
end Go.Proofs.YtghfifpicklonaaDoor

/-
  The order of edges, in the reference. Conditions: at most 60 edges of at most two wires a side.
-/
namespace Go.Proofs.YtghfifpicklonaaDoor
open Go.RowKit
set_option linter.unusedVariables false
set_option maxRecDepth 100000

def fstI (es : List Ed) (O : List Nat) (f : Nat) : Int := match (List.range f).find? (freeB es O) with
  | some i => (i : Int)
  | none => -1
theorem fst_old {es : List Ed} {O : List Nat} {f i : Nat} (h : (List.range f).find? (freeB es O) = some i) : fstI es O (f + 1) = fstI es O f := by
  unfold fstI
  rw [List.range_succ, List.find?_append, h]
  rfl
theorem fst_not {es : List Ed} {O : List Nat} {f : Nat} (h : freeB es O f = false) : fstI es O (f + 1) = fstI es O f := by
  unfold fstI
  rw [List.range_succ, List.find?_append]
  cases hq : (List.range f).find? (freeB es O) with
  | some i => rfl
  | none => simp [h]
theorem fst_new {es : List Ed} {O : List Nat} {f : Nat} (h0 : (List.range f).find? (freeB es O) = none) (h : freeB es O f = true) : fstI es O (f + 1) = (f : Int) := by
  unfold fstI
  rw [List.range_succ, List.find?_append, h0]
  simp [h]
def allTo (es : List Ed) (O : List Nat) (f e : Nat) : Bool := (List.range e).all fun k => !needB es f k || decide (k ∈ O)
theorem allTo_succ (es : List Ed) (O : List Nat) (f e : Nat) : allTo es O f (e + 1) = (allTo es O f e && (!needB es f e || decide (e ∈ O))) := by
  unfold allTo
  rw [List.range_succ, List.all_append]
  simp
theorem seen_O {m : Nat} (O : List Nat) {i : Nat} (hi : i < m) : (seenL m (outI O)).getD i false = decide (i ∈ O) := by
  rw [seen_at hi]
  exact decide_eq_decide.2 outI_mem
set_option maxHeartbeats 16000000 in
theorem hgOrder_any (n : Int) (ev iv ov : Value) (es : List Ed) (is os : List Int) (w : World) (he : RdE edgeE w ev es) (hi : IntsV w iv is) (ho : IntsV w ov os) (hm : es.length ≤ 60) (hr : ∀ e ∈ es, e.i.length ≤ 2 ∧ e.o.length ≤ 2) :
    Calls Tryd.prog 133 #[grV n ev iv ov] w fun e w' => (∃ a c, e = .returned (.slice a (runO es es.length).length c)) ∧ w.grownBy w' none := by
  obtain ⟨i0, hbi, hz0, hz1, hz2⟩ := info_parts info_bool
  have HBI := Lib.hid hbi; have HZ0 := Lib.hid hz0; have HZ1 := Lib.hid hz1; have HZ2 := Lib.hid hz2
  have HE := Lib.hid he; have HR := Lib.hid hr
  unfold grV at *
  obtain ⟨ea, ec, rfl⟩ := he.shape
  obtain ⟨ia, ic, rfl⟩ := hi.shape
  obtain ⟨oa, oc, rfl⟩ := ho.shape
  obtain ⟨m, hes⟩ : ∃ m, es.length = m := ⟨_, rfl⟩
  have HM := Lib.hid hes
  rw [hes] at hm ⊢
  generalize is.length = m1 at *
  generalize os.length = m2 at *
  clear he hi ho hr hbi hz0 hz1 hz2 hes
  have hs0 := (Sep.start w).boxAt w.heap.size rfl #[.int .i64 n, .slice ea m ec, .slice ia m1 ic, .slice oa m2 oc] 56
  have HS0 := Lib.hid hs0
  clear hs0
  go_enter Tryd.func133, Tryd.ntmps133
  go_wp2_with (
    at_make
    go_loud (
    refine wpList_make_full _ rfl _ _ 160 rfl _ 4 i0 _ 1 Tryd.underlying160 HBI.out HZ0.out HZ1.out _ _ _ _ m rfl rfl rfl rfl (by rw [HZ2.out]; omega) (by unfold maxLen; omega) (Nat.le_refl _) ?_
    intro w2 hown' hgr'
    have hs2 := (HS0.out.newR hgr' (OwnR.made (E := boolE) falseCells hown')).nilI
    have HS3 := Lib.hid hs2
    clear hs2 hown' hgr'))
  have hs3 := HS3.out
  rw [show (w.alloc (.cells #[.int .i64 n, .slice ea m ec, .slice ia m1 ic, .slice oa m2 oc] 56)).heap.size = w.heap.size + 1 by simp] at hs3
  have hlr : List.replicate m false = seenL m (outI (runO es 0)) := (seen_nil m).symm
  rw [hlr] at hs3
  have HS4 := Lib.hid hs3
  clear hs3 hlr HS3 HS0
  go_loopw [3, 5, 6, 7, 8, 16, 30] (fun ov _ _ _ _ _ _ wr => ∃ (j : Nat) (oa2 : Option Addr) (oc2 : Nat), ov = .slice oa2 j oc2 ∧ (runO es j).length = j ∧ j ≤ m ∧ Sep wr [OI ov (outI (runO es j)), OR boolE (.slice (some ⟨w.heap.size + 1, 0, none⟩) m m) (seenL m (outI (runO es j))), BxA w.heap.size #[.int .i64 n, .slice ea m ec, .slice ia m1 ic, .slice oa m2 oc] 56, KeepA w]) (fun ov _ _ _ _ _ _ _ => m - sliceLen ov)
  case atStart => exact ⟨0, _, _, rfl, rfl, by omega, HS4.out⟩
  case round =>
    obtain ⟨j, oa2, oc2, rfl, hjl, hjm, hs⟩ := hrel
    have HS := Lib.hid hs; have HJL := Lib.hid hjl
    obtain ⟨x0, x1, x2, x3, _⟩ := bq4 hs.tl.tl.hd
    obtain ⟨O, hO⟩ : ∃ O, runO es j = O := ⟨_, rfl⟩
    have HO := Lib.hid hO
    clear hs hjl HS4
    go_wp2_with fail
    clear x0 x1 x2 x3
    have hst := HS.out
    rw [hO] at hst
    have HST := Lib.hid hst
    clear hst hO
    go_loopw [5, 6, 7, 8, 16, 30] (fun av _ _ _ i _ wq => ∃ f : Nat, f ≤ m ∧ i = .int .i64 f ∧ av = .int .i64 (fstI es O f) ∧ wr.grownBy wq none) (fun _ _ _ _ i _ _ => m - (intOf i).toNat)
    case atStart => exact ⟨0, by omega, rfl, rfl, grownBy_refl _ _⟩
    case round =>
      obtain ⟨f, hf, rfl, rfl, hg⟩ := hrel
      have HG := Lib.hid hg
      have HSF := Lib.hid (HST.out.grown hg)
      clear hg
      obtain ⟨x0, x1, x2, x3, _⟩ := bq4 HSF.out.tl.tl.hd
      by_cases hft : f < m
      · have c0 := bool_cell (show OwnR boolE 0 wr _ _ from HSF.out.tl.hd) (by rw [seen_len]) hft
        rw [seen_O O hft] at c0
        have hfi : (f : Int) < (m : Int) := by omega
        by_cases hd : f ∈ O
        · rw [decide_eq_true hd] at c0
          have HF := Lib.hid (fst_not (es := es) (O := O) (f := f) (by unfold freeB; rw [decide_eq_true hd]; rfl))
          clear hd
          go_wp2_with fail
          go_roundw
          case rel => exact ⟨f + 1, by omega, by go_num, by rw [HF.out], HG.out⟩
          case measure => simp [intOf]; omega
        · rw [decide_eq_false hd] at c0
          have HD := Lib.hid hd
          clear hd
          cases hq : (List.range f).find? (freeB es O) with
          | some i =>
            have HF := Lib.hid (fst_old hq)
            have e1 : fstI es O f = (i : Int) := by unfold fstI; rw [hq]
            rw [e1]
            have HE1 := Lib.hid e1
            clear hq e1
            have hii : (0 : Int) ≤ (i : Int) := by omega
            go_wp2_with fail
            go_roundw
            case rel => exact ⟨f + 1, by omega, by go_num, by rw [HF.out, HE1.out], HG.out⟩
            case measure => simp [intOf]; omega
          | none =>
            have HQ := Lib.hid hq
            have e1 : fstI es O f = -1 := by unfold fstI; rw [hq]
            rw [e1]
            have HE1 := Lib.hid e1
            clear hq e1
            go_wp2_with fail
            clear c0 x0 x1 x2 x3
            go_loopw [7, 8, 30] (fun xv _ i wq => ∃ e : Nat, e ≤ m ∧ i = .int .i64 e ∧ xv = .bool (allTo es O f e) ∧ wr.grownBy wq none) (fun _ _ i _ => m - (intOf i).toNat)
            case atStart => exact ⟨0, by omega, rfl, rfl, grownBy_refl _ _⟩
            case round =>
              obtain ⟨e, hem, rfl, rfl, hg⟩ := hrel
              have HG3 := Lib.hid hg
              have HSE := Lib.hid (HSF.out.grown hg)
              clear hg
              obtain ⟨x0, x1, x2, x3, _⟩ := bq4 HSE.out.tl.tl.hd
              have hki := HSE.out.tl.tl.tl.hd
              by_cases het : e < m
              · have hei : (e : Int) < (m : Int) := by omega
                have c0 := bool_cell (show OwnR boolE 0 wr _ _ from HSE.out.tl.hd) (by rw [seen_len]) het
                rw [seen_O O het] at c0
                have hke : e < es.length := by rw [HM.out]; exact het
                have hkf : f < es.length := by rw [HM.out]; exact hft
                obtain ⟨eb, eo, u1, u2, rfl, hat⟩ := HE.out.atK rfl rfl hke
                obtain ⟨fb, fo, v1, v2, hfe, hatf⟩ := HE.out.atK rfl rfl hkf
                injection hfe with hfe
                injection hfe with hfb hfo _
                subst hfb hfo
                obtain ⟨⟨q0, q1, q2, q3⟩, hqi, hqo⟩ := hat wr hki
                obtain ⟨⟨r0, r1, r2, r3⟩, hri, hro⟩ := hatf wr hki
                have HA := Lib.hid (allTo_succ es O f e)
                have hl1 := (HR.out _ (esMem hke)).2
                have hl2 := (HR.out _ (esMem hkf)).1
                have HMT := Lib.hid fun W (hW : wr.grownBy W none) => hgMeets_q u2 v1 (es.getD e e0).o (es.getD f e0).i W (hqo.carry hW) (hri.carry hW) (by omega) (by omega)
                have hnb : meetB (es.getD e e0).o (es.getD f e0).i = needB es f e := meet_comm _ _
                rw [hnb] at HMT
                obtain ⟨s1, d1, rfl⟩ := hqo.shape
                obtain ⟨s2, d2, rfl⟩ := hri.shape
                obtain ⟨s3, d3, rfl⟩ := hqi.shape
                obtain ⟨s4, d4, rfl⟩ := hro.shape
                clear hat hatf hqi hqo hri hro hke hkf hl1 hl2 hki hnb
                generalize (es.getD e e0).o.length = l1 at *
                generalize (es.getD e e0).i.length = l2 at *
                generalize (es.getD f e0).o.length = l3 at *
                generalize (es.getD f e0).i.length = l4 at *
                generalize (es.getD e e0).k = k1 at *
                generalize (es.getD e e0).v = k2 at *
                generalize (es.getD f e0).k = k3 at *
                generalize (es.getD f e0).v = k4 at *
                generalize needB es f e = nb at *
                generalize decide (e ∈ O) = de at *
                generalize allTo es O f e = al at *
                cases al
                · have HAF := Lib.hid (show allTo es O f (e + 1) = false from HA.out)
                  go_upto_region 12 with fail
                  go_quiet (fail)
                  go_wp2_with fail
                  go_roundw
                  case rel => exact ⟨e + 1, by omega, by go_num, by rw [HAF.out], grownBy_trans HG3.out (grown_drewC _ _)⟩
                  case measure => simp [intOf]; omega
                · cases de
                  · have HAF := Lib.hid (show allTo es O f (e + 1) = !nb from by rw [HA.out]; simp)
                    go_upto_region 12 with fail
                    go_quiet ((go_at_call 154; exact Calls.quiet_of (q0c (HMT.out _ (grown_drewC _ _)))))
                    go_wp2_with fail
                    go_roundw
                    case rel => exact ⟨e + 1, by omega, by go_num, by rw [HAF.out]; try rfl, grownBy_trans HG3.out (grown_drewC _ _)⟩
                    case measure => simp [intOf]; omega
                  · have HAF := Lib.hid (show allTo es O f (e + 1) = true from by rw [HA.out]; simp)
                    go_upto_region 12 with fail
                    go_quiet (fail)
                    go_wp2_with fail
                    go_roundw
                    case rel => exact ⟨e + 1, by omega, by go_num, by rw [HAF.out], grownBy_trans HG3.out (grown_drewC _ _)⟩
                    case measure => simp [intOf]; omega
              · have hem2 : m = e := by omega
                subst hem2
                have hee : ¬ (m : Int) < (m : Int) := by omega
                have hfr : freeB es O f = allTo es O f m := by unfold freeB allTo; rw [decide_eq_false HD.out, HM.out]; rfl
                have HGG := Lib.hid (grownBy_trans HG.out HG3.out)
                cases hal : allTo es O f m
                · have HF := Lib.hid (fst_not (hfr.trans hal))
                  clear hal hfr
                  go_wp2_with fail
                  go_roundw
                  case rel => exact ⟨f + 1, by omega, by go_num, by rw [HF.out, HE1.out], HGG.out⟩
                  case measure => simp [intOf]; omega
                · have HF := Lib.hid (fst_new HQ.out (hfr.trans hal))
                  clear hal hfr
                  go_wp2_with fail
                  go_roundw
                  case rel => exact ⟨f + 1, by omega, by go_num, by rw [HF.out], HGG.out⟩
                  case measure => simp [intOf]; omega
      · have hfm : m = f := by omega
        subst hfm
        have hff : ¬ (m : Int) < (m : Int) := by omega
        have hnO : nextO es O = (List.range m).find? (freeB es O) := by unfold nextO; rw [HM.out]
        have hO := HO.out
        cases hnx : nextO es O with
        | none =>
          have e1 : fstI es O m = -1 := by unfold fstI; rw [← hnO, hnx]
          rw [e1]
          have HEN := Lib.hid (show (runO es m).length = j from by
            have := run_stop (es := es) (j := j) (by rw [hO]; exact hnx) (m - j)
            rw [show j + (m - j) = m by omega] at this
            rw [this]; exact HJL.out)
          clear hnx hnO e1 hO
          have HKF := Lib.hid HSF.out.tl.tl.tl.hd
          go_wp2_with fail
          go_ret
          exact ⟨⟨oa2, oc2, by rw [HEN.out]; try rfl⟩, HKF.out⟩
        | some i =>
          have e1 : fstI es O m = (i : Int) := by unfold fstI; rw [← hnO, hnx]
          rw [e1]
          obtain ⟨hi1, hi2, _⟩ := next_some hnx
          have him : i < m := by rw [← HM.out]; exact hi1
          have HRS := Lib.hid (show runO es (j + 1) = O ++ [i] from by rw [← hO]; exact run_succ (by rw [hO]; exact hnx))
          have HSN := Lib.hid ((seen_new (P := outI O) him (fun h => hi2 (outI_mem.1 h))).1)
          have HOL := Lib.hid (show (outI O).length = j from by rw [outI_len, ← hO]; exact HJL.out)
          have hjlt : j < m := by
            rcases Nat.lt_or_ge j m with h | h
            · exact h
            · exfalso
              have hje : j = m := by omega
              obtain ⟨r1, r2, _⟩ := run_mem (es := es) j
              rw [hO] at r1 r2
              exact hi2 (all_in (m := m) r2 (fun x hx => by rw [← HM.out]; exact r1 x hx) (by rw [← hO, HJL.out]; exact hje) i him)
          have hii : (i : Int) < (m : Int) := by omega
          have hi0 : ¬ (i : Int) < 0 := by omega
          clear hnx hi1 hi2 e1 hnO hO
          have hs3 := HSF.out.s2
          have c0 := bool_cell (show OwnR boolE 0 wr _ _ from hs3.hd) (by rw [seen_len]) him
          have f0 := bool_free (show OwnR boolE 0 wr _ _ from hs3.hd) (by rw [seen_len]) i
          have hs4 := hs3.setBo (by rw [seen_len]) him true
          rw [← HSN.out] at hs4
          have HS4 := Lib.hid hs4.s2
          clear hs3 hs4
          go_upto_region 20 with fail
          generalize wr.setCell ⟨w.heap.size + 1, i, none⟩ (.bool true) = w4 at *
          go_wp2_with (
             at_builtin
             refine app_intS rfl _ _ rfl rfl rfl HS4.out (by rw [HOL.out]; omega) ?_
             intro g5 c5 w5 h5
             rw [HOL.out] at h5 ⊢
             have HS5 := Lib.hid h5
             clear h5)
          go_roundw
          case rel => exact ⟨j + 1, _, _, rfl, by rw [HRS.out, List.length_append, ← outI_len, HOL.out]; rfl, by omega, by
            have := HS5.out
            rw [HRS.out, show outI (O ++ [i]) = outI O ++ [(i : Int)] from by simp [outI]]
            exact this⟩
          case measure =>
            show m - (j + 1) < m - j
            omega
end Go.Proofs.YtghfifpicklonaaDoor

/-
  Is a graph acyclic, in the reference. Conditions: at most 60 edges of at most two wires a side.
-/
namespace Go.Proofs.YtghfifpicklonaaDoor
open Go.RowKit
set_option linter.unusedVariables false
set_option maxRecDepth 100000

set_option maxHeartbeats 4000000 in
theorem hgAcyclic_any (n : Int) (ev iv ov : Value) (es : List Ed) (is os : List Int) (w : World) (he : RdE edgeE w ev es) (hi : IntsV w iv is) (ho : IntsV w ov os) (hm : es.length ≤ 60) (hr : ∀ e ∈ es, e.i.length ≤ 2 ∧ e.o.length ≤ 2) :
    Calls Tryd.prog 100 #[grV n ev iv ov] w fun e w' => e = .returned (.bool (acyB es)) ∧ w.grownBy w' none := by
  have HC := Lib.hid fun W (hW : w.grownBy W none) => hgOrder_any n ev iv ov es is os W (he.carry hW) (hi.carry hW) (ho.carry hW) hm hr
  unfold grV at *
  obtain ⟨b, hb⟩ : ∃ b, acyB es = b := ⟨_, rfl⟩
  rw [hb]
  unfold acyB at hb
  obtain ⟨ea, ec, rfl⟩ := he.shape
  obtain ⟨ia, ic, rfl⟩ := hi.shape
  obtain ⟨oa, oc, rfl⟩ := ho.shape
  generalize (runO es es.length).length = rl at *
  generalize es.length = m at *
  generalize is.length = m1 at *
  generalize os.length = m2 at *
  have HBQ := Lib.hid hb
  clear he hi ho hr hb
  have HSD := Lib.hid ((Sep.start w).boxAt w.heap.size rfl #[.int .i64 n, .slice ea m ec, .slice ia m1 ic, .slice oa m2 oc] 56).dr
  have HKD := Lib.hid (show w.grownBy _ none from HSD.out.tl.hd)
  have HBM := Lib.hid fun (W1 : World) (L : List Asrt) (h : Sep W1 L) (h1 : BxA w.heap.size #[.int .i64 n, .slice ea m ec, .slice ia m1 ic, .slice oa m2 oc] 56 ∈ L) => show W1.cell? ⟨w.heap.size, 0, none⟩ = some (.int .i64 n) ∧ W1.cell? ⟨w.heap.size, 1, none⟩ = some (.slice ea m ec) ∧ W1.cell? ⟨w.heap.size, 2, none⟩ = some (.slice ia m1 ic) ∧ W1.cell? ⟨w.heap.size, 3, none⟩ = some (.slice oa m2 oc) from by
    obtain ⟨a0, a1, a2, a3, _⟩ := bq4 (show W1.heap[w.heap.size]? = some (.cells #[.int .i64 n, .slice ea m ec, .slice ia m1 ic, .slice oa m2 oc] 56 (0, 0)) from Sep.all h _ h1)
    exact ⟨a0, a1, a2, a3⟩
  have X0 := Lib.hid (HBM.out _ _ HSD.out (by simp))
  go_enter Tryd.func100, Tryd.ntmps100
  go_upto_region 1 with fail
  refine AnyL.start (fun W1 => W1.cell? ⟨w.heap.size, 0, none⟩ = some (.int .i64 n) ∧ W1.cell? ⟨w.heap.size, 1, none⟩ = some (.slice ea m ec) ∧ W1.cell? ⟨w.heap.size, 2, none⟩ = some (.slice ia m1 ic) ∧ W1.cell? ⟨w.heap.size, 3, none⟩ = some (.slice oa m2 oc)) (fun _ => True) 99 (by kernel_rfl) ?_
  refine AnyL.take (i := 0) (v := ?vx8) (by rfl) (by kernel_rfl) (by kernel_rfl) (by kernel_rfl) rfl (by exact fun _ _ _ h => h) (by rfl) ?hyx8 (by exact ⟨X0.out, fun _ => trivial⟩) ?restx8
  case hyx8 => intro W hSW; (try dsimp only at hSW); first | (go_simp; done) | (go_simp; with_reducible rfl)
  try simp only [Act.put, List.setIfInBounds_toArray, List.set_cons_zero, List.set_cons_succ]
  refine AnyL.take (i := 3) (v := ?vx9) (by rfl) (by kernel_rfl) (by kernel_rfl) (by kernel_rfl) rfl (by exact fun _ _ _ h => h) (by rfl) ?hyx9 (by exact ⟨X0.out, fun _ => trivial⟩) ?restx9
  case hyx9 => intro W hSW; (try dsimp only at hSW); first | (go_simp; done) | (go_simp; with_reducible rfl)
  try simp only [Act.put, List.setIfInBounds_toArray, List.set_cons_zero, List.set_cons_succ]
  refine AnyL.take (i := 4) (v := ?vx10) (by rfl) (by kernel_rfl) (by kernel_rfl) (by kernel_rfl) rfl (by exact fun _ _ _ h => h) (by rfl) ?hyx10 (by exact ⟨X0.out, fun _ => trivial⟩) ?restx10
  case hyx10 => intro W hSW; (try dsimp only at hSW); first | (go_simp; done) | (go_simp; with_reducible rfl)
  try simp only [Act.put, List.setIfInBounds_toArray, List.set_cons_zero, List.set_cons_succ]
  refine AnyL.take (i := 5) (v := ?vx11) (by rfl) (by kernel_rfl) (by kernel_rfl) (by kernel_rfl) rfl (by exact fun _ _ _ h => h) (by rfl) ?hyx11 (by exact ⟨X0.out, fun _ => trivial⟩) ?restx11
  case hyx11 => intro W hSW; (try dsimp only at hSW); first | (go_simp; done) | (go_simp; with_reducible rfl)
  try simp only [Act.put, List.setIfInBounds_toArray, List.set_cons_zero, List.set_cons_succ]
  refine AnyL.step (i := 1) (by kernel_rfl) (by rfl) (fun K hK => ?_)
  go_simp
  go_at_call 133
  with_reducible refine (HC.out _ HKD.out).mono ?_
  rintro e w2 ⟨⟨ra, rc, rfl⟩, hg⟩
  have HSE := Lib.hid (HSD.out.grown hg)
  have HKF := Lib.hid (grownBy_trans HKD.out hg)
  clear hg
  refine hK.out _ _ (by exact HBM.out _ _ HSE.out (by simp)) (by exact fun _ => trivial) ?_
  clear hK K
  try simp only [Act.put, List.setIfInBounds_toArray, List.set_cons_zero, List.set_cons_succ]
  refine AnyL.take (i := 2) (v := ?vx12) (by rfl) (by kernel_rfl) (by kernel_rfl) (by kernel_rfl) rfl (by exact fun _ _ _ h => h) (by rfl) ?hyx12 (by exact ⟨HBM.out _ _ HSE.out (by simp), fun _ => trivial⟩) ?restx12
  case hyx12 => intro W hSW; (try dsimp only at hSW); first | (go_simp; done) | (go_simp; with_reducible rfl)
  try simp only [Act.put, List.setIfInBounds_toArray, List.set_cons_zero, List.set_cons_succ]
  refine AnyL.take (i := 6) (v := ?vx13) (by rfl) (by kernel_rfl) (by kernel_rfl) (by kernel_rfl) rfl (by exact fun _ _ _ h => h) (by rfl) ?hyx13 (by exact ⟨HBM.out _ _ HSE.out (by simp), fun _ => trivial⟩) ?restx13
  case hyx13 => intro W hSW; (try dsimp only at hSW); first | (go_simp; done) | (go_simp; with_reducible rfl)
  try simp only [Act.put, List.setIfInBounds_toArray, List.set_cons_zero, List.set_cons_succ]
  refine AnyL.take (i := 7) (v := ?vx14) (by rfl) (by kernel_rfl) (by kernel_rfl) (by kernel_rfl) rfl (by exact fun _ _ _ h => h) (by rfl) ?hyx14 (by exact ⟨HBM.out _ _ HSE.out (by simp), fun _ => trivial⟩) ?restx14
  case hyx14 => intro W hSW; (try dsimp only at hSW); first | (go_simp; done) | (go_simp; with_reducible rfl)
  try simp only [Act.put, List.setIfInBounds_toArray, List.set_cons_zero, List.set_cons_succ]
  refine AnyL.done (by kernel_rfl) ?_ _
  go_wp2_with fail
  go_ret
  have hq : ((rl : Int) == (m : Int)) = b := by
    rw [← HBQ.out, Bool.eq_iff_iff, beq_iff_eq, decide_eq_true_iff]; omega
  exact ⟨by rw [← hq]; rfl, HKF.out⟩
end Go.Proofs.YtghfifpicklonaaDoor

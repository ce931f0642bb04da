/-
  State spaces in the laws: sized, copied, compared, marked. Conditions: lengths are small.
-/
import Derived.Test.YtghfifpicklonaaDoorYt01
import Derived.Test.YtghfifpicklonaaDoorBc07
namespace Go.Proofs.YtghfifpicklonaaDoor
open Go.RowKit
set_option linter.unusedVariables false
set_option maxRecDepth 100000

def tS (L : List (List Int)) : Nat := L.length + totS L
def totSS (s : StSp) : Nat := tS s.A + tS s.B + tS s.C + tS s.D
def okSS (s : StSp) : Prop := okS s.A ∧ okS s.B ∧ okS s.C ∧ okS s.D
theorem lft_two {left : Int} {a b : Nat} (h : ¬ lft left a < 0) : lft (lft left a) b = lft left (a + b) := by
  unfold lft at *
  by_cases h1 : left - (a : Int) < 0
  · rw [if_pos h1] at h; exact absurd (by decide) h
  · rw [if_neg h1] at h ⊢
    by_cases h2 : left - (a : Int) - b < 0
    · rw [if_pos h2, if_pos (by omega)]
    · rw [if_neg h2, if_neg (by omega)]; omega
theorem lft_neg {left : Int} {a b : Nat} (h : lft left a < 0) (hab : a ≤ b) : lft left b = -1 := by
  unfold lft at *
  by_cases h1 : left - (a : Int) < 0
  · rw [if_pos (by omega)]
  · rw [if_neg h1] at h; exact absurd h h1
theorem lft_le {left : Int} {a : Nat} (h : left ≤ 1048576) : lft left a ≤ 1048576 := by unfold lft; split <;> omega
theorem lft_eq {left : Int} {a : Nat} (h : lft left a < 0) : lft left a = -1 := lft_neg h (Nat.le_refl _)
theorem SmS.of {s : StSp} (h : totSS s ≤ 1048576) : SmS s := by
  unfold totSS tS at h
  exact ⟨⟨by omega, by omega, by omega, by omega⟩, fun r hr => by have := totS_mem hr; omega, fun r hr => by have := totS_mem hr; omega, fun r hr => by have := totS_mem hr; omega, fun r hr => by have := totS_mem hr; omega⟩
/-- Four lists of rows as one part. -/
def OX4 (av : Value) (xa : List XR) (bv : Value) (xb : List XR) (cv : Value) (xc : List XR) (dv : Value) (xd : List XR) : Asrt := Bag [OS av xa, OS bv xb, OS cv xc, OS dv xd]
theorem OX4_own {av : Value} {xa : List XR} {bv : Value} {xb : List XR} {cv : Value} {xc : List XR} {dv : Value} {xd : List XR} : ∀ k, (OX4 av xa bv xb cv xc dv xd).sees k → (OX4 av xa bv xb cv xc dv xd).foot k := by
  rintro k ⟨A, hA, hk⟩
  refine ⟨A, hA, ?_⟩
  simp only [List.mem_cons, List.not_mem_nil, or_false] at hA
  rcases hA with rfl | rfl | rfl | rfl <;> exact OS_own k hk
theorem OX4.read {w : World} {s : StSp} {av : Value} {xa : List XR} {bv : Value} {xb : List XR} {cv : Value} {xc : List XR} {dv : Value} {xd : List XR} (h : (OX4 av xa bv xb cv xc dv xd).holds w) (ha : rws xa = s.A) (hb : rws xb = s.B) (hc : rws xc = s.C) (hd : rws xd = s.D) : RdSs w s av bv cv dv := by
  have hs := show Sep w [OS av xa, OS bv xb, OS cv xc, OS dv xd] from h
  exact ⟨by rw [← ha]; exact OS.read hs.hd, by rw [← hb]; exact OS.read hs.tl.hd, by rw [← hc]; exact OS.read hs.tl.tl.hd, by rw [← hd]; exact OS.read hs.tl.tl.tl.hd⟩
set_option maxHeartbeats 4000000 in
theorem szSS_any (s : StSp) (av bv cv dv : Value) (left : Int) (w : World) (h : RdSs w s av bv cv dv) (h0 : 0 ≤ left) (h1 : left ≤ 1048576) (hok : okSS s) :
    Calls Tryd.prog 6 #[.agg #[.int .i64 s.S, .int .i64 s.I, .int .i64 s.O, av, bv, cv, dv], .int .i64 left] w fun e w' => e = .returned (.int .i64 (lft left (totSS s))) ∧ w.grownBy w' none := by
  obtain ⟨sa, ta, rfl⟩ := h.a.shape
  obtain ⟨sb, tb, rfl⟩ := h.b.shape
  obtain ⟨sc, tc, rfl⟩ := h.c.shape
  obtain ⟨sd, td, rfl⟩ := h.d.shape
  have HC1 := Lib.hid fun (l : Int) (h0 : 0 ≤ l) (h1 : l ≤ 1048576) W (hw : w.grownBy W none) => show Calls Tryd.prog 28 #[.slice sa s.A.length ta, .int .i64 l] W fun e w' => e = .returned (.int .i64 (lft l (tS s.A))) ∧ W.grownBy w' none from szIntSS_any sa s.A.length ta s.A l W (h.a.carry hw) rfl h0 h1 hok.1
  have HC2 := Lib.hid fun (l : Int) (h0 : 0 ≤ l) (h1 : l ≤ 1048576) W (hw : w.grownBy W none) => show Calls Tryd.prog 28 #[.slice sb s.B.length tb, .int .i64 l] W fun e w' => e = .returned (.int .i64 (lft l (tS s.B))) ∧ W.grownBy w' none from szIntSS_any sb s.B.length tb s.B l W (h.b.carry hw) rfl h0 h1 hok.2.1
  have HC3 := Lib.hid fun (l : Int) (h0 : 0 ≤ l) (h1 : l ≤ 1048576) W (hw : w.grownBy W none) => show Calls Tryd.prog 28 #[.slice sc s.C.length tc, .int .i64 l] W fun e w' => e = .returned (.int .i64 (lft l (tS s.C))) ∧ W.grownBy w' none from szIntSS_any sc s.C.length tc s.C l W (h.c.carry hw) rfl h0 h1 hok.2.2.1
  have HC4 := Lib.hid fun (l : Int) (h0 : 0 ≤ l) (h1 : l ≤ 1048576) W (hw : w.grownBy W none) => show Calls Tryd.prog 28 #[.slice sd s.D.length td, .int .i64 l] W fun e w' => e = .returned (.int .i64 (lft l (tS s.D))) ∧ W.grownBy w' none from szIntSS_any sd s.D.length td s.D l W (h.d.carry hw) rfl h0 h1 hok.2.2.2
  have HTOT := Lib.hid (show totSS s = tS s.A + tS s.B + tS s.C + tS s.D from rfl)
  have HS0 := Lib.hid ((Sep.start w).box #[.int .i64 s.S, .int .i64 s.I, .int .i64 s.O, .slice sa s.A.length ta, .slice sb s.B.length tb, .slice sc s.C.length tc, .slice sd s.D.length td] 24)
  have HK0 := Lib.hid (show w.grownBy _ none from HS0.out.tl.hd)
  have HL := Lib.hid h1
  clear h hok
  generalize s.A.length = nA at *
  generalize s.B.length = nB at *
  generalize s.C.length = nC at *
  generalize s.D.length = nD at *
  generalize totSS s = tt at *
  generalize tS s.A = kA at *
  generalize tS s.B = kB at *
  generalize tS s.C = kC at *
  generalize tS s.D = kD at *
  have ha1 := HC1.out left (by omega) (by omega)
  obtain ⟨l1, hl1⟩ : ∃ l, l = lft left kA := ⟨_, rfl⟩
  rw [← hl1] at ha1
  have HA1 := Lib.hid ha1
  have hle1 : l1 ≤ 1048576 := by rw [hl1]; exact lft_le (by omega)
  have HQ1 := Lib.hid (show l1 = lft left (kA) from by rw [hl1])
  clear ha1 hl1
  by_cases hn1 : l1 < 0
  · have HM := Lib.hid (show l1 = -1 from by rw [HQ1.out]; exact lft_eq (by rw [← HQ1.out]; exact hn1))
    have HE := Lib.hid (show lft left tt = l1 from by rw [HM.out]; exact lft_neg (a := kA) (by rw [← HQ1.out]; exact hn1) (by have := HTOT.out; omega))
    go_enter Tryd.func6, Tryd.ntmps6
    go_wp2_with (first
      | (go_at_call 28
         with_reducible refine (HA1.out _ HK0.out).mono ?_
         rintro e w1 ⟨rfl, hg⟩
         have hs := HS0.out.grown hg
         obtain ⟨x0, x1, x2, x3, x4, x5, x6⟩ := bq7 hs.hd
         have HS1 := Lib.hid hs
         have HK1 := Lib.hid (show w.grownBy w1 none from hs.tl.hd)
         clear hg hs))
    go_ret
    exact ⟨by rw [HE.out, HM.out]; try rfl, HK1.out⟩
  · have ha2 := HC2.out l1 (by omega) (by omega)
    obtain ⟨l2, hl2⟩ : ∃ l, l = lft l1 kB := ⟨_, rfl⟩
    rw [← hl2] at ha2
    have HA2 := Lib.hid ha2
    have hle2 : l2 ≤ 1048576 := by rw [hl2]; exact lft_le (by omega)
    have HQ2 := Lib.hid (show l2 = lft left (kA + kB) from by rw [hl2, HQ1.out, lft_two (by rw [← HQ1.out]; exact hn1)])
    clear ha2 hl2
    by_cases hn2 : l2 < 0
    · have HM := Lib.hid (show l2 = -1 from by rw [HQ2.out]; exact lft_eq (by rw [← HQ2.out]; exact hn2))
      have HE := Lib.hid (show lft left tt = l2 from by rw [HM.out]; exact lft_neg (a := kA + kB) (by rw [← HQ2.out]; exact hn2) (by have := HTOT.out; omega))
      go_enter Tryd.func6, Tryd.ntmps6
      go_wp2_with (first
        | (go_at_call 28
           with_reducible refine (HA1.out _ HK0.out).mono ?_
           rintro e w1 ⟨rfl, hg⟩
           have hs := HS0.out.grown hg
           obtain ⟨x0, x1, x2, x3, x4, x5, x6⟩ := bq7 hs.hd
           have HS1 := Lib.hid hs
           have HK1 := Lib.hid (show w.grownBy w1 none from hs.tl.hd)
           clear hg hs)
        | (go_at_call 28
           with_reducible refine (HA2.out _ HK1.out).mono ?_
           rintro e w2 ⟨rfl, hg⟩
           have hs := HS1.out.grown hg
           clear x0 x1 x2 x3 x4 x5 x6
           obtain ⟨x0, x1, x2, x3, x4, x5, x6⟩ := bq7 hs.hd
           have HS2 := Lib.hid hs
           have HK2 := Lib.hid (show w.grownBy w2 none from hs.tl.hd)
           clear hg hs))
      go_ret
      exact ⟨by rw [HE.out, HM.out]; try rfl, HK2.out⟩
    · have ha3 := HC3.out l2 (by omega) (by omega)
      obtain ⟨l3, hl3⟩ : ∃ l, l = lft l2 kC := ⟨_, rfl⟩
      rw [← hl3] at ha3
      have HA3 := Lib.hid ha3
      have hle3 : l3 ≤ 1048576 := by rw [hl3]; exact lft_le (by omega)
      have HQ3 := Lib.hid (show l3 = lft left (kA + kB + kC) from by rw [hl3, HQ2.out, lft_two (by rw [← HQ2.out]; exact hn2)])
      clear ha3 hl3
      by_cases hn3 : l3 < 0
      · have HM := Lib.hid (show l3 = -1 from by rw [HQ3.out]; exact lft_eq (by rw [← HQ3.out]; exact hn3))
        have HE := Lib.hid (show lft left tt = l3 from by rw [HM.out]; exact lft_neg (a := kA + kB + kC) (by rw [← HQ3.out]; exact hn3) (by have := HTOT.out; omega))
        go_enter Tryd.func6, Tryd.ntmps6
        go_wp2_with (first
          | (go_at_call 28
             with_reducible refine (HA1.out _ HK0.out).mono ?_
             rintro e w1 ⟨rfl, hg⟩
             have hs := HS0.out.grown hg
             obtain ⟨x0, x1, x2, x3, x4, x5, x6⟩ := bq7 hs.hd
             have HS1 := Lib.hid hs
             have HK1 := Lib.hid (show w.grownBy w1 none from hs.tl.hd)
             clear hg hs)
          | (go_at_call 28
             with_reducible refine (HA2.out _ HK1.out).mono ?_
             rintro e w2 ⟨rfl, hg⟩
             have hs := HS1.out.grown hg
             clear x0 x1 x2 x3 x4 x5 x6
             obtain ⟨x0, x1, x2, x3, x4, x5, x6⟩ := bq7 hs.hd
             have HS2 := Lib.hid hs
             have HK2 := Lib.hid (show w.grownBy w2 none from hs.tl.hd)
             clear hg hs)
          | (go_at_call 28
             with_reducible refine (HA3.out _ HK2.out).mono ?_
             rintro e w3 ⟨rfl, hg⟩
             have hs := HS2.out.grown hg
             clear x0 x1 x2 x3 x4 x5 x6
             obtain ⟨x0, x1, x2, x3, x4, x5, x6⟩ := bq7 hs.hd
             have HS3 := Lib.hid hs
             have HK3 := Lib.hid (show w.grownBy w3 none from hs.tl.hd)
             clear hg hs))
        go_ret
        exact ⟨by rw [HE.out, HM.out]; try rfl, HK3.out⟩
      · have ha4 := HC4.out l3 (by omega) (by omega)
        obtain ⟨l4, hl4⟩ : ∃ l, l = lft l3 kD := ⟨_, rfl⟩
        rw [← hl4] at ha4
        have HA4 := Lib.hid ha4
        have hle4 : l4 ≤ 1048576 := by rw [hl4]; exact lft_le (by omega)
        have HQ4 := Lib.hid (show l4 = lft left (kA + kB + kC + kD) from by rw [hl4, HQ3.out, lft_two (by rw [← HQ3.out]; exact hn3)])
        clear ha4 hl4
        by_cases hn4 : l4 < 0
        · have HE := Lib.hid (show lft left tt = l4 from by rw [HQ4.out, HTOT.out])
          have HM := Lib.hid (show l4 = -1 from by rw [HQ4.out]; exact lft_eq (by rw [← HQ4.out]; exact hn4))
          go_enter Tryd.func6, Tryd.ntmps6
          go_wp2_with (first
            | (go_at_call 28
               with_reducible refine (HA1.out _ HK0.out).mono ?_
               rintro e w1 ⟨rfl, hg⟩
               have hs := HS0.out.grown hg
               obtain ⟨x0, x1, x2, x3, x4, x5, x6⟩ := bq7 hs.hd
               have HS1 := Lib.hid hs
               have HK1 := Lib.hid (show w.grownBy w1 none from hs.tl.hd)
               clear hg hs)
            | (go_at_call 28
               with_reducible refine (HA2.out _ HK1.out).mono ?_
               rintro e w2 ⟨rfl, hg⟩
               have hs := HS1.out.grown hg
               clear x0 x1 x2 x3 x4 x5 x6
               obtain ⟨x0, x1, x2, x3, x4, x5, x6⟩ := bq7 hs.hd
               have HS2 := Lib.hid hs
               have HK2 := Lib.hid (show w.grownBy w2 none from hs.tl.hd)
               clear hg hs)
            | (go_at_call 28
               with_reducible refine (HA3.out _ HK2.out).mono ?_
               rintro e w3 ⟨rfl, hg⟩
               have hs := HS2.out.grown hg
               clear x0 x1 x2 x3 x4 x5 x6
               obtain ⟨x0, x1, x2, x3, x4, x5, x6⟩ := bq7 hs.hd
               have HS3 := Lib.hid hs
               have HK3 := Lib.hid (show w.grownBy w3 none from hs.tl.hd)
               clear hg hs)
            | (go_at_call 28
               with_reducible refine (HA4.out _ HK3.out).mono ?_
               rintro e w4 ⟨rfl, hg⟩
               have hs := HS3.out.grown hg
               clear x0 x1 x2 x3 x4 x5 x6
               obtain ⟨x0, x1, x2, x3, x4, x5, x6⟩ := bq7 hs.hd
               have HS4 := Lib.hid hs
               have HK4 := Lib.hid (show w.grownBy w4 none from hs.tl.hd)
               clear hg hs))
          go_ret
          exact ⟨by rw [HE.out, HM.out]; try rfl, HK4.out⟩
        · have HE := Lib.hid (show lft left tt = l4 from by rw [HQ4.out, HTOT.out])
          go_enter Tryd.func6, Tryd.ntmps6
          go_wp2_with (first
            | (go_at_call 28
               with_reducible refine (HA1.out _ HK0.out).mono ?_
               rintro e w1 ⟨rfl, hg⟩
               have hs := HS0.out.grown hg
               obtain ⟨x0, x1, x2, x3, x4, x5, x6⟩ := bq7 hs.hd
               have HS1 := Lib.hid hs
               have HK1 := Lib.hid (show w.grownBy w1 none from hs.tl.hd)
               clear hg hs)
            | (go_at_call 28
               with_reducible refine (HA2.out _ HK1.out).mono ?_
               rintro e w2 ⟨rfl, hg⟩
               have hs := HS1.out.grown hg
               clear x0 x1 x2 x3 x4 x5 x6
               obtain ⟨x0, x1, x2, x3, x4, x5, x6⟩ := bq7 hs.hd
               have HS2 := Lib.hid hs
               have HK2 := Lib.hid (show w.grownBy w2 none from hs.tl.hd)
               clear hg hs)
            | (go_at_call 28
               with_reducible refine (HA3.out _ HK2.out).mono ?_
               rintro e w3 ⟨rfl, hg⟩
               have hs := HS2.out.grown hg
               clear x0 x1 x2 x3 x4 x5 x6
               obtain ⟨x0, x1, x2, x3, x4, x5, x6⟩ := bq7 hs.hd
               have HS3 := Lib.hid hs
               have HK3 := Lib.hid (show w.grownBy w3 none from hs.tl.hd)
               clear hg hs)
            | (go_at_call 28
               with_reducible refine (HA4.out _ HK3.out).mono ?_
               rintro e w4 ⟨rfl, hg⟩
               have hs := HS3.out.grown hg
               clear x0 x1 x2 x3 x4 x5 x6
               obtain ⟨x0, x1, x2, x3, x4, x5, x6⟩ := bq7 hs.hd
               have HS4 := Lib.hid hs
               have HK4 := Lib.hid (show w.grownBy w4 none from hs.tl.hd)
               clear hg hs))
          go_ret
          exact ⟨by rw [HE.out]; try rfl, HK4.out⟩
/-- What hands back a state space of its own. -/
def GivesS (s : StSp) (w : World) (e : Ending) (w' : World) : Prop :=
  ∃ (sa sb sc sd : Option Addr) (ta tb tc td : Nat) (xa xb xc xd : List XR), e = .returned (.agg #[.int .i64 s.S, .int .i64 s.I, .int .i64 s.O, .slice sa s.A.length ta, .slice sb s.B.length tb, .slice sc s.C.length tc, .slice sd s.D.length td]) ∧ rws xa = s.A ∧ rws xb = s.B ∧ rws xc = s.C ∧ rws xd = s.D ∧ Sep w' [OX4 (.slice sa s.A.length ta) xa (.slice sb s.B.length tb) xb (.slice sc s.C.length tc) xc (.slice sd s.D.length td) xd, KeepA w]
set_option maxHeartbeats 4000000 in
theorem toSS_any (s : StSp) (av bv cv dv : Value) (w : World) (h : RdSs w s av bv cv dv) (hs : SmS s) :
    Calls Tryd.prog 8 #[.agg #[.int .i64 s.S, .int .i64 s.I, .int .i64 s.O, av, bv, cv, dv]] w (GivesS s w) := by
  have HTA := Lib.hid fun W (hw : w.grownBy W none) => toIntSS_any _ s.A W (h.a.carry hw) (by have := hs.l; omega) (fun r hr => by have := hs.a r hr; omega)
  have HTB := Lib.hid fun W (hw : w.grownBy W none) => toIntSS_any _ s.B W (h.b.carry hw) (by have := hs.l; omega) (fun r hr => by have := hs.b r hr; omega)
  have HTC := Lib.hid fun W (hw : w.grownBy W none) => toIntSS_any _ s.C W (h.c.carry hw) (by have := hs.l; omega) (fun r hr => by have := hs.c r hr; omega)
  have HTD := Lib.hid fun W (hw : w.grownBy W none) => toIntSS_any _ s.D W (h.d.carry hw) (by have := hs.l; omega) (fun r hr => by have := hs.d r hr; omega)
  unfold GivesS OwnS at *
  obtain ⟨sa, ta, rfl⟩ := h.a.shape
  obtain ⟨sb, tb, rfl⟩ := h.b.shape
  obtain ⟨sc, tc, rfl⟩ := h.c.shape
  obtain ⟨sd, td, rfl⟩ := h.d.shape
  have HS0 := Lib.hid ((((Sep.start w).box #[.int .i64 s.S, .int .i64 s.I, .int .i64 s.O, .slice sa s.A.length ta, .slice sb s.B.length tb, .slice sc s.C.length tc, .slice sd s.D.length td] 24).boxAt (w.heap.size + 1) (by simp) #[.int .i64 0, .int .i64 0, .int .i64 0, .slice none 0 0, .slice none 0 0, .slice none 0 0, .slice none 0 0] 32).boxAt (w.heap.size + 1 + 1) (by simp) #[.int .i64 s.S, .int .i64 s.I, .int .i64 s.O, .slice none 0 0, .slice none 0 0, .slice none 0 0, .slice none 0 0] 32)
  have HK0 := Lib.hid (show w.grownBy _ none from HS0.out.tl.tl.tl.hd)
  clear h hs
  obtain ⟨sS, sI, sO, sA, sB, sC, sD⟩ := s
  simp only at *
  generalize sA.length = nA at *
  generalize sB.length = nB at *
  generalize sC.length = nC at *
  generalize sD.length = nD at *
  go_enter Tryd.func8, Tryd.ntmps8
  go_wp2_with (first
    | (go_at_call 32
       go_loud (
       with_reducible refine (HTA.out _ HK0.out).mono ?_
       rintro e v1 ⟨ga, ca, xa, rfl, hx, hsg⟩
       have HXA := Lib.hid hx
       have hs1 := Sep.blk (A := [_]) (B := [_]) (HS0.out.graft1 hsg OS_own)
       obtain ⟨x0, x1, x2, x3, x4, x5, x6⟩ := bq7 hs1.hd
       obtain ⟨y0, y1, y2, y3, y4, y5, y6⟩ := bf7 hs1.hd
       have hs2 := hs1.setB 3 (.slice ga nA ca)
       obtain ⟨z0, z1, z2, z3, z4, z5, z6⟩ := bq7 hs2.tl.tl.tl.hd
       have HS1 := Lib.hid hs2
       have HK1 := Lib.hid (show w.grownBy _ none from hs2.tl.tl.tl.tl.hd)
       clear hx hsg hs1 hs2))
    | (go_at_call 32
       go_loud (
       with_reducible refine (HTB.out _ HK1.out).mono ?_
       rintro e v2 ⟨gb, cb, xb, rfl, hx, hsg⟩
       have HXB := Lib.hid hx
       have hs1 := Sep.blk (A := [_]) (B := [_]) (HS1.out.graft1 hsg OS_own)
       obtain ⟨x0, x1, x2, x3, x4, x5, x6⟩ := bq7 hs1.hd
       obtain ⟨y0, y1, y2, y3, y4, y5, y6⟩ := bf7 hs1.hd
       have hs2 := hs1.setB 4 (.slice gb nB cb)
       obtain ⟨z0, z1, z2, z3, z4, z5, z6⟩ := bq7 hs2.tl.tl.tl.tl.hd
       have HS2 := Lib.hid hs2
       have HK2 := Lib.hid (show w.grownBy _ none from hs2.tl.tl.tl.tl.tl.hd)
       clear hx hsg hs1 hs2))
    | (go_at_call 32
       go_loud (
       with_reducible refine (HTC.out _ HK2.out).mono ?_
       rintro e v3 ⟨gc, cc, xc, rfl, hx, hsg⟩
       have HXC := Lib.hid hx
       have hs1 := Sep.blk (A := [_]) (B := [_]) (HS2.out.graft1 hsg OS_own)
       obtain ⟨x0, x1, x2, x3, x4, x5, x6⟩ := bq7 hs1.hd
       obtain ⟨y0, y1, y2, y3, y4, y5, y6⟩ := bf7 hs1.hd
       have hs2 := hs1.setB 5 (.slice gc nC cc)
       obtain ⟨z0, z1, z2, z3, z4, z5, z6⟩ := bq7 hs2.tl.tl.tl.tl.tl.hd
       have HS3 := Lib.hid hs2
       have HK3 := Lib.hid (show w.grownBy _ none from hs2.tl.tl.tl.tl.tl.tl.hd)
       clear hx hsg hs1 hs2))
    | (go_at_call 32
       go_loud (
       with_reducible refine (HTD.out _ HK3.out).mono ?_
       rintro e v4 ⟨gd, cd, xd, rfl, hx, hsg⟩
       have HXD := Lib.hid hx
       have hs1 := Sep.blk (A := [_]) (B := [_]) (HS3.out.graft1 hsg OS_own)
       obtain ⟨x0, x1, x2, x3, x4, x5, x6⟩ := bq7 hs1.hd
       obtain ⟨y0, y1, y2, y3, y4, y5, y6⟩ := bf7 hs1.hd
       have hs2 := hs1.setB 6 (.slice gd nD cd)
       obtain ⟨z0, z1, z2, z3, z4, z5, z6⟩ := bq7 hs2.hd
       have hs3 := Sep.blk (A := [_, _, _, _, _]) (B := [_]) hs2
       obtain ⟨r0, r1, r2, r3, r4, r5, r6⟩ := bq7 hs3.hd
       obtain ⟨q0, q1, q2, q3, q4, q5, q6⟩ := bf7 hs3.hd
       have hs4 := (((((((hs3.setB 0 (.int .i64 sS)).setB 1 (.int .i64 sI)).setB 2 (.int .i64 sO)).setB 3 (.slice ga nA ca)).setB 4 (.slice gb nB cb)).setB 5 (.slice gc nC cc)).setB 6 (.slice gd nD cd))
       obtain ⟨k0, k1, k2, k3, k4, k5, k6⟩ := bq7 hs4.hd
       have hs5 := Sep.cutA (X := [_, _, _, _]) (A := [_]) (r := [KeepA w]) hs4.tl.tl
       have HSF := Lib.hid (Sep.bag (l := [_, _, _, _]) (show Sep _ [OS (.slice ga nA ca) xa, OS (.slice gb nB cb) xb, OS (.slice gc nC cc) xc, OS (.slice gd nD cd) xd, KeepA w] from Sep.perm (List.Perm.append_right [KeepA w] (List.reverse_perm [OS (.slice ga nA ca) xa, OS (.slice gb nB cb) xb, OS (.slice gc nC cc) xc, OS (.slice gd nD cd) xd])) hs5))
       clear hx hsg hs1 hs2 hs3 hs4 hs5)))
  refine bodyPost_ret_by (v := .agg #[.int .i64 sS, .int .i64 sI, .int .i64 sO, .slice ga nA ca, .slice gb nB cb, .slice gc nC cc, .slice gd nD cd]) ?_ rfl ⟨_, _, _, _, _, _, _, _, xa, xb, xc, xd, rfl, HXA.out, HXB.out, HXC.out, HXD.out, HSF.out⟩
  simp [results, go_sem, *]
set_option maxHeartbeats 4000000 in
theorem eqSS_same (s : StSp) (av bv cv dv av' bv' cv' dv' : Value) (w : World) (h : RdSs w s av bv cv dv) (h' : RdSs w s av' bv' cv' dv') (hs : SmS s) :
    Calls Tryd.prog 11 #[.agg #[.int .i64 s.S, .int .i64 s.I, .int .i64 s.O, av, bv, cv, dv], .agg #[.int .i64 s.S, .int .i64 s.I, .int .i64 s.O, av', bv', cv', dv']] w fun e w' => e = .returned (.bool true) ∧ w.grownBy w' none := by
  have HEA := Lib.hid fun W (hw : w.grownBy W none) => eqIntSS_same _ _ s.A W (h.a.carry hw) (h'.a.carry hw) (by have := hs.l; omega) (fun r hr => by have := hs.a r hr; omega)
  have HEB := Lib.hid fun W (hw : w.grownBy W none) => eqIntSS_same _ _ s.B W (h.b.carry hw) (h'.b.carry hw) (by have := hs.l; omega) (fun r hr => by have := hs.b r hr; omega)
  have HEC := Lib.hid fun W (hw : w.grownBy W none) => eqIntSS_same _ _ s.C W (h.c.carry hw) (h'.c.carry hw) (by have := hs.l; omega) (fun r hr => by have := hs.c r hr; omega)
  have HED := Lib.hid fun W (hw : w.grownBy W none) => eqIntSS_same _ _ s.D W (h.d.carry hw) (h'.d.carry hw) (by have := hs.l; omega) (fun r hr => by have := hs.d r hr; omega)
  obtain ⟨sa, ta, rfl⟩ := h.a.shape
  obtain ⟨sb, tb, rfl⟩ := h.b.shape
  obtain ⟨sc, tc, rfl⟩ := h.c.shape
  obtain ⟨sd, td, rfl⟩ := h.d.shape
  obtain ⟨sa1, ta1, rfl⟩ := h'.a.shape
  obtain ⟨sb1, tb1, rfl⟩ := h'.b.shape
  obtain ⟨sc1, tc1, rfl⟩ := h'.c.shape
  obtain ⟨sd1, td1, rfl⟩ := h'.d.shape
  have hs0 := ((Sep.start w).box #[.int .i64 s.S, .int .i64 s.I, .int .i64 s.O, .slice sa s.A.length ta, .slice sb s.B.length tb, .slice sc s.C.length tc, .slice sd s.D.length td] 32).boxAt (w.heap.size + 1) (by simp) #[.int .i64 s.S, .int .i64 s.I, .int .i64 s.O, .slice sa1 s.A.length ta1, .slice sb1 s.B.length tb1, .slice sc1 s.C.length tc1, .slice sd1 s.D.length td1] 32
  have HS0 := Lib.hid hs0
  have HK0 := Lib.hid (show w.grownBy _ none from hs0.tl.tl.hd)
  obtain ⟨x0, x1, x2, x3, x4, x5, x6⟩ := bq7 hs0.hd
  obtain ⟨y0, y1, y2, y3, y4, y5, y6⟩ := bq7 hs0.tl.hd
  clear h h' hs hs0
  generalize s.A.length = nA at *
  generalize s.B.length = nB at *
  generalize s.C.length = nC at *
  generalize s.D.length = nD at *
  have e1 : (s.S != s.S) = false := by simp
  have e2 : (s.I != s.I) = false := by simp
  have e3 : (s.O != s.O) = false := by simp
  go_enter Tryd.func11, Tryd.ntmps11
  go_wp2_with (first
    | (go_at_call 38
       with_reducible refine (HEA.out _ HK0.out).mono ?_
       rintro e w1 ⟨rfl, hg⟩
       have hs := HS0.out.grown hg
       clear x0 x1 x2 x3 x4 x5 x6 y0 y1 y2 y3 y4 y5 y6
       obtain ⟨x0, x1, x2, x3, x4, x5, x6⟩ := bq7 hs.hd
       obtain ⟨y0, y1, y2, y3, y4, y5, y6⟩ := bq7 hs.tl.hd
       have HS1 := Lib.hid hs
       have HK1 := Lib.hid (show w.grownBy w1 none from hs.tl.tl.hd)
       clear hg hs)
    | (go_at_call 38
       with_reducible refine (HEB.out _ HK1.out).mono ?_
       rintro e w2 ⟨rfl, hg⟩
       have hs := HS1.out.grown hg
       clear x0 x1 x2 x3 x4 x5 x6 y0 y1 y2 y3 y4 y5 y6
       obtain ⟨x0, x1, x2, x3, x4, x5, x6⟩ := bq7 hs.hd
       obtain ⟨y0, y1, y2, y3, y4, y5, y6⟩ := bq7 hs.tl.hd
       have HS2 := Lib.hid hs
       have HK2 := Lib.hid (show w.grownBy w2 none from hs.tl.tl.hd)
       clear hg hs)
    | (go_at_call 38
       with_reducible refine (HEC.out _ HK2.out).mono ?_
       rintro e w3 ⟨rfl, hg⟩
       have hs := HS2.out.grown hg
       clear x0 x1 x2 x3 x4 x5 x6 y0 y1 y2 y3 y4 y5 y6
       obtain ⟨x0, x1, x2, x3, x4, x5, x6⟩ := bq7 hs.hd
       obtain ⟨y0, y1, y2, y3, y4, y5, y6⟩ := bq7 hs.tl.hd
       have HS3 := Lib.hid hs
       have HK3 := Lib.hid (show w.grownBy w3 none from hs.tl.tl.hd)
       clear hg hs)
    | (go_at_call 38
       with_reducible refine (HED.out _ HK3.out).mono ?_
       rintro e w4 ⟨rfl, hg⟩
       have hs := HS3.out.grown hg
       clear x0 x1 x2 x3 x4 x5 x6 y0 y1 y2 y3 y4 y5 y6
       obtain ⟨x0, x1, x2, x3, x4, x5, x6⟩ := bq7 hs.hd
       obtain ⟨y0, y1, y2, y3, y4, y5, y6⟩ := bq7 hs.tl.hd
       have HS4 := Lib.hid hs
       have HK4 := Lib.hid (show w.grownBy w4 none from hs.tl.tl.hd)
       clear hg hs))
  go_ret
  exact ⟨rfl, HK4.out⟩
/-- What marking hands back, as far as it matters. -/
def MarkR (b : Int) (l : List Asrt) (e : Ending) (w' : World) : Prop := ∃ r : Int, e = .returned (.int .i64 r) ∧ 0 ≤ r ∧ r ≤ b ∧ Sep w' l
set_option maxHeartbeats 4000000 in
theorem markSS_any (s : StSp) (sa sb sc sd : Option Addr) (ta tb tc td : Nat) (xa xb xc xd : List XR) (k : Int) (w : World) (l : List Asrt) (hs : Sep w (OX4 (.slice sa s.A.length ta) xa (.slice sb s.B.length tb) xb (.slice sc s.C.length tc) xc (.slice sd s.D.length td) xd :: l)) (ha : rws xa = s.A) (hb : rws xb = s.B) (hc : rws xc = s.C) (hd : rws xd = s.D) (ht : totSS s ≤ 1048576) (h0 : 0 ≤ k) (h1 : k ≤ 10000000) :
    Calls Tryd.prog 12 #[.agg #[.int .i64 s.S, .int .i64 s.I, .int .i64 s.O, .slice sa s.A.length ta, .slice sb s.B.length tb, .slice sc s.C.length tc, .slice sd s.D.length td], .int .i64 k] w (MarkR (k + 3000000) l) := by
  unfold totSS tS at ht
  have lA : s.A.length = xa.length := by rw [← ha, rws_len]
  have uA : totS (rws xa) ≤ 1048576 := by rw [ha]; omega
  have lB : s.B.length = xb.length := by rw [← hb, rws_len]
  have uB : totS (rws xb) ≤ 1048576 := by rw [hb]; omega
  have lC : s.C.length = xc.length := by rw [← hc, rws_len]
  have uC : totS (rws xc) ≤ 1048576 := by rw [hc]; omega
  have lD : s.D.length = xd.length := by rw [← hd, rws_len]
  have uD : totS (rws xd) ≤ 1048576 := by rw [hd]; omega
  obtain ⟨k1, e1⟩ : ∃ q, q = k + (totS (rws xa) : Int) := ⟨_, rfl⟩
  have HM1 := Lib.hid fun W l (h : Sep W (OS (.slice sa s.A.length ta) xa :: l)) => markIntSS_any sa s.A.length ta xa k W l h lA (by omega) (by omega) (by omega) (by omega)
  rw [← e1] at HM1
  obtain ⟨k2, e2⟩ : ∃ q, q = k1 + (totS (rws xb) : Int) := ⟨_, rfl⟩
  have HM2 := Lib.hid fun W l (h : Sep W (OS (.slice sb s.B.length tb) xb :: l)) => markIntSS_any sb s.B.length tb xb k1 W l h lB (by omega) (by omega) (by omega) (by omega)
  rw [← e2] at HM2
  obtain ⟨k3, e3⟩ : ∃ q, q = k2 + (totS (rws xc) : Int) := ⟨_, rfl⟩
  have HM3 := Lib.hid fun W l (h : Sep W (OS (.slice sc s.C.length tc) xc :: l)) => markIntSS_any sc s.C.length tc xc k2 W l h lC (by omega) (by omega) (by omega) (by omega)
  rw [← e3] at HM3
  obtain ⟨k4, e4⟩ : ∃ q, q = k3 + (totS (rws xd) : Int) := ⟨_, rfl⟩
  have HM4 := Lib.hid fun W l (h : Sep W (OS (.slice sd s.D.length td) xd :: l)) => markIntSS_any sd s.D.length td xd k3 W l h lD (by omega) (by omega) (by omega) (by omega)
  rw [← e4] at HM4
  have HB := Lib.hid (show 0 ≤ k4 ∧ k4 ≤ k + 3000000 from ⟨by omega, by have := ha; rw [ha] at e1; rw [hb] at e2; rw [hc] at e3; rw [hd] at e4; omega⟩)
  have hs0 := (Sep.unbag (l := [_, _, _, _]) hs).box #[.int .i64 s.S, .int .i64 s.I, .int .i64 s.O, .slice sa s.A.length ta, .slice sb s.B.length tb, .slice sc s.C.length tc, .slice sd s.D.length td] 32
  have HS0 := Lib.hid (Sep.blk (A := [_]) (B := [_, _, _, _]) hs0)
  clear hs hs0 ht ha hb hc hd e1 e2 e3 e4 uA uB uC uD lA lB lC lD
  generalize s.A.length = nA at *
  generalize s.B.length = nB at *
  generalize s.C.length = nC at *
  generalize s.D.length = nD at *
  go_enter Tryd.func12, Tryd.ntmps12
  go_wp2_with (first
    | (go_at_call 39
       with_reducible refine (HM1.out _ _ HS0.out).mono ?_
       rintro e w1 ⟨rfl, hs⟩
       have hs2 := hs.tl
       obtain ⟨x0, x1, x2, x3, x4, x5, x6⟩ := bq7 hs2.tl.tl.tl.hd
       have HS1 := Lib.hid hs2
       clear hs hs2)
    | (go_at_call 39
       with_reducible refine (HM2.out _ _ HS1.out).mono ?_
       rintro e w2 ⟨rfl, hs⟩
       clear x0 x1 x2 x3 x4 x5 x6
       have hs2 := hs.tl
       obtain ⟨x0, x1, x2, x3, x4, x5, x6⟩ := bq7 hs2.tl.tl.hd
       have HS2 := Lib.hid hs2
       clear hs hs2)
    | (go_at_call 39
       with_reducible refine (HM3.out _ _ HS2.out).mono ?_
       rintro e w3 ⟨rfl, hs⟩
       clear x0 x1 x2 x3 x4 x5 x6
       have hs2 := hs.tl
       obtain ⟨x0, x1, x2, x3, x4, x5, x6⟩ := bq7 hs2.tl.hd
       have HS3 := Lib.hid hs2
       clear hs hs2)
    | (go_at_call 39
       with_reducible refine (HM4.out _ _ HS3.out).mono ?_
       rintro e w4 ⟨rfl, hs⟩
       clear x0 x1 x2 x3 x4 x5 x6
       have hs2 := hs.tl
       obtain ⟨x0, x1, x2, x3, x4, x5, x6⟩ := bq7 hs2.hd
       have HS4 := Lib.hid hs2
       clear hs hs2))
  go_ret
  exact ⟨k4, rfl, HB.out.1, HB.out.2, HS4.out.tl⟩
end Go.Proofs.YtghfifpicklonaaDoor

/-
  A state space that came in: its lists of rows can be read. Conditions: none.
-/
namespace Go.Proofs.YtghfifpicklonaaDoor
open Go.ChangeShapes Go.WideShapes Go.ChangeAt Go.RowKit Go.Deep Go.Joins
set_option linter.unusedVariables false
set_option maxRecDepth 100000

section
variable {H : Type} {enc : TypeId × Value → H} {W : World} {sp : Nat → Bool} {held : Bool}
/-- The seven fields of a struct, each read. -/
theorem trod_seven {t : TypeId} {f0 f1 f2 f3 f4 f5 f6 : Field} {fuel : Nat} {cs : List Value} {x : DataW H × List MemPlace} (ht : Tryd.prog.underlying t = some (.struct #[f0, f1, f2, f3, f4, f5, f6])) (h : DataW.trod enc Tryd.prog W 0 sp held fuel t cs = some x) :
    cs.length = Tryd.prog.cellsOf t ∧ ∃ y0 y1 y2 y3 y4 y5 y6 n, DataW.trod enc Tryd.prog W 0 sp held n f0.type ((cs.drop f0.offset).take (Tryd.prog.cellsOf f0.type)) = some y0 ∧
      DataW.trod enc Tryd.prog W 0 sp held n f1.type ((cs.drop f1.offset).take (Tryd.prog.cellsOf f1.type)) = some y1 ∧ DataW.trod enc Tryd.prog W 0 sp held n f2.type ((cs.drop f2.offset).take (Tryd.prog.cellsOf f2.type)) = some y2 ∧
      DataW.trod enc Tryd.prog W 0 sp held n f3.type ((cs.drop f3.offset).take (Tryd.prog.cellsOf f3.type)) = some y3 ∧ DataW.trod enc Tryd.prog W 0 sp held n f4.type ((cs.drop f4.offset).take (Tryd.prog.cellsOf f4.type)) = some y4 ∧
      DataW.trod enc Tryd.prog W 0 sp held n f5.type ((cs.drop f5.offset).take (Tryd.prog.cellsOf f5.type)) = some y5 ∧ DataW.trod enc Tryd.prog W 0 sp held n f6.type ((cs.drop f6.offset).take (Tryd.prog.cellsOf f6.type)) = some y6 := by
  obtain ⟨xs, n, _, -, hl, hlen, hf⟩ := DataW.trod_struct ht h
  refine ⟨hl, ?_⟩
  match xs, hlen with
  | [y0, y1, y2, y3, y4, y5, y6], _ => exact ⟨y0, y1, y2, y3, y4, y5, y6, n, by simpa using hf 0 f0 rfl, by simpa using hf 1 f1 rfl, by simpa using hf 2 f2 rfl, by simpa using hf 3 f3 rfl, by simpa using hf 4 f4 rfl, by simpa using hf 5 f5 rfl, by simpa using hf 6 f6 rfl⟩
theorem seven {α : Type} {l : List α} (h : l.length = 7) : ∃ c0 c1 c2 c3 c4 c5 c6, l = [c0, c1, c2, c3, c4, c5, c6] := by
  match l, h with
  | [c0, c1, c2, c3, c4, c5, c6], _ => exact ⟨c0, c1, c2, c3, c4, c5, c6, rfl⟩
theorem rows_in {fuel : Nat} {cs : List Value} {x : DataW H × List MemPlace} (h : DataW.trod enc Tryd.prog W 0 sp held fuel 22 cs = some x) : ∃ v L, cs = [v] ∧ RdS W v L ∧ okS L := by
  rcases open_slice Tryd.underlying22 h with ⟨hcs, _⟩ | ⟨a, len, cap, m, n, D, Pl, rfl, hb, hl, hm, hmm, rfl, hx⟩
  · exact ⟨_, [], hcs, ⟨[], rfl, RdR.nil rowE W, by simp⟩, by decide, by simp⟩
  · unfold maxLen at hm
    have hlm : len ≤ m := by rw [hmm]; split <;> omega
    have hc1 : Tryd.prog.cellsOf 27 = 1 := by kernel_rfl
    have each : ∀ i, i < len → ∃ g : XR, (∀ j, j < 1 → W.cell? ((a.add (i * 1)).add j) = [g.v][j]?) ∧ IntsV W g.v g.zs ∧ g.zs.length ≤ 9223372036854775807 := by
      intro i hi
      obtain ⟨cs', h1, h2⟩ := hx i (by omega)
      rw [hc1] at h1
      obtain ⟨_, hlen, hcell⟩ := World.cells?_some h1
      match cs', hlen with
      | [c0], _ =>
        obtain ⟨v0, z0, e0, r0, b0⟩ := ints_in h2
        simp at e0
        subst e0
        exact ⟨⟨c0, z0⟩, fun j hj => hcell j hj, r0, b0⟩
    have hch : ∃ G : Nat → XR, ∀ i, i < len → (∀ j, j < 1 → W.cell? ((a.add (i * 1)).add j) = [(G i).v][j]?) ∧ IntsV W (G i).v (G i).zs ∧ (G i).zs.length ≤ 9223372036854775807 := by
      haveI : Inhabited XR := ⟨xr0⟩
      exact choose_lt each
    obtain ⟨G, hG⟩ := hch
    refine ⟨_, rws ((List.range len).map G), rfl, ⟨(List.range len).map G, rfl, ⟨some a, cap, by simp, fun hne => ?_⟩, fun x hx => ?_⟩, by simp [rws]; omega, fun e he => ?_⟩
    · have h0 : 0 < len := by
        rcases Nat.eq_zero_or_pos len with h | h
        · subst h; exact absurd rfl hne
        · exact h
      obtain ⟨b, off, spot⟩ := a
      have hc00 : W.cell? ((⟨b, off, spot⟩ : Addr).add (0 * 1) |>.add 0) = some (G 0).v := (hG 0 h0).1 0 (by omega)
      have hspot : spot = none := by
        have := World.cell?_spot hc00
        simpa [Addr.add] using this
      subst hspot
      refine ⟨⟨b, off, none⟩, rfl, rfl, ?_, fun i hi j hj => ?_⟩
      · have h1 := World.block_lt_of_cell? W _ hc00
        simpa [Addr.add] using h1
      · have hi' : i < len := by simpa using hi
        have h1 := (hG i hi').1 j hj
        rw [add_off, add_off] at h1
        show W.cell? ⟨b, off + i * 1 + j, none⟩ = _
        rw [h1]
        simp [rowE]
    · obtain ⟨i, hi, rfl⟩ := List.mem_map.1 hx
      exact (hG i (List.mem_range.1 hi)).2.1
    · obtain ⟨x, hx, rfl⟩ := List.mem_map.1 he
      obtain ⟨i, hi, rfl⟩ := List.mem_map.1 hx
      exact (hG i (List.mem_range.1 hi)).2.2
theorem state_in {r : Reach} {b0 : Nat} {v : Value} {d : DataW H} {p : List MemPlace} (hv : Value.okWide Tryd.prog W r b0 24 v) (h : DataW.Trod enc Tryd.prog W 0 sp held 24 v d p) :
    ∃ s av bv cv dv, v = .agg #[.int .i64 s.S, .int .i64 s.I, .int .i64 s.O, av, bv, cv, dv] ∧ RdSs W s av bv cv dv ∧ okSS s := by
  obtain ⟨cs, rfl, hsz⟩ := okWide_struct Tryd.underlying24 hv
  obtain ⟨l⟩ := cs
  have hc1 : Tryd.prog.cellsOf 3 = 1 := by kernel_rfl
  have hcl : Tryd.prog.cellsOf 22 = 1 := by kernel_rfl
  have hcs : Tryd.prog.cellsOf 24 = 7 := by kernel_rfl
  obtain ⟨c0, c1, c2, c3, c4, c5, c6, rfl⟩ := seven (show l.length = 7 from hsz.trans hcs)
  obtain ⟨fuel, hf⟩ := h
  obtain ⟨-, y0, y1, y2, y3, y4, y5, y6, k, f0, f1, f2, f3, f4, f5, f6⟩ := trod_seven Tryd.underlying24 hf
  simp only [hc1, hcl, Value.cells] at f0 f1 f2 f3 f4 f5 f6
  obtain ⟨n0, e0, _⟩ := DataW.trod_int Tryd.underlying3 f0
  obtain ⟨n1, e1, _⟩ := DataW.trod_int Tryd.underlying3 f1
  obtain ⟨n2, e2, _⟩ := DataW.trod_int Tryd.underlying3 f2
  obtain ⟨v3, L3, e3, r3, b3⟩ := rows_in f3
  obtain ⟨v4, L4, e4, r4, b4⟩ := rows_in f4
  obtain ⟨v5, L5, e5, r5, b5⟩ := rows_in f5
  obtain ⟨v6, L6, e6, r6, b6⟩ := rows_in f6
  simp at e0 e1 e2 e3 e4 e5 e6
  subst e0 e1 e2 e3 e4 e5 e6
  exact ⟨⟨n0, n1, n2, L3, L4, L5, L6⟩, _, _, _, _, rfl, ⟨r3, r4, r5, r6⟩, b3, b4, b5, b6⟩
end
end Go.Proofs.YtghfifpicklonaaDoor

/-
  The circuit of a state space, in plain Lean; how the program adds gates. Conditions: as each says.
-/
namespace Go.Proofs.YtghfifpicklonaaDoor
open Go.RowKit
set_option linter.unusedVariables false
set_option maxRecDepth 100000

/-- One term of a sum is added to the gates: x is a gate and its coefficient; the second part is the gate of the sum so far. -/
def sumStep (st : List Gt × Int) (x : Int × Int) : List Gt × Int :=
  if x.2 = 0 then st
  else if x.2 = 1 then (if 0 ≤ st.2 then (st.1 ++ [⟨3, st.2, x.1, 0⟩], (st.1.length : Int)) else (st.1, x.1))
  else if 0 ≤ st.2 then (st.1 ++ [⟨4, x.1, 0, x.2⟩, ⟨3, st.2, (st.1.length : Int), 0⟩], (st.1.length : Int) + 1) else (st.1 ++ [⟨4, x.1, 0, x.2⟩], (st.1.length : Int))
def sumEnd (st : List Gt × Int) : List Gt × Int := if st.2 < 0 then (st.1 ++ [⟨2, 0, 0, 0⟩], (st.1.length : Int)) else st
def sumF (G : List Gt) (ps : List (Int × Int)) : List Gt × Int := ps.foldl sumStep (G, -1)
def sumG (G : List Gt) (ps : List (Int × Int)) : List Gt × Int := sumEnd (sumF G ps)
theorem sumF_snoc (G : List Gt) (ps : List (Int × Int)) (x : Int × Int) : sumF G (ps ++ [x]) = sumStep (sumF G ps) x := by simp [sumF]
theorem sumStep_len (st : List Gt × Int) (x : Int × Int) : (sumStep st x).1.length ≤ st.1.length + 2 ∧ st.1.length ≤ (sumStep st x).1.length := by
  unfold sumStep
  split
  · omega
  · split
    · split <;> simp
    · split <;> simp
theorem sumF_len (G : List Gt) (ps : List (Int × Int)) : (sumF G ps).1.length ≤ G.length + 2 * ps.length ∧ G.length ≤ (sumF G ps).1.length := by
  unfold sumF
  have h : ∀ (ps : List (Int × Int)) (st : List Gt × Int), (ps.foldl sumStep st).1.length ≤ st.1.length + 2 * ps.length ∧ st.1.length ≤ (ps.foldl sumStep st).1.length := by
    intro ps
    induction ps with
    | nil => intro st; simp
    | cons x r ih =>
      intro st
      have h1 := sumStep_len st x
      have h2 := ih (sumStep st x)
      simp only [List.foldl_cons, List.length_cons]
      omega
  exact h ps (G, -1)
theorem sumG_len (G : List Gt) (ps : List (Int × Int)) : (sumG G ps).1.length ≤ G.length + 2 * ps.length + 1 ∧ G.length ≤ (sumG G ps).1.length := by
  have := sumF_len G ps
  unfold sumG sumEnd
  split
  · simp; omega
  · omega
theorem take_snoc {α : Type} {l : List α} {k : Nat} {x : α} (hk : k < l.length) (hx : l[k] = x) : l.take (k + 1) = l.take k ++ [x] := by
  rw [List.take_succ_eq_append_getElem hk, hx]
theorem zip_take {zs cs : List Int} {k : Nat} (h1 : k < zs.length) (h2 : k < cs.length) : (zs.zip cs).take (k + 1) = (zs.zip cs).take k ++ [(zs.getD k 0, cs.getD k 0)] := by
  refine take_snoc (by rw [List.length_zip]; omega) ?_
  rw [List.getElem_zip, List.getD_eq_getElem?_getD, List.getD_eq_getElem?_getD, List.getElem?_eq_getElem h1, List.getElem?_eq_getElem h2]
  rfl
/-- A column of a list of rows. -/
def colL (M : List (List Int)) (j : Nat) : List Int := M.map fun r => r.getD j 0
theorem colL_take {M : List (List Int)} {j k : Nat} (hk : k < M.length) : colL (M.take (k + 1)) j = colL (M.take k) j ++ [(M.getD k []).getD j 0] := by
  unfold colL
  rw [List.take_succ_eq_append_getElem hk, List.map_append, List.getD_eq_getElem?_getD (l := M), List.getElem?_eq_getElem hk]
  rfl
/-! ### the program -/
/-- What adding a gate hands back. -/
def GateR (I : Int) (cb : Nat) (ov : Value) (G : List Gt) (y : Gt) (l : List Asrt) (e : Ending) (w' : World) : Prop :=
  ∃ gv', e = .returned (.int .i64 G.length) ∧ Sep w' (BxA cb #[.int .i64 I, gv', ov] 29 :: OR gateE gv' (G ++ [y]) :: l)
set_option maxHeartbeats 4000000 in
theorem gate_any (I : Int) (cb : Nat) (gv ov : Value) (G : List Gt) (y : Gt) (w : World) (l : List Asrt) (hG : G.length ≤ 1000000) (hs : Sep w (BxA cb #[.int .i64 I, gv, ov] 29 :: OR gateE gv G :: l)) :
    Calls Tryd.prog 78 #[.agg #[.pointer (some ⟨cb, 0, none⟩)], .agg #[.int .i64 y.k, .int .i64 y.a, .int .i64 y.b, .int .i64 y.v]] w (GateR I cb ov G y l) := by
  obtain ⟨ga, gc, rfl⟩ := OwnR.shape (show OwnR gateE 0 w gv G from hs.tl.hd)
  have hs0 := (hs.boxAt w.heap.size rfl #[.pointer (some ⟨cb, 0, none⟩)] 107).boxAt (w.heap.size + 1) (by simp) #[.int .i64 y.k, .int .i64 y.a, .int .i64 y.b, .int .i64 y.v] 98
  have HD := Lib.hid hs0.dr
  have HBM := Lib.hid fun (W1 : World) (L : List Asrt) (h : Sep W1 L) (h1 : BxA w.heap.size #[.pointer (some ⟨cb, 0, none⟩)] 107 ∈ L) (h2 : BxA (w.heap.size + 1) #[.int .i64 y.k, .int .i64 y.a, .int .i64 y.b, .int .i64 y.v] 98 ∈ L) => show W1.cell? ⟨w.heap.size, 0, none⟩ = some (.pointer (some ⟨cb, 0, none⟩)) ∧ (W1.cell? ⟨w.heap.size + 1, 0, none⟩ = some (.int .i64 y.k) ∧ W1.cell? ⟨w.heap.size + 1, 1, none⟩ = some (.int .i64 y.a) ∧ W1.cell? ⟨w.heap.size + 1, 2, none⟩ = some (.int .i64 y.b) ∧ W1.cell? ⟨w.heap.size + 1, 3, none⟩ = some (.int .i64 y.v)) from
    have q := cell_of_row W1 _ 0 _ _ _ (show W1.heap[w.heap.size]? = some (.cells #[.pointer (some ⟨cb, 0, none⟩)] 107 (0, 0)) from Sep.all h _ h1)
    have q2 := bq4 (show W1.heap[w.heap.size + 1]? = some (.cells #[.int .i64 y.k, .int .i64 y.a, .int .i64 y.b, .int .i64 y.v] 98 (0, 0)) from Sep.all h _ h2)
    ⟨q, q2.1, q2.2.1, q2.2.2.1, q2.2.2.2.1⟩
  have X0 := Lib.hid (HBM.out _ _ HD.out (by simp) (by simp))
  have Y0 := Lib.hid (bx3 HD.out.tl.tl.hd).2.1
  have HCB := Lib.hid (show cb < w.heap.size from blk_lt hs.hd)
  have HGL := Lib.hid hG
  clear hs hs0
  go_enter Tryd.func78, Tryd.ntmps78
  go_upto_region 1 with fail
  refine AnyL.start (fun W1 => W1.cell? ⟨w.heap.size, 0, none⟩ = some (.pointer (some ⟨cb, 0, none⟩)) ∧ (W1.cell? ⟨w.heap.size + 1, 0, none⟩ = some (.int .i64 y.k) ∧ W1.cell? ⟨w.heap.size + 1, 1, none⟩ = some (.int .i64 y.a) ∧ W1.cell? ⟨w.heap.size + 1, 2, none⟩ = some (.int .i64 y.b) ∧ W1.cell? ⟨w.heap.size + 1, 3, none⟩ = some (.int .i64 y.v))) (fun W1 => W1.cell? ⟨cb, 1, none⟩ = some (.slice ga G.length gc)) 12 (by kernel_rfl) ?_
  refine AnyL.take (i := 0) (v := ?vx1) (by rfl) (by kernel_rfl) (by kernel_rfl) (by kernel_rfl) rfl (by exact fun _ _ _ h => h) (by rfl) ?hyx1 (by exact ⟨X0.out, fun _ => Y0.out⟩) ?restx1
  case hyx1 => intro W hSW; (try dsimp only at hSW); first | (go_simp; done) | (go_simp; with_reducible rfl)
  try simp only [Act.put, List.setIfInBounds_toArray, List.set_cons_zero, List.set_cons_succ]
  refine AnyL.take (i := 1) (v := ?vx2) (by rfl) (by kernel_rfl) (by kernel_rfl) (by kernel_rfl) rfl (by exact fun _ _ _ h => h) (by rfl) ?hyx2 (by exact ⟨X0.out, fun _ => Y0.out⟩) ?restx2
  case hyx2 => intro W hSW; (try dsimp only at hSW); first | (go_simp; done) | (go_simp; with_reducible rfl)
  try simp only [Act.put, List.setIfInBounds_toArray, List.set_cons_zero, List.set_cons_succ]
  refine AnyL.take (i := 2) (v := ?vx3) (by rfl) (by kernel_rfl) (by kernel_rfl) (by kernel_rfl) rfl (by exact fun _ _ _ h => h) (by rfl) ?hyx3 (by exact ⟨X0.out, fun _ => Y0.out⟩) ?restx3
  case hyx3 => intro W hSW; (try dsimp only at hSW); first | (go_simp; done) | (go_simp; with_reducible rfl)
  try simp only [Act.put, List.setIfInBounds_toArray, List.set_cons_zero, List.set_cons_succ]
  refine AnyL.take (i := 3) (v := ?vx4) (by rfl) (by kernel_rfl) (by kernel_rfl) (by kernel_rfl) rfl (by exact fun _ _ _ h => h) (by rfl) ?hyx4 (by exact ⟨X0.out, fun _ => Y0.out⟩) ?restx4
  case hyx4 => intro W hSW; (try dsimp only at hSW); first | (go_simp; done) | (go_simp; with_reducible rfl)
  try simp only [Act.put, List.setIfInBounds_toArray, List.set_cons_zero, List.set_cons_succ]
  refine AnyL.take (i := 4) (v := ?vx5) (by rfl) (by kernel_rfl) (by kernel_rfl) (by kernel_rfl) rfl (by exact fun _ _ _ h => h) (by rfl) ?hyx5 (by exact ⟨X0.out, fun _ => Y0.out⟩) ?restx5
  case hyx5 => intro W hSW; (try dsimp only at hSW); first | (go_simp; done) | (go_simp; with_reducible rfl)
  try simp only [Act.put, List.setIfInBounds_toArray, List.set_cons_zero, List.set_cons_succ]
  refine AnyL.take (i := 5) (v := ?vx6) (by rfl) (by kernel_rfl) (by kernel_rfl) (by kernel_rfl) rfl (by exact fun _ _ _ h => h) (by rfl) ?hyx6 (by exact ⟨X0.out, fun _ => Y0.out⟩) ?restx6
  case hyx6 => intro W hSW; (try dsimp only at hSW); first | (go_simp; done) | (go_simp; with_reducible rfl)
  try simp only [Act.put, List.setIfInBounds_toArray, List.set_cons_zero, List.set_cons_succ]
  refine AnyL.takeA (i := 6) (v := ?vx7) (by rfl) (by kernel_rfl) (by kernel_rfl) (by kernel_rfl) rfl (by rfl) (by kernel_rfl) (by kernel_rfl) (by exact fun _ _ _ h => h) (by rfl) ?hyx7 (by exact ⟨X0.out, fun _ => Y0.out⟩) ?restx7
  case hyx7 => intro W hSW; (try dsimp only at hSW); first | (go_simp; done) | (go_simp; with_reducible rfl)
  try simp only [Act.put, List.setIfInBounds_toArray, List.set_cons_zero, List.set_cons_succ]
  refine AnyL.take (i := 7) (v := ?vx8) (by rfl) (by kernel_rfl) (by kernel_rfl) (by kernel_rfl) rfl (by exact fun _ _ _ h => h) (by rfl) ?hyx8 (by exact ⟨X0.out, fun _ => Y0.out⟩) ?restx8
  case hyx8 => intro W hSW; (try dsimp only at hSW); first | (go_simp; done) | (go_simp; with_reducible rfl)
  try simp only [Act.put, List.setIfInBounds_toArray, List.set_cons_zero, List.set_cons_succ]
  have HQ := Lib.hid (Sep.blk (A := [_, _, _]) (B := [_]) HD.out)
  have Y3 := Lib.hid fun ob => (show ((w.alloc (.cells #[.pointer (some ⟨cb, 0, none⟩)] 107) |>.alloc (.cells #[.int .i64 y.k, .int .i64 y.a, .int .i64 y.b, .int .i64 y.v] 98) |>.drew.alloc ob).cell? ⟨w.heap.size, 0, none⟩ = some (.pointer (some ⟨cb, 0, none⟩)) ∧ ((w.alloc (.cells #[.pointer (some ⟨cb, 0, none⟩)] 107) |>.alloc (.cells #[.int .i64 y.k, .int .i64 y.a, .int .i64 y.b, .int .i64 y.v] 98) |>.drew.alloc ob).cell? ⟨w.heap.size + 1, 0, none⟩ = some (.int .i64 y.k) ∧ (w.alloc (.cells #[.pointer (some ⟨cb, 0, none⟩)] 107) |>.alloc (.cells #[.int .i64 y.k, .int .i64 y.a, .int .i64 y.b, .int .i64 y.v] 98) |>.drew.alloc ob).cell? ⟨w.heap.size + 1, 1, none⟩ = some (.int .i64 y.a) ∧ (w.alloc (.cells #[.pointer (some ⟨cb, 0, none⟩)] 107) |>.alloc (.cells #[.int .i64 y.k, .int .i64 y.a, .int .i64 y.b, .int .i64 y.v] 98) |>.drew.alloc ob).cell? ⟨w.heap.size + 1, 2, none⟩ = some (.int .i64 y.b) ∧ (w.alloc (.cells #[.pointer (some ⟨cb, 0, none⟩)] 107) |>.alloc (.cells #[.int .i64 y.k, .int .i64 y.a, .int .i64 y.b, .int .i64 y.v] 98) |>.drew.alloc ob).cell? ⟨w.heap.size + 1, 3, none⟩ = some (.int .i64 y.v))) ∧ (w.alloc (.cells #[.pointer (some ⟨cb, 0, none⟩)] 107) |>.alloc (.cells #[.int .i64 y.k, .int .i64 y.a, .int .i64 y.b, .int .i64 y.v] 98) |>.drew.alloc ob).cell? ⟨cb, 1, none⟩ = some (.slice ga G.length gc) from ⟨HBM.out _ _ (HD.out.al ob) (by simp) (by simp), (bx3 (HD.out.al ob).tl.tl.hd).2.1⟩)
  refine AnyL.step (i := 8) (by kernel_rfl) (by rfl) (fun K hK => ?_)
  go_simp
  refine hK.out _ _ (by exact (Y3.out _).1) (by exact fun _ => (Y3.out _).2) ?_
  clear hK K
  try simp only [Act.put, List.setIfInBounds_toArray, List.set_cons_zero, List.set_cons_succ]
  refine AnyL.step (i := 9) (by kernel_rfl) (by rfl) (fun K hK => ?_)
  refine step_app_RG (E := gateE) (y := y) (xs := G) (v := .slice ga G.length gc) (q := w.heap.size + 1 + 1) info_gate rfl (by decide) Tryd.underlying26 (gate_one y) rfl (.tmp 11) (.tmp 13) rfl rfl rfl (by simp) rfl HQ.out (by have := HGL.out; omega) ?_
  intro g5 c5 w5 h5
  have H5 := Lib.hid (Sep.blk (A := [_, _, _]) (B := [_]) h5)
  have Y5 := Lib.hid (bx3 H5.out.hd).2.1
  have Z5 := Lib.hid (bx3 H5.out.hd).2.2.2.2.1
  clear h5
  refine hK.out _ _ (by exact HBM.out _ _ H5.out (by simp) (by simp)) (by exact fun _ => Y5.out) ?_
  clear hK K
  try simp only [Act.put, List.setIfInBounds_toArray, List.set_cons_zero, List.set_cons_succ]
  refine AnyL.take (i := 10) (v := ?vx9) (by rfl) (by kernel_rfl) (by kernel_rfl) (by kernel_rfl) rfl (by exact fun _ _ _ h => h) (by rfl) ?hyx9 (by exact ⟨HBM.out _ _ H5.out (by simp) (by simp), fun _ => Y5.out⟩) ?restx9
  case hyx9 => intro W hSW; (try dsimp only at hSW); first | (go_simp; done) | (go_simp; with_reducible rfl)
  try simp only [Act.put, List.setIfInBounds_toArray, List.set_cons_zero, List.set_cons_succ]
  refine AnyL.take (i := 11) (v := ?vx10) (by rfl) (by kernel_rfl) (by kernel_rfl) (by kernel_rfl) rfl (by exact fun _ _ _ h => h) (by rfl) ?hyx10 (by exact ⟨HBM.out _ _ H5.out (by simp) (by simp), fun _ => Y5.out⟩) ?restx10
  case hyx10 => intro W hSW; (try dsimp only at hSW); first | (go_simp; done) | (go_simp; with_reducible rfl)
  try simp only [Act.put, List.setIfInBounds_toArray, List.set_cons_zero, List.set_cons_succ]
  have H6 := Lib.hid (H5.out.setB 1 (.slice (some ⟨g5, 0, none⟩) (G.length + 1) c5))
  have y5 := Y5.out; have z5 := Z5.out
  refine AnyL.step (i := 12) (by kernel_rfl) (by rfl) (fun K hK => ?_)
  go_simp
  refine hK.out _ (w5.setCell ⟨cb, 1, none⟩ (.slice (some ⟨g5, 0, none⟩) (G.length + 1) c5)) (by exact HBM.out _ _ H6.out (by simp) (by simp)) (by exact fun h => by cases h) ?_
  clear hK K
  try simp only [Act.put, List.setIfInBounds_toArray, List.set_cons_zero, List.set_cons_succ]
  refine AnyL.done (by kernel_rfl) ?_ _
  obtain ⟨k0, _⟩ := HBM.out _ _ H6.out (by simp) (by simp)
  obtain ⟨m0, m1, m2, _⟩ := bx3 (x := .int .i64 I) (y := .slice (some ⟨g5, 0, none⟩) (G.length + 1) c5) (z := ov) (t := 29) H6.out.hd
  have hwr : IntKind.i64.wrap (((G.length + 1 : Nat) : Int) - 1) = (G.length : Int) := by rw [wrap_id (by have := HGL.out; omega) (by have := HGL.out; omega)]; omega
  have hwr2 : IntKind.i64.wrap ((G.length : Int) + 1 - 1) = (G.length : Int) := by rw [wrap_id (by have := HGL.out; omega) (by have := HGL.out; omega)]; omega
  clear y5 z5 X0 Y0
  generalize w5.setCell ⟨cb, 1, none⟩ (.slice (some ⟨g5, 0, none⟩) (G.length + 1) c5) = w6 at *
  go_wp2_with fail
  go_ret
  exact ⟨_, rfl, Sep.cutA (X := [_, _]) (A := [_, _]) H6.out⟩
end Go.Proofs.YtghfifpicklonaaDoor

/-
  The sum of gates and a column of rows, in the program. Conditions: lengths are small.
-/
namespace Go.Proofs.YtghfifpicklonaaDoor
open Go.RowKit
set_option linter.unusedVariables false
set_option maxRecDepth 100000

/-- Two lists, laid side by side for a call. -/
theorem rdL_two {w : World} {v1 v2 : Value} {z1 z2 : List Int} (h1 : IntsV w v1 z1) (h2 : IntsV w v2 z2) : RdL (w.alloc (.cells #[v1, v2] 27)) (.slice (some ⟨w.heap.size, 0, none⟩) 2 2) [⟨v1, z1⟩, ⟨v2, z2⟩] := by
  have hg := grownBy_alloc w (.cells #[v1, v2] 27) none
  have hn := alloc_heap_new w (.cells #[v1, v2] 27)
  refine ⟨⟨_, _, rfl, fun _ => ⟨_, rfl, rfl, by simp, fun i hi j hj => ?_⟩⟩, fun x hx => ?_⟩
  · have hj0 : j = 0 := by simp only [rowE] at hj; omega
    subst hj0
    match i, hi with
    | 0, _ => exact cell_of_row _ _ 0 _ _ _ hn
    | 1, _ => exact cell_of_row _ _ 1 _ _ _ hn
    | n + 2, h => simp at h; omega
  · simp only [List.mem_cons, List.not_mem_nil, or_false] at hx
    rcases hx with rfl | rfl
    · exact h1.carry hg
    · exact h2.carry hg

theorem own_atZ {w : World} {g n cap B j : Nat} {zs : List Int} (h : OwnInts B w (.slice (some ⟨g, 0, none⟩) n cap) zs) (hn : n = zs.length) (hj : j < n) : w.cell? ⟨g, j, none⟩ = some (.int .i64 (zs.getD j 0)) := by
  rw [h.cell hn (j := j) (by omega), List.getD_eq_getElem?_getD, List.getElem?_eq_getElem (by omega)]; rfl
theorem own_someZ {B : Nat} {w : World} {a : Option Addr} {n c : Nat} {zs : List Int} (h : OwnInts B w (.slice a n c) zs) (hz : 0 < zs.length) : ∃ b, a = some ⟨b, 0, none⟩ := by
  rcases h.2 with ⟨_, h0⟩ | ⟨g, cap, cur, he, _⟩
  · omega
  · injection he with e1 _ _
    exact ⟨g, e1⟩
theorem bq1Z {w : World} {k : Nat} {x : Value} {t : TypeId} (h : w.heap[k]? = some (.cells #[x] t (0, 0))) : w.cell? ⟨k, 0, none⟩ = some x ∧ w.frozen? ⟨k, 0, none⟩ = false := ⟨cell_of_row w k 0 _ _ _ h, frozen_of_row w k 0 _ _ h⟩
/-- What adding a sum hands back. -/
def SumR (I : Int) (cb : Nat) (ov : Value) (r : List Gt × Int) (l : List Asrt) (e : Ending) (w' : World) : Prop :=
  ∃ gv', e = .returned (.int .i64 r.2) ∧ Sep w' (BxA cb #[.int .i64 I, gv', ov] 29 :: OR gateE gv' r.1 :: l)
set_option maxHeartbeats 4000000 in
theorem sum_any (I : Int) (cb : Nat) (gv ov gsv cv : Value) (G : List Gt) (zs cs : List Int) (w : World) (l : List Asrt) (hG : G.length ≤ 500000) (hzc : zs.length = cs.length) (hcl : cs.length ≤ 100000)
    (hs : Sep w (BxA cb #[.int .i64 I, gv, ov] 29 :: OR gateE gv G :: OI gsv zs :: OI cv cs :: l)) :
    Calls Tryd.prog 80 #[.agg #[.pointer (some ⟨cb, 0, none⟩)], gsv, cv] w (SumR I cb ov (sumG G (zs.zip cs)) (OI gsv zs :: OI cv cs :: l)) := by
  obtain ⟨z1, z2, rfl⟩ := own_shape (show OwnInts 0 w gsv zs from hs.tl.tl.hd)
  obtain ⟨c1, c2, rfl⟩ := own_shape (show OwnInts 0 w cv cs from hs.tl.tl.tl.hd)
  have HS0 := Lib.hid (Sep.blk (A := [_]) (B := [_, _, _, _]) (hs.boxAt w.heap.size rfl #[.pointer (some ⟨cb, 0, none⟩)] 107))
  have HGL := Lib.hid hG; have HZC := Lib.hid hzc; have HCL := Lib.hid hcl
  have HLZ := Lib.hid fun k => (sumF_len G ((zs.zip cs).take k)).1
  have HGT := Lib.hid fun gv (H : List Gt) (y : Gt) W l (hl : H.length ≤ 1000000) (h : Sep W (BxA cb #[.int .i64 I, gv, ov] 29 :: OR gateE gv H :: l)) => gate_any I cb gv ov H y W l hl h
  obtain ⟨m, hm⟩ : ∃ m, m = cs.length := ⟨_, rfl⟩
  have HM := Lib.hid hm
  rw [← hm] at HS0 HCL ⊢
  have hzl : zs.length = m := by rw [hm]; exact hzc
  rw [hzl] at HS0 ⊢
  have HZL := Lib.hid hzl
  have hmb : m ≤ 100000 := by omega
  clear hs hG hzc hcl hm hzl
  go_enter Tryd.func80, Tryd.ntmps80
  go_wp2_with fail
  go_loopw [7, 8, 9, 10, 13] (fun o _ _ _ i wr => ∃ (k : Nat) (gv' : Value), k ≤ m ∧ i = .int .i64 k ∧ o = .int .i64 (sumF G ((zs.zip cs).take k)).2 ∧ Sep wr (BxA cb #[.int .i64 I, gv', ov] 29 :: OR gateE gv' (sumF G ((zs.zip cs).take k)).1 :: OI (.slice z1 m z2) zs :: OI (.slice c1 m c2) cs :: BxA w.heap.size #[.pointer (some ⟨cb, 0, none⟩)] 107 :: l)) (fun _ _ _ _ i _ => m - (intOf i).toNat)
  case atStart => exact ⟨0, gv, by omega, rfl, rfl, HS0.out⟩
  case round =>
    obtain ⟨k, gv', hk, rfl, rfl, hs⟩ := hrel
    have HSR := Lib.hid hs
    clear hs HS0
    by_cases hlt : k < m
    · have HLT := Lib.hid hlt
      have hkc : k < cs.length := by rw [← HM.out]; exact hlt
      have hkz : k < zs.length := by rw [HZL.out]; exact hlt
      obtain ⟨zb, hzb⟩ := own_someZ (show OwnInts 0 wr (.slice z1 m z2) zs from HSR.out.tl.tl.hd) (by omega)
      obtain ⟨cb2, hcb⟩ := own_someZ (show OwnInts 0 wr (.slice c1 m c2) cs from HSR.out.tl.tl.tl.hd) (by omega)
      subst hzb hcb
      have x0 := own_atZ (show OwnInts 0 wr (.slice (some ⟨zb, 0, none⟩) m z2) zs from HSR.out.tl.tl.hd) HZL.out.symm (j := k) (by omega)
      have y0 := own_atZ (show OwnInts 0 wr (.slice (some ⟨cb2, 0, none⟩) m c2) cs from HSR.out.tl.tl.tl.hd) HM.out (j := k) (by omega)
      obtain ⟨k0, _⟩ := bq1Z HSR.out.tl.tl.tl.tl.hd
      have HTK := Lib.hid (show sumF G ((zs.zip cs).take (k + 1)) = sumStep (sumF G ((zs.zip cs).take k)) (zs.getD k 0, cs.getD k 0) from by rw [zip_take hkz hkc, sumF_snoc])
      have hln := HLZ.out k
      have hlen : ((zs.zip cs).take k).length ≤ k := by rw [List.length_take]; omega
      have hH : (sumF G ((zs.zip cs).take k)).1.length ≤ 900000 := by have := HGL.out; omega
      have hki : (k : Int) < (m : Int) := by omega
      clear hkc hkz hln hlen
      generalize hst : sumF G ((zs.zip cs).take k) = st at *
      obtain ⟨H, o⟩ := st
      simp only at hH ⊢
      generalize zs.getD k 0 = z at *
      generalize cs.getD k 0 = c at *
      clear hst
      have HST := Lib.hid (show sumStep (H, o) (z, c) = if c = 0 then (H, o) else if c = 1 then (if 0 ≤ o then (H ++ [⟨3, o, z, 0⟩], (H.length : Int)) else (H, z)) else if 0 ≤ o then (H ++ [⟨4, z, 0, c⟩, ⟨3, o, (H.length : Int), 0⟩], (H.length : Int) + 1) else (H ++ [⟨4, z, 0, c⟩], (H.length : Int)) from rfl)
      have HSR := Lib.hid (show Sep wr (BxA cb #[.int .i64 I, gv', ov] 29 :: OR gateE gv' H :: _) from HSR.out)
      by_cases h0 : c = 0
      · have e0 : (c == 0) = true := by simpa using h0
        have HF := Lib.hid (show sumF G ((zs.zip cs).take (k + 1)) = (H, o) from by rw [HTK.out, HST.out, if_pos h0])
        clear h0
        go_wp2_with fail
        go_roundw
        case rel => exact ⟨k + 1, gv', HLT.out, by go_num, by rw [HF.out], by rw [HF.out]; exact HSR.out⟩
        case measure => simp [intOf]; omega
      · have e0 : (c == 0) = false := by simpa using h0
        by_cases h1 : c = 1
        · have e1 : (c != 1) = false := by simpa using h1
          by_cases ho : 0 ≤ o
          · have HF := Lib.hid (show sumF G ((zs.zip cs).take (k + 1)) = (H ++ [⟨3, o, z, 0⟩], (H.length : Int)) from by rw [HTK.out, HST.out, if_neg h0, if_pos h1, if_pos ho])
            have HC := Lib.hid (HGT.out gv' H ⟨3, o, z, 0⟩ wr _ (by omega) HSR.out)
            clear h0 h1
            go_wp2_with (
              go_at_call 78
              with_reducible refine HC.out.mono ?_
              rintro e w2 ⟨gv2, rfl, hs2⟩
              have HS2 := Lib.hid hs2
              clear hs2 x0 y0 k0)
            go_roundw
            case rel => exact ⟨k + 1, gv2, HLT.out, by go_num, by rw [HF.out], by rw [HF.out]; exact HS2.out⟩
            case measure => simp [intOf]; omega
          · have HF := Lib.hid (show sumF G ((zs.zip cs).take (k + 1)) = (H, z) from by rw [HTK.out, HST.out, if_neg h0, if_pos h1, if_neg ho])
            clear h0 h1
            go_wp2_with fail
            go_roundw
            case rel => exact ⟨k + 1, gv', HLT.out, by go_num, by rw [HF.out], by rw [HF.out]; exact HSR.out⟩
            case measure => simp [intOf]; omega
        · have e1 : (c != 1) = true := by simpa using h1
          have HC := Lib.hid (HGT.out gv' H ⟨4, z, 0, c⟩ wr _ (by omega) HSR.out)
          by_cases ho : 0 ≤ o
          · have HF := Lib.hid (show sumF G ((zs.zip cs).take (k + 1)) = (H ++ [⟨4, z, 0, c⟩, ⟨3, o, (H.length : Int), 0⟩], (H.length : Int) + 1) from by rw [HTK.out, HST.out, if_neg h0, if_neg h1, if_pos ho])
            have hL : (H ++ [(⟨4, z, 0, c⟩ : Gt)]).length ≤ 1000000 := by simp; omega
            have HLL := Lib.hid (show ((H ++ [(⟨4, z, 0, c⟩ : Gt)]).length : Int) = (H.length : Int) + 1 from by simp)
            clear h0 h1
            go_wp2_with (first
              | (go_at_call 78
                 with_reducible refine HC.out.mono ?_
                 rintro e w2 ⟨gv2, rfl, hs2⟩
                 have HC2 := Lib.hid (HGT.out gv2 (H ++ [⟨4, z, 0, c⟩]) ⟨3, o, (H.length : Int), 0⟩ w2 _ hL hs2)
                 obtain ⟨k0', _⟩ := bq1Z hs2.tl.tl.tl.tl.hd
                 clear hs2 x0 y0 k0)
              | (go_at_call 78
                 with_reducible refine HC2.out.mono ?_
                 rintro e w3 ⟨gv3, rfl, hs3⟩
                 rw [HLL.out]
                 have HS3 := Lib.hid hs3
                 clear hs3 k0'))
            go_roundw
            case rel => exact ⟨k + 1, gv3, HLT.out, by go_num, by rw [HF.out], by rw [HF.out]; have h := HS3.out; rw [List.append_assoc] at h; exact h⟩
            case measure => simp [intOf]; omega
          · have HF := Lib.hid (show sumF G ((zs.zip cs).take (k + 1)) = (H ++ [⟨4, z, 0, c⟩], (H.length : Int)) from by rw [HTK.out, HST.out, if_neg h0, if_neg h1, if_neg ho])
            clear h0 h1
            go_wp2_with (
              go_at_call 78
              with_reducible refine HC.out.mono ?_
              rintro e w2 ⟨gv2, rfl, hs2⟩
              have HS2 := Lib.hid hs2
              clear hs2 x0 y0 k0)
            go_roundw
            case rel => exact ⟨k + 1, gv2, HLT.out, by go_num, by rw [HF.out], by rw [HF.out]; exact HS2.out⟩
            case measure => simp [intOf]; omega
    · have hkm : k = m := by omega
      subst hkm
      have htk : (zs.zip cs).take k = zs.zip cs := List.take_of_length_le (by rw [List.length_zip, ← HM.out]; omega)
      have hH := (sumF_len G (zs.zip cs)).1
      have hzz : (zs.zip cs).length ≤ k := by rw [List.length_zip, ← HM.out]; omega
      rw [htk] at HSR ⊢
      have HE := Lib.hid (show sumG G (zs.zip cs) = sumEnd (sumF G (zs.zip cs)) from rfl)
      have hki : ¬ (k : Int) < (k : Int) := by omega
      have hHb : (sumF G (zs.zip cs)).1.length ≤ 900000 := by have := HGL.out; omega
      clear htk hH hzz
      generalize sumF G (zs.zip cs) = st at *
      obtain ⟨H, o⟩ := st
      simp only at hHb ⊢
      have HSR := Lib.hid (show Sep wr (BxA cb #[.int .i64 I, gv', ov] 29 :: OR gateE gv' H :: _) from HSR.out)
      by_cases ho : o < 0
      · have HF := Lib.hid (show sumEnd (H, o) = (H ++ [⟨2, 0, 0, 0⟩], (H.length : Int)) from by unfold sumEnd; rw [if_pos ho])
        have HC := Lib.hid (HGT.out gv' H ⟨2, 0, 0, 0⟩ wr _ (by omega) HSR.out)
        obtain ⟨k0, _⟩ := bq1Z HSR.out.tl.tl.tl.tl.hd
        go_wp2_with (
          go_at_call 78
          with_reducible refine HC.out.mono ?_
          rintro e w2 ⟨gv2, rfl, hs2⟩
          have HS2 := Lib.hid hs2
          clear hs2 k0)
        go_ret
        rw [HE.out, HF.out]
        exact ⟨gv2, rfl, Sep.cutA (X := [_, _, _, _]) (A := [_]) HS2.out⟩
      · have HF := Lib.hid (show sumEnd (H, o) = (H, o) from by unfold sumEnd; rw [if_neg ho])
        go_wp2_with fail
        go_ret
        rw [HE.out, HF.out]
        exact ⟨gv', rfl, Sep.cutA (X := [_, _, _, _]) (A := [_]) HSR.out⟩
set_option maxHeartbeats 2000000 in
theorem elements_any (v : Value) (M : List (List Int)) (j : Nat) (w : World) (hv : RdS w v M) (hl : M.length ≤ 1000000) (hj : ∀ r ∈ M, j < r.length) :
    Calls Tryd.prog 81 #[v, .int .i64 j] w fun e w' => ∃ a c, e = .returned (.slice a M.length c) ∧ Sep w' [OI (.slice a M.length c) (colL M j), KeepA w] := by
  have HV := Lib.hid hv; have HJ := Lib.hid hj
  obtain ⟨a, cp, rfl⟩ := hv.shape
  generalize hlz : M.length = m at *
  have HL := Lib.hid hlz
  have HS0 := Lib.hid (Sep.start w).emptyI
  clear hv hlz hj
  go_enter Tryd.func81, Tryd.ntmps81
  go_wp2_with fail
  go_loopw [5, 7, 11] (fun ov _ i wr => ∃ k : Nat, k ≤ m ∧ i = .int .i64 k ∧ Sep wr [OI ov (colL (M.take k) j), KeepA w]) (fun _ _ i _ => m - (intOf i).toNat)
  case atStart => exact ⟨0, by omega, rfl, HS0.out⟩
  case round =>
    obtain ⟨k, hk, rfl, hs⟩ := hrel
    obtain ⟨oa, oc, rfl⟩ := own_shape (show OwnInts 0 wr _ (colL (M.take k) j) from hs.hd)
    have HSR := Lib.hid hs
    have HLC := Lib.hid (show (colL (M.take k) j).length ≤ 1000000 from by unfold colL; rw [List.length_map, List.length_take]; omega)
    have hcl : (colL (M.take k) j).length = k := by unfold colL; rw [List.length_map, List.length_take, HL.out]; omega
    rw [hcl] at HSR HLC ⊢
    have HCL := Lib.hid hcl
    clear hs HS0 hcl
    by_cases hlt : k < m
    · have hkz : k < M.length := by rw [HL.out]; exact hlt
      obtain ⟨b, o, rv, rfl, _, x0, hr⟩ := (HV.out.carry HSR.out.tl.hd).at hkz
      have hjr := HJ.out _ (gm hkz)
      obtain ⟨ra, rc, rfl⟩ := hr.shape
      obtain ⟨b2, o2, rfl, _, y0⟩ := hr.atD hjr
      have hji : (j : Int) < ((M.getD k []).length : Int) := by omega
      have hki : (k : Int) < (m : Int) := by omega
      have HT := Lib.hid (colL_take (j := j) hkz)
      generalize (M.getD k []).length = ln at *
      generalize (M.getD k []).getD j 0 = y at *
      clear hr hkz
      go_wp2_with (
        at_builtin
        go_loud (
          refine app_intS rfl _ _ rfl rfl rfl HSR.out (by rw [HCL.out]; omega) ?_
          intro g c3 w3 h3
          have HS3 := Lib.hid h3
          clear h3 x0 y0))
      go_roundw
      case rel => exact ⟨k + 1, by omega, by go_num, by rw [HT.out]; have h := HS3.out; rw [HCL.out] at h; rw [HCL.out]; exact h⟩
      case measure => simp [intOf]; omega
    · have hkm : k = m := by omega
      subst hkm
      have hs := HSR.out
      rw [List.take_of_length_le (by rw [HL.out]; exact Nat.le_refl _)] at hs
      have HF := Lib.hid hs
      have hki : ¬ (k : Int) < (k : Int) := by omega
      clear hs
      go_wp2_with fail
      go_ret
      exact ⟨_, _, rfl, HF.out⟩
end Go.Proofs.YtghfifpicklonaaDoor

/-
  State spaces in the laws: sized, copied, compared, marked. Conditions: lengths are small.
-/
import Derived.Test.YtghfifpicklonaaDoorYu01
import Derived.Test.YtghfifpicklonaaDoorBc07
import Derived.WalkKit
import Derived.WalkSpells
import Derived.Laws.Bits64
import Derived.Laws.BitsAllLaws
import Derived.Lib.Hide
import Derived.BigQuiet
import Derived.Deep.QuietTactic
import Derived.Test.YtghfifpicklonaaDoorBc01
import Derived.Laws.OwnMore
import Derived.BigRegion
import Derived.StillTailTactics
namespace Go.Proofs.YtghfifpicklonaaDoor
open Go.RowKit
set_option linter.unusedVariables false
set_option maxRecDepth 100000

def tS (L : List (List Int)) : Nat := L.length + totS L
def totSS (s : StSp) : Nat := tS s.A + tS s.B + tS s.C + tS s.D
def okSS (s : StSp) : Prop := okS s.A ∧ okS s.B ∧ okS s.C ∧ okS s.D
theorem lft_two {left : Int} {a b : Nat} (h : ¬ lft left a < 0) : lft (lft left a) b = lft left (a + b) := by
  unfold lft at *
  by_cases h1 : left - (a : Int) < 0
  · rw [if_pos h1] at h; exact absurd (by decide) h
  · rw [if_neg h1] at h ⊢
    by_cases h2 : left - (a : Int) - b < 0
    · rw [if_pos h2, if_pos (by omega)]
    · rw [if_neg h2, if_neg (by omega)]; omega
theorem lft_neg {left : Int} {a b : Nat} (h : lft left a < 0) (hab : a ≤ b) : lft left b = -1 := by
  unfold lft at *
  by_cases h1 : left - (a : Int) < 0
  · rw [if_pos (by omega)]
  · rw [if_neg h1] at h; exact absurd h h1
theorem lft_le {left : Int} {a : Nat} (h : left ≤ 1048576) : lft left a ≤ 1048576 := by unfold lft; split <;> omega
theorem lft_eq {left : Int} {a : Nat} (h : lft left a < 0) : lft left a = -1 := lft_neg h (Nat.le_refl _)
theorem SmS.of {s : StSp} (h : totSS s ≤ 1048576) : SmS s := by
  unfold totSS tS at h
  exact ⟨⟨by omega, by omega, by omega, by omega⟩, fun r hr => by have := totS_mem hr; omega, fun r hr => by have := totS_mem hr; omega, fun r hr => by have := totS_mem hr; omega, fun r hr => by have := totS_mem hr; omega⟩
/-- Four lists of rows as one part. -/
def OX4 (av : Value) (xa : List XR) (bv : Value) (xb : List XR) (cv : Value) (xc : List XR) (dv : Value) (xd : List XR) : Asrt := Bag [OS av xa, OS bv xb, OS cv xc, OS dv xd]
theorem OX4_own {av : Value} {xa : List XR} {bv : Value} {xb : List XR} {cv : Value} {xc : List XR} {dv : Value} {xd : List XR} : ∀ k, (OX4 av xa bv xb cv xc dv xd).sees k → (OX4 av xa bv xb cv xc dv xd).foot k := by
  rintro k ⟨A, hA, hk⟩
  refine ⟨A, hA, ?_⟩
  simp only [List.mem_cons, List.not_mem_nil, or_false] at hA
  rcases hA with rfl | rfl | rfl | rfl <;> exact OS_own k hk
theorem OX4.read {w : World} {s : StSp} {av : Value} {xa : List XR} {bv : Value} {xb : List XR} {cv : Value} {xc : List XR} {dv : Value} {xd : List XR} (h : (OX4 av xa bv xb cv xc dv xd).holds w) (ha : rws xa = s.A) (hb : rws xb = s.B) (hc : rws xc = s.C) (hd : rws xd = s.D) : RdSs w s av bv cv dv := by
  have hs := show Sep w [OS av xa, OS bv xb, OS cv xc, OS dv xd] from h
  exact ⟨by rw [← ha]; exact OS.read hs.hd, by rw [← hb]; exact OS.read hs.tl.hd, by rw [← hc]; exact OS.read hs.tl.tl.hd, by rw [← hd]; exact OS.read hs.tl.tl.tl.hd⟩
set_option maxHeartbeats 4000000 in
theorem szSS_any (s : StSp) (av bv cv dv : Value) (left : Int) (w : World) (h : RdSs w s av bv cv dv) (h0 : 0 ≤ left) (h1 : left ≤ 1048576) (hok : okSS s) :
    Calls Tryd.prog 6 #[.agg #[.int .i64 s.S, .int .i64 s.I, .int .i64 s.O, av, bv, cv, dv], .int .i64 left] w fun e w' => e = .returned (.int .i64 (lft left (totSS s))) ∧ w.grownBy w' none := by
  obtain ⟨sa, ta, rfl⟩ := h.a.shape
  obtain ⟨sb, tb, rfl⟩ := h.b.shape
  obtain ⟨sc, tc, rfl⟩ := h.c.shape
  obtain ⟨sd, td, rfl⟩ := h.d.shape
  have HC1 := Lib.hid fun (l : Int) (h0 : 0 ≤ l) (h1 : l ≤ 1048576) W (hw : w.grownBy W none) => show Calls Tryd.prog 28 #[.slice sa s.A.length ta, .int .i64 l] W fun e w' => e = .returned (.int .i64 (lft l (tS s.A))) ∧ W.grownBy w' none from szIntSS_any sa s.A.length ta s.A l W (h.a.carry hw) rfl h0 h1 hok.1
  have HC2 := Lib.hid fun (l : Int) (h0 : 0 ≤ l) (h1 : l ≤ 1048576) W (hw : w.grownBy W none) => show Calls Tryd.prog 28 #[.slice sb s.B.length tb, .int .i64 l] W fun e w' => e = .returned (.int .i64 (lft l (tS s.B))) ∧ W.grownBy w' none from szIntSS_any sb s.B.length tb s.B l W (h.b.carry hw) rfl h0 h1 hok.2.1
  have HC3 := Lib.hid fun (l : Int) (h0 : 0 ≤ l) (h1 : l ≤ 1048576) W (hw : w.grownBy W none) => show Calls Tryd.prog 28 #[.slice sc s.C.length tc, .int .i64 l] W fun e w' => e = .returned (.int .i64 (lft l (tS s.C))) ∧ W.grownBy w' none from szIntSS_any sc s.C.length tc s.C l W (h.c.carry hw) rfl h0 h1 hok.2.2.1
  have HC4 := Lib.hid fun (l : Int) (h0 : 0 ≤ l) (h1 : l ≤ 1048576) W (hw : w.grownBy W none) => show Calls Tryd.prog 28 #[.slice sd s.D.length td, .int .i64 l] W fun e w' => e = .returned (.int .i64 (lft l (tS s.D))) ∧ W.grownBy w' none from szIntSS_any sd s.D.length td s.D l W (h.d.carry hw) rfl h0 h1 hok.2.2.2
  have HTOT := Lib.hid (show totSS s = tS s.A + tS s.B + tS s.C + tS s.D from rfl)
  have HS0 := Lib.hid ((Sep.start w).box #[.int .i64 s.S, .int .i64 s.I, .int .i64 s.O, .slice sa s.A.length ta, .slice sb s.B.length tb, .slice sc s.C.length tc, .slice sd s.D.length td] 24)
  have HK0 := Lib.hid (show w.grownBy _ none from HS0.out.tl.hd)
  have HL := Lib.hid h1
  clear h hok
  generalize s.A.length = nA at *
  generalize s.B.length = nB at *
  generalize s.C.length = nC at *
  generalize s.D.length = nD at *
  generalize totSS s = tt at *
  generalize tS s.A = kA at *
  generalize tS s.B = kB at *
  generalize tS s.C = kC at *
  generalize tS s.D = kD at *
  have ha1 := HC1.out left (by omega) (by omega)
  obtain ⟨l1, hl1⟩ : ∃ l, l = lft left kA := ⟨_, rfl⟩
  rw [← hl1] at ha1
  have HA1 := Lib.hid ha1
  have hle1 : l1 ≤ 1048576 := by rw [hl1]; exact lft_le (by omega)
  have HQ1 := Lib.hid (show l1 = lft left (kA) from by rw [hl1])
  clear ha1 hl1
  by_cases hn1 : l1 < 0
  · have HM := Lib.hid (show l1 = -1 from by rw [HQ1.out]; exact lft_eq (by rw [← HQ1.out]; exact hn1))
    have HE := Lib.hid (show lft left tt = l1 from by rw [HM.out]; exact lft_neg (a := kA) (by rw [← HQ1.out]; exact hn1) (by have := HTOT.out; omega))
    go_enter Tryd.func6, Tryd.ntmps6
    go_wp2_with (first
      | (go_at_call 28
         with_reducible refine (HA1.out _ HK0.out).mono ?_
         rintro e w1 ⟨rfl, hg⟩
         have hs := HS0.out.grown hg
         obtain ⟨x0, x1, x2, x3, x4, x5, x6⟩ := bq7 hs.hd
         have HS1 := Lib.hid hs
         have HK1 := Lib.hid (show w.grownBy w1 none from hs.tl.hd)
         clear hg hs))
    go_ret
    exact ⟨by rw [HE.out, HM.out]; try rfl, HK1.out⟩
  · have ha2 := HC2.out l1 (by omega) (by omega)
    obtain ⟨l2, hl2⟩ : ∃ l, l = lft l1 kB := ⟨_, rfl⟩
    rw [← hl2] at ha2
    have HA2 := Lib.hid ha2
    have hle2 : l2 ≤ 1048576 := by rw [hl2]; exact lft_le (by omega)
    have HQ2 := Lib.hid (show l2 = lft left (kA + kB) from by rw [hl2, HQ1.out, lft_two (by rw [← HQ1.out]; exact hn1)])
    clear ha2 hl2
    by_cases hn2 : l2 < 0
    · have HM := Lib.hid (show l2 = -1 from by rw [HQ2.out]; exact lft_eq (by rw [← HQ2.out]; exact hn2))
      have HE := Lib.hid (show lft left tt = l2 from by rw [HM.out]; exact lft_neg (a := kA + kB) (by rw [← HQ2.out]; exact hn2) (by have := HTOT.out; omega))
      go_enter Tryd.func6, Tryd.ntmps6
      go_wp2_with (first
        | (go_at_call 28
           with_reducible refine (HA1.out _ HK0.out).mono ?_
           rintro e w1 ⟨rfl, hg⟩
           have hs := HS0.out.grown hg
           obtain ⟨x0, x1, x2, x3, x4, x5, x6⟩ := bq7 hs.hd
           have HS1 := Lib.hid hs
           have HK1 := Lib.hid (show w.grownBy w1 none from hs.tl.hd)
           clear hg hs)
        | (go_at_call 28
           with_reducible refine (HA2.out _ HK1.out).mono ?_
           rintro e w2 ⟨rfl, hg⟩
           have hs := HS1.out.grown hg
           clear x0 x1 x2 x3 x4 x5 x6
           obtain ⟨x0, x1, x2, x3, x4, x5, x6⟩ := bq7 hs.hd
           have HS2 := Lib.hid hs
           have HK2 := Lib.hid (show w.grownBy w2 none from hs.tl.hd)
           clear hg hs))
      go_ret
      exact ⟨by rw [HE.out, HM.out]; try rfl, HK2.out⟩
    · have ha3 := HC3.out l2 (by omega) (by omega)
      obtain ⟨l3, hl3⟩ : ∃ l, l = lft l2 kC := ⟨_, rfl⟩
      rw [← hl3] at ha3
      have HA3 := Lib.hid ha3
      have hle3 : l3 ≤ 1048576 := by rw [hl3]; exact lft_le (by omega)
      have HQ3 := Lib.hid (show l3 = lft left (kA + kB + kC) from by rw [hl3, HQ2.out, lft_two (by rw [← HQ2.out]; exact hn2)])
      clear ha3 hl3
      by_cases hn3 : l3 < 0
      · have HM := Lib.hid (show l3 = -1 from by rw [HQ3.out]; exact lft_eq (by rw [← HQ3.out]; exact hn3))
        have HE := Lib.hid (show lft left tt = l3 from by rw [HM.out]; exact lft_neg (a := kA + kB + kC) (by rw [← HQ3.out]; exact hn3) (by have := HTOT.out; omega))
        go_enter Tryd.func6, Tryd.ntmps6
        go_wp2_with (first
          | (go_at_call 28
             with_reducible refine (HA1.out _ HK0.out).mono ?_
             rintro e w1 ⟨rfl, hg⟩
             have hs := HS0.out.grown hg
             obtain ⟨x0, x1, x2, x3, x4, x5, x6⟩ := bq7 hs.hd
             have HS1 := Lib.hid hs
             have HK1 := Lib.hid (show w.grownBy w1 none from hs.tl.hd)
             clear hg hs)
          | (go_at_call 28
             with_reducible refine (HA2.out _ HK1.out).mono ?_
             rintro e w2 ⟨rfl, hg⟩
             have hs := HS1.out.grown hg
             clear x0 x1 x2 x3 x4 x5 x6
             obtain ⟨x0, x1, x2, x3, x4, x5, x6⟩ := bq7 hs.hd
             have HS2 := Lib.hid hs
             have HK2 := Lib.hid (show w.grownBy w2 none from hs.tl.hd)
             clear hg hs)
          | (go_at_call 28
             with_reducible refine (HA3.out _ HK2.out).mono ?_
             rintro e w3 ⟨rfl, hg⟩
             have hs := HS2.out.grown hg
             clear x0 x1 x2 x3 x4 x5 x6
             obtain ⟨x0, x1, x2, x3, x4, x5, x6⟩ := bq7 hs.hd
             have HS3 := Lib.hid hs
             have HK3 := Lib.hid (show w.grownBy w3 none from hs.tl.hd)
             clear hg hs))
        go_ret
        exact ⟨by rw [HE.out, HM.out]; try rfl, HK3.out⟩
      · have ha4 := HC4.out l3 (by omega) (by omega)
        obtain ⟨l4, hl4⟩ : ∃ l, l = lft l3 kD := ⟨_, rfl⟩
        rw [← hl4] at ha4
        have HA4 := Lib.hid ha4
        have hle4 : l4 ≤ 1048576 := by rw [hl4]; exact lft_le (by omega)
        have HQ4 := Lib.hid (show l4 = lft left (kA + kB + kC + kD) from by rw [hl4, HQ3.out, lft_two (by rw [← HQ3.out]; exact hn3)])
        clear ha4 hl4
        by_cases hn4 : l4 < 0
        · have HE := Lib.hid (show lft left tt = l4 from by rw [HQ4.out, HTOT.out])
          have HM := Lib.hid (show l4 = -1 from by rw [HQ4.out]; exact lft_eq (by rw [← HQ4.out]; exact hn4))
          go_enter Tryd.func6, Tryd.ntmps6
          go_wp2_with (first
            | (go_at_call 28
               with_reducible refine (HA1.out _ HK0.out).mono ?_
               rintro e w1 ⟨rfl, hg⟩
               have hs := HS0.out.grown hg
               obtain ⟨x0, x1, x2, x3, x4, x5, x6⟩ := bq7 hs.hd
               have HS1 := Lib.hid hs
               have HK1 := Lib.hid (show w.grownBy w1 none from hs.tl.hd)
               clear hg hs)
            | (go_at_call 28
               with_reducible refine (HA2.out _ HK1.out).mono ?_
               rintro e w2 ⟨rfl, hg⟩
               have hs := HS1.out.grown hg
               clear x0 x1 x2 x3 x4 x5 x6
               obtain ⟨x0, x1, x2, x3, x4, x5, x6⟩ := bq7 hs.hd
               have HS2 := Lib.hid hs
               have HK2 := Lib.hid (show w.grownBy w2 none from hs.tl.hd)
               clear hg hs)
            | (go_at_call 28
               with_reducible refine (HA3.out _ HK2.out).mono ?_
               rintro e w3 ⟨rfl, hg⟩
               have hs := HS2.out.grown hg
               clear x0 x1 x2 x3 x4 x5 x6
               obtain ⟨x0, x1, x2, x3, x4, x5, x6⟩ := bq7 hs.hd
               have HS3 := Lib.hid hs
               have HK3 := Lib.hid (show w.grownBy w3 none from hs.tl.hd)
               clear hg hs)
            | (go_at_call 28
               with_reducible refine (HA4.out _ HK3.out).mono ?_
               rintro e w4 ⟨rfl, hg⟩
               have hs := HS3.out.grown hg
               clear x0 x1 x2 x3 x4 x5 x6
               obtain ⟨x0, x1, x2, x3, x4, x5, x6⟩ := bq7 hs.hd
               have HS4 := Lib.hid hs
               have HK4 := Lib.hid (show w.grownBy w4 none from hs.tl.hd)
               clear hg hs))
          go_ret
          exact ⟨by rw [HE.out, HM.out]; try rfl, HK4.out⟩
        · have HE := Lib.hid (show lft left tt = l4 from by rw [HQ4.out, HTOT.out])
          go_enter Tryd.func6, Tryd.ntmps6
          go_wp2_with (first
            | (go_at_call 28
               with_reducible refine (HA1.out _ HK0.out).mono ?_
               rintro e w1 ⟨rfl, hg⟩
               have hs := HS0.out.grown hg
               obtain ⟨x0, x1, x2, x3, x4, x5, x6⟩ := bq7 hs.hd
               have HS1 := Lib.hid hs
               have HK1 := Lib.hid (show w.grownBy w1 none from hs.tl.hd)
               clear hg hs)
            | (go_at_call 28
               with_reducible refine (HA2.out _ HK1.out).mono ?_
               rintro e w2 ⟨rfl, hg⟩
               have hs := HS1.out.grown hg
               clear x0 x1 x2 x3 x4 x5 x6
               obtain ⟨x0, x1, x2, x3, x4, x5, x6⟩ := bq7 hs.hd
               have HS2 := Lib.hid hs
               have HK2 := Lib.hid (show w.grownBy w2 none from hs.tl.hd)
               clear hg hs)
            | (go_at_call 28
               with_reducible refine (HA3.out _ HK2.out).mono ?_
               rintro e w3 ⟨rfl, hg⟩
               have hs := HS2.out.grown hg
               clear x0 x1 x2 x3 x4 x5 x6
               obtain ⟨x0, x1, x2, x3, x4, x5, x6⟩ := bq7 hs.hd
               have HS3 := Lib.hid hs
               have HK3 := Lib.hid (show w.grownBy w3 none from hs.tl.hd)
               clear hg hs)
            | (go_at_call 28
               with_reducible refine (HA4.out _ HK3.out).mono ?_
               rintro e w4 ⟨rfl, hg⟩
               have hs := HS3.out.grown hg
               clear x0 x1 x2 x3 x4 x5 x6
               obtain ⟨x0, x1, x2, x3, x4, x5, x6⟩ := bq7 hs.hd
               have HS4 := Lib.hid hs
               have HK4 := Lib.hid (show w.grownBy w4 none from hs.tl.hd)
               clear hg hs))
          go_ret
          exact ⟨by rw [HE.out]; try rfl, HK4.out⟩
/-- What hands back a state space of its own. -/
def GivesS (s : StSp) (w : World) (e : Ending) (w' : World) : Prop :=
  ∃ (sa sb sc sd : Option Addr) (ta tb tc td : Nat) (xa xb xc xd : List XR), e = .returned (.agg #[.int .i64 s.S, .int .i64 s.I, .int .i64 s.O, .slice sa s.A.length ta, .slice sb s.B.length tb, .slice sc s.C.length tc, .slice sd s.D.length td]) ∧ rws xa = s.A ∧ rws xb = s.B ∧ rws xc = s.C ∧ rws xd = s.D ∧ Sep w' [OX4 (.slice sa s.A.length ta) xa (.slice sb s.B.length tb) xb (.slice sc s.C.length tc) xc (.slice sd s.D.length td) xd, KeepA w]
set_option maxHeartbeats 4000000 in
theorem toSS_any (s : StSp) (av bv cv dv : Value) (w : World) (h : RdSs w s av bv cv dv) (hs : SmS s) :
    Calls Tryd.prog 8 #[.agg #[.int .i64 s.S, .int .i64 s.I, .int .i64 s.O, av, bv, cv, dv]] w (GivesS s w) := by
  have HTA := Lib.hid fun W (hw : w.grownBy W none) => toIntSS_any _ s.A W (h.a.carry hw) (by have := hs.l; omega) (fun r hr => by have := hs.a r hr; omega)
  have HTB := Lib.hid fun W (hw : w.grownBy W none) => toIntSS_any _ s.B W (h.b.carry hw) (by have := hs.l; omega) (fun r hr => by have := hs.b r hr; omega)
  have HTC := Lib.hid fun W (hw : w.grownBy W none) => toIntSS_any _ s.C W (h.c.carry hw) (by have := hs.l; omega) (fun r hr => by have := hs.c r hr; omega)
  have HTD := Lib.hid fun W (hw : w.grownBy W none) => toIntSS_any _ s.D W (h.d.carry hw) (by have := hs.l; omega) (fun r hr => by have := hs.d r hr; omega)
  unfold GivesS OwnS at *
  obtain ⟨sa, ta, rfl⟩ := h.a.shape
  obtain ⟨sb, tb, rfl⟩ := h.b.shape
  obtain ⟨sc, tc, rfl⟩ := h.c.shape
  obtain ⟨sd, td, rfl⟩ := h.d.shape
  have HS0 := Lib.hid ((((Sep.start w).box #[.int .i64 s.S, .int .i64 s.I, .int .i64 s.O, .slice sa s.A.length ta, .slice sb s.B.length tb, .slice sc s.C.length tc, .slice sd s.D.length td] 24).boxAt (w.heap.size + 1) (by simp) #[.int .i64 0, .int .i64 0, .int .i64 0, .slice none 0 0, .slice none 0 0, .slice none 0 0, .slice none 0 0] 32).boxAt (w.heap.size + 1 + 1) (by simp) #[.int .i64 s.S, .int .i64 s.I, .int .i64 s.O, .slice none 0 0, .slice none 0 0, .slice none 0 0, .slice none 0 0] 32)
  have HK0 := Lib.hid (show w.grownBy _ none from HS0.out.tl.tl.tl.hd)
  clear h hs
  obtain ⟨sS, sI, sO, sA, sB, sC, sD⟩ := s
  simp only at *
  generalize sA.length = nA at *
  generalize sB.length = nB at *
  generalize sC.length = nC at *
  generalize sD.length = nD at *
  go_enter Tryd.func8, Tryd.ntmps8
  go_wp2_with (first
    | (go_at_call 32
       go_loud (
       with_reducible refine (HTA.out _ HK0.out).mono ?_
       rintro e v1 ⟨ga, ca, xa, rfl, hx, hsg⟩
       have HXA := Lib.hid hx
       have hs1 := Sep.blk (A := [_]) (B := [_]) (HS0.out.graft1 hsg OS_own)
       obtain ⟨x0, x1, x2, x3, x4, x5, x6⟩ := bq7 hs1.hd
       obtain ⟨y0, y1, y2, y3, y4, y5, y6⟩ := bf7 hs1.hd
       have hs2 := hs1.setB 3 (.slice ga nA ca)
       obtain ⟨z0, z1, z2, z3, z4, z5, z6⟩ := bq7 hs2.tl.tl.tl.hd
       have HS1 := Lib.hid hs2
       have HK1 := Lib.hid (show w.grownBy _ none from hs2.tl.tl.tl.tl.hd)
       clear hx hsg hs1 hs2))
    | (go_at_call 32
       go_loud (
       with_reducible refine (HTB.out _ HK1.out).mono ?_
       rintro e v2 ⟨gb, cb, xb, rfl, hx, hsg⟩
       have HXB := Lib.hid hx
       have hs1 := Sep.blk (A := [_]) (B := [_]) (HS1.out.graft1 hsg OS_own)
       obtain ⟨x0, x1, x2, x3, x4, x5, x6⟩ := bq7 hs1.hd
       obtain ⟨y0, y1, y2, y3, y4, y5, y6⟩ := bf7 hs1.hd
       have hs2 := hs1.setB 4 (.slice gb nB cb)
       obtain ⟨z0, z1, z2, z3, z4, z5, z6⟩ := bq7 hs2.tl.tl.tl.tl.hd
       have HS2 := Lib.hid hs2
       have HK2 := Lib.hid (show w.grownBy _ none from hs2.tl.tl.tl.tl.tl.hd)
       clear hx hsg hs1 hs2))
    | (go_at_call 32
       go_loud (
       with_reducible refine (HTC.out _ HK2.out).mono ?_
       rintro e v3 ⟨gc, cc, xc, rfl, hx, hsg⟩
       have HXC := Lib.hid hx
       have hs1 := Sep.blk (A := [_]) (B := [_]) (HS2.out.graft1 hsg OS_own)
       obtain ⟨x0, x1, x2, x3, x4, x5, x6⟩ := bq7 hs1.hd
       obtain ⟨y0, y1, y2, y3, y4, y5, y6⟩ := bf7 hs1.hd
       have hs2 := hs1.setB 5 (.slice gc nC cc)
       obtain ⟨z0, z1, z2, z3, z4, z5, z6⟩ := bq7 hs2.tl.tl.tl.tl.tl.hd
       have HS3 := Lib.hid hs2
       have HK3 := Lib.hid (show w.grownBy _ none from hs2.tl.tl.tl.tl.tl.tl.hd)
       clear hx hsg hs1 hs2))
    | (go_at_call 32
       go_loud (
       with_reducible refine (HTD.out _ HK3.out).mono ?_
       rintro e v4 ⟨gd, cd, xd, rfl, hx, hsg⟩
       have HXD := Lib.hid hx
       have hs1 := Sep.blk (A := [_]) (B := [_]) (HS3.out.graft1 hsg OS_own)
       obtain ⟨x0, x1, x2, x3, x4, x5, x6⟩ := bq7 hs1.hd
       obtain ⟨y0, y1, y2, y3, y4, y5, y6⟩ := bf7 hs1.hd
       have hs2 := hs1.setB 6 (.slice gd nD cd)
       obtain ⟨z0, z1, z2, z3, z4, z5, z6⟩ := bq7 hs2.hd
       have hs3 := Sep.blk (A := [_, _, _, _, _]) (B := [_]) hs2
       obtain ⟨r0, r1, r2, r3, r4, r5, r6⟩ := bq7 hs3.hd
       obtain ⟨q0, q1, q2, q3, q4, q5, q6⟩ := bf7 hs3.hd
       have hs4 := (((((((hs3.setB 0 (.int .i64 sS)).setB 1 (.int .i64 sI)).setB 2 (.int .i64 sO)).setB 3 (.slice ga nA ca)).setB 4 (.slice gb nB cb)).setB 5 (.slice gc nC cc)).setB 6 (.slice gd nD cd))
       obtain ⟨k0, k1, k2, k3, k4, k5, k6⟩ := bq7 hs4.hd
       have hs5 := Sep.cutA (X := [_, _, _, _]) (A := [_]) (r := [KeepA w]) hs4.tl.tl
       have HSF := Lib.hid (Sep.bag (l := [_, _, _, _]) (show Sep _ [OS (.slice ga nA ca) xa, OS (.slice gb nB cb) xb, OS (.slice gc nC cc) xc, OS (.slice gd nD cd) xd, KeepA w] from Sep.perm (List.Perm.append_right [KeepA w] (List.reverse_perm [OS (.slice ga nA ca) xa, OS (.slice gb nB cb) xb, OS (.slice gc nC cc) xc, OS (.slice gd nD cd) xd])) hs5))
       clear hx hsg hs1 hs2 hs3 hs4 hs5)))
  refine bodyPost_ret_by (v := .agg #[.int .i64 sS, .int .i64 sI, .int .i64 sO, .slice ga nA ca, .slice gb nB cb, .slice gc nC cc, .slice gd nD cd]) ?_ rfl ⟨_, _, _, _, _, _, _, _, xa, xb, xc, xd, rfl, HXA.out, HXB.out, HXC.out, HXD.out, HSF.out⟩
  simp [results, go_sem, *]
set_option maxHeartbeats 4000000 in
theorem eqSS_same (s : StSp) (av bv cv dv av' bv' cv' dv' : Value) (w : World) (h : RdSs w s av bv cv dv) (h' : RdSs w s av' bv' cv' dv') (hs : SmS s) :
    Calls Tryd.prog 11 #[.agg #[.int .i64 s.S, .int .i64 s.I, .int .i64 s.O, av, bv, cv, dv], .agg #[.int .i64 s.S, .int .i64 s.I, .int .i64 s.O, av', bv', cv', dv']] w fun e w' => e = .returned (.bool true) ∧ w.grownBy w' none := by
  have HEA := Lib.hid fun W (hw : w.grownBy W none) => eqIntSS_same _ _ s.A W (h.a.carry hw) (h'.a.carry hw) (by have := hs.l; omega) (fun r hr => by have := hs.a r hr; omega)
  have HEB := Lib.hid fun W (hw : w.grownBy W none) => eqIntSS_same _ _ s.B W (h.b.carry hw) (h'.b.carry hw) (by have := hs.l; omega) (fun r hr => by have := hs.b r hr; omega)
  have HEC := Lib.hid fun W (hw : w.grownBy W none) => eqIntSS_same _ _ s.C W (h.c.carry hw) (h'.c.carry hw) (by have := hs.l; omega) (fun r hr => by have := hs.c r hr; omega)
  have HED := Lib.hid fun W (hw : w.grownBy W none) => eqIntSS_same _ _ s.D W (h.d.carry hw) (h'.d.carry hw) (by have := hs.l; omega) (fun r hr => by have := hs.d r hr; omega)
  obtain ⟨sa, ta, rfl⟩ := h.a.shape
  obtain ⟨sb, tb, rfl⟩ := h.b.shape
  obtain ⟨sc, tc, rfl⟩ := h.c.shape
  obtain ⟨sd, td, rfl⟩ := h.d.shape
  obtain ⟨sa1, ta1, rfl⟩ := h'.a.shape
  obtain ⟨sb1, tb1, rfl⟩ := h'.b.shape
  obtain ⟨sc1, tc1, rfl⟩ := h'.c.shape
  obtain ⟨sd1, td1, rfl⟩ := h'.d.shape
  have hs0 := ((Sep.start w).box #[.int .i64 s.S, .int .i64 s.I, .int .i64 s.O, .slice sa s.A.length ta, .slice sb s.B.length tb, .slice sc s.C.length tc, .slice sd s.D.length td] 32).boxAt (w.heap.size + 1) (by simp) #[.int .i64 s.S, .int .i64 s.I, .int .i64 s.O, .slice sa1 s.A.length ta1, .slice sb1 s.B.length tb1, .slice sc1 s.C.length tc1, .slice sd1 s.D.length td1] 32
  have HS0 := Lib.hid hs0
  have HK0 := Lib.hid (show w.grownBy _ none from hs0.tl.tl.hd)
  obtain ⟨x0, x1, x2, x3, x4, x5, x6⟩ := bq7 hs0.hd
  obtain ⟨y0, y1, y2, y3, y4, y5, y6⟩ := bq7 hs0.tl.hd
  clear h h' hs hs0
  generalize s.A.length = nA at *
  generalize s.B.length = nB at *
  generalize s.C.length = nC at *
  generalize s.D.length = nD at *
  have e1 : (s.S != s.S) = false := by simp
  have e2 : (s.I != s.I) = false := by simp
  have e3 : (s.O != s.O) = false := by simp
  go_enter Tryd.func11, Tryd.ntmps11
  go_wp2_with (first
    | (go_at_call 38
       with_reducible refine (HEA.out _ HK0.out).mono ?_
       rintro e w1 ⟨rfl, hg⟩
       have hs := HS0.out.grown hg
       clear x0 x1 x2 x3 x4 x5 x6 y0 y1 y2 y3 y4 y5 y6
       obtain ⟨x0, x1, x2, x3, x4, x5, x6⟩ := bq7 hs.hd
       obtain ⟨y0, y1, y2, y3, y4, y5, y6⟩ := bq7 hs.tl.hd
       have HS1 := Lib.hid hs
       have HK1 := Lib.hid (show w.grownBy w1 none from hs.tl.tl.hd)
       clear hg hs)
    | (go_at_call 38
       with_reducible refine (HEB.out _ HK1.out).mono ?_
       rintro e w2 ⟨rfl, hg⟩
       have hs := HS1.out.grown hg
       clear x0 x1 x2 x3 x4 x5 x6 y0 y1 y2 y3 y4 y5 y6
       obtain ⟨x0, x1, x2, x3, x4, x5, x6⟩ := bq7 hs.hd
       obtain ⟨y0, y1, y2, y3, y4, y5, y6⟩ := bq7 hs.tl.hd
       have HS2 := Lib.hid hs
       have HK2 := Lib.hid (show w.grownBy w2 none from hs.tl.tl.hd)
       clear hg hs)
    | (go_at_call 38
       with_reducible refine (HEC.out _ HK2.out).mono ?_
       rintro e w3 ⟨rfl, hg⟩
       have hs := HS2.out.grown hg
       clear x0 x1 x2 x3 x4 x5 x6 y0 y1 y2 y3 y4 y5 y6
       obtain ⟨x0, x1, x2, x3, x4, x5, x6⟩ := bq7 hs.hd
       obtain ⟨y0, y1, y2, y3, y4, y5, y6⟩ := bq7 hs.tl.hd
       have HS3 := Lib.hid hs
       have HK3 := Lib.hid (show w.grownBy w3 none from hs.tl.tl.hd)
       clear hg hs)
    | (go_at_call 38
       with_reducible refine (HED.out _ HK3.out).mono ?_
       rintro e w4 ⟨rfl, hg⟩
       have hs := HS3.out.grown hg
       clear x0 x1 x2 x3 x4 x5 x6 y0 y1 y2 y3 y4 y5 y6
       obtain ⟨x0, x1, x2, x3, x4, x5, x6⟩ := bq7 hs.hd
       obtain ⟨y0, y1, y2, y3, y4, y5, y6⟩ := bq7 hs.tl.hd
       have HS4 := Lib.hid hs
       have HK4 := Lib.hid (show w.grownBy w4 none from hs.tl.tl.hd)
       clear hg hs))
  go_ret
  exact ⟨rfl, HK4.out⟩
/-- What marking hands back, as far as it matters. -/
def MarkR (b : Int) (l : List Asrt) (e : Ending) (w' : World) : Prop := ∃ r : Int, e = .returned (.int .i64 r) ∧ 0 ≤ r ∧ r ≤ b ∧ Sep w' l
set_option maxHeartbeats 4000000 in
theorem markSS_any (s : StSp) (sa sb sc sd : Option Addr) (ta tb tc td : Nat) (xa xb xc xd : List XR) (k : Int) (w : World) (l : List Asrt) (hs : Sep w (OX4 (.slice sa s.A.length ta) xa (.slice sb s.B.length tb) xb (.slice sc s.C.length tc) xc (.slice sd s.D.length td) xd :: l)) (ha : rws xa = s.A) (hb : rws xb = s.B) (hc : rws xc = s.C) (hd : rws xd = s.D) (ht : totSS s ≤ 1048576) (h0 : 0 ≤ k) (h1 : k ≤ 10000000) :
    Calls Tryd.prog 12 #[.agg #[.int .i64 s.S, .int .i64 s.I, .int .i64 s.O, .slice sa s.A.length ta, .slice sb s.B.length tb, .slice sc s.C.length tc, .slice sd s.D.length td], .int .i64 k] w (MarkR (k + 3000000) l) := by
  unfold totSS tS at ht
  have lA : s.A.length = xa.length := by rw [← ha, rws_len]
  have uA : totS (rws xa) ≤ 1048576 := by rw [ha]; omega
  have lB : s.B.length = xb.length := by rw [← hb, rws_len]
  have uB : totS (rws xb) ≤ 1048576 := by rw [hb]; omega
  have lC : s.C.length = xc.length := by rw [← hc, rws_len]
  have uC : totS (rws xc) ≤ 1048576 := by rw [hc]; omega
  have lD : s.D.length = xd.length := by rw [← hd, rws_len]
  have uD : totS (rws xd) ≤ 1048576 := by rw [hd]; omega
  obtain ⟨k1, e1⟩ : ∃ q, q = k + (totS (rws xa) : Int) := ⟨_, rfl⟩
  have HM1 := Lib.hid fun W l (h : Sep W (OS (.slice sa s.A.length ta) xa :: l)) => markIntSS_any sa s.A.length ta xa k W l h lA (by omega) (by omega) (by omega) (by omega)
  rw [← e1] at HM1
  obtain ⟨k2, e2⟩ : ∃ q, q = k1 + (totS (rws xb) : Int) := ⟨_, rfl⟩
  have HM2 := Lib.hid fun W l (h : Sep W (OS (.slice sb s.B.length tb) xb :: l)) => markIntSS_any sb s.B.length tb xb k1 W l h lB (by omega) (by omega) (by omega) (by omega)
  rw [← e2] at HM2
  obtain ⟨k3, e3⟩ : ∃ q, q = k2 + (totS (rws xc) : Int) := ⟨_, rfl⟩
  have HM3 := Lib.hid fun W l (h : Sep W (OS (.slice sc s.C.length tc) xc :: l)) => markIntSS_any sc s.C.length tc xc k2 W l h lC (by omega) (by omega) (by omega) (by omega)
  rw [← e3] at HM3
  obtain ⟨k4, e4⟩ : ∃ q, q = k3 + (totS (rws xd) : Int) := ⟨_, rfl⟩
  have HM4 := Lib.hid fun W l (h : Sep W (OS (.slice sd s.D.length td) xd :: l)) => markIntSS_any sd s.D.length td xd k3 W l h lD (by omega) (by omega) (by omega) (by omega)
  rw [← e4] at HM4
  have HB := Lib.hid (show 0 ≤ k4 ∧ k4 ≤ k + 3000000 from ⟨by omega, by have := ha; rw [ha] at e1; rw [hb] at e2; rw [hc] at e3; rw [hd] at e4; omega⟩)
  have hs0 := (Sep.unbag (l := [_, _, _, _]) hs).box #[.int .i64 s.S, .int .i64 s.I, .int .i64 s.O, .slice sa s.A.length ta, .slice sb s.B.length tb, .slice sc s.C.length tc, .slice sd s.D.length td] 32
  have HS0 := Lib.hid (Sep.blk (A := [_]) (B := [_, _, _, _]) hs0)
  clear hs hs0 ht ha hb hc hd e1 e2 e3 e4 uA uB uC uD lA lB lC lD
  generalize s.A.length = nA at *
  generalize s.B.length = nB at *
  generalize s.C.length = nC at *
  generalize s.D.length = nD at *
  go_enter Tryd.func12, Tryd.ntmps12
  go_wp2_with (first
    | (go_at_call 39
       with_reducible refine (HM1.out _ _ HS0.out).mono ?_
       rintro e w1 ⟨rfl, hs⟩
       have hs2 := hs.tl
       obtain ⟨x0, x1, x2, x3, x4, x5, x6⟩ := bq7 hs2.tl.tl.tl.hd
       have HS1 := Lib.hid hs2
       clear hs hs2)
    | (go_at_call 39
       with_reducible refine (HM2.out _ _ HS1.out).mono ?_
       rintro e w2 ⟨rfl, hs⟩
       clear x0 x1 x2 x3 x4 x5 x6
       have hs2 := hs.tl
       obtain ⟨x0, x1, x2, x3, x4, x5, x6⟩ := bq7 hs2.tl.tl.hd
       have HS2 := Lib.hid hs2
       clear hs hs2)
    | (go_at_call 39
       with_reducible refine (HM3.out _ _ HS2.out).mono ?_
       rintro e w3 ⟨rfl, hs⟩
       clear x0 x1 x2 x3 x4 x5 x6
       have hs2 := hs.tl
       obtain ⟨x0, x1, x2, x3, x4, x5, x6⟩ := bq7 hs2.tl.hd
       have HS3 := Lib.hid hs2
       clear hs hs2)
    | (go_at_call 39
       with_reducible refine (HM4.out _ _ HS3.out).mono ?_
       rintro e w4 ⟨rfl, hs⟩
       clear x0 x1 x2 x3 x4 x5 x6
       have hs2 := hs.tl
       obtain ⟨x0, x1, x2, x3, x4, x5, x6⟩ := bq7 hs2.hd
       have HS4 := Lib.hid hs2
       clear hs hs2))
  go_ret
  exact ⟨k4, rfl, HB.out.1, HB.out.2, HS4.out.tl⟩
end Go.Proofs.YtghfifpicklonaaDoor

/-
  A state space that came in: its lists of rows can be read. Conditions: none.
-/
namespace Go.Proofs.YtghfifpicklonaaDoor
open Go.ChangeShapes Go.WideShapes Go.ChangeAt Go.RowKit Go.Deep Go.Joins
set_option linter.unusedVariables false
set_option maxRecDepth 100000

section
variable {H : Type} {enc : TypeId × Value → H} {W : World} {sp : Nat → Bool} {held : Bool}
/-- The seven fields of a struct, each read. -/
theorem trod_seven {t : TypeId} {f0 f1 f2 f3 f4 f5 f6 : Field} {fuel : Nat} {cs : List Value} {x : DataW H × List MemPlace} (ht : Tryd.prog.underlying t = some (.struct #[f0, f1, f2, f3, f4, f5, f6])) (h : DataW.trod enc Tryd.prog W 0 sp held fuel t cs = some x) :
    cs.length = Tryd.prog.cellsOf t ∧ ∃ y0 y1 y2 y3 y4 y5 y6 n, DataW.trod enc Tryd.prog W 0 sp held n f0.type ((cs.drop f0.offset).take (Tryd.prog.cellsOf f0.type)) = some y0 ∧
      DataW.trod enc Tryd.prog W 0 sp held n f1.type ((cs.drop f1.offset).take (Tryd.prog.cellsOf f1.type)) = some y1 ∧ DataW.trod enc Tryd.prog W 0 sp held n f2.type ((cs.drop f2.offset).take (Tryd.prog.cellsOf f2.type)) = some y2 ∧
      DataW.trod enc Tryd.prog W 0 sp held n f3.type ((cs.drop f3.offset).take (Tryd.prog.cellsOf f3.type)) = some y3 ∧ DataW.trod enc Tryd.prog W 0 sp held n f4.type ((cs.drop f4.offset).take (Tryd.prog.cellsOf f4.type)) = some y4 ∧
      DataW.trod enc Tryd.prog W 0 sp held n f5.type ((cs.drop f5.offset).take (Tryd.prog.cellsOf f5.type)) = some y5 ∧ DataW.trod enc Tryd.prog W 0 sp held n f6.type ((cs.drop f6.offset).take (Tryd.prog.cellsOf f6.type)) = some y6 := by
  obtain ⟨xs, n, _, -, hl, hlen, hf⟩ := DataW.trod_struct ht h
  refine ⟨hl, ?_⟩
  match xs, hlen with
  | [y0, y1, y2, y3, y4, y5, y6], _ => exact ⟨y0, y1, y2, y3, y4, y5, y6, n, by simpa using hf 0 f0 rfl, by simpa using hf 1 f1 rfl, by simpa using hf 2 f2 rfl, by simpa using hf 3 f3 rfl, by simpa using hf 4 f4 rfl, by simpa using hf 5 f5 rfl, by simpa using hf 6 f6 rfl⟩
theorem seven {α : Type} {l : List α} (h : l.length = 7) : ∃ c0 c1 c2 c3 c4 c5 c6, l = [c0, c1, c2, c3, c4, c5, c6] := by
  match l, h with
  | [c0, c1, c2, c3, c4, c5, c6], _ => exact ⟨c0, c1, c2, c3, c4, c5, c6, rfl⟩
theorem rows_in {fuel : Nat} {cs : List Value} {x : DataW H × List MemPlace} (h : DataW.trod enc Tryd.prog W 0 sp held fuel 22 cs = some x) : ∃ v L, cs = [v] ∧ RdS W v L ∧ okS L := by
  rcases open_slice Tryd.underlying22 h with ⟨hcs, _⟩ | ⟨a, len, cap, m, n, D, Pl, rfl, hb, hl, hm, hmm, rfl, hx⟩
  · exact ⟨_, [], hcs, ⟨[], rfl, RdR.nil rowE W, by simp⟩, by decide, by simp⟩
  · unfold maxLen at hm
    have hlm : len ≤ m := by rw [hmm]; split <;> omega
    have hc1 : Tryd.prog.cellsOf 27 = 1 := by kernel_rfl
    have each : ∀ i, i < len → ∃ g : XR, (∀ j, j < 1 → W.cell? ((a.add (i * 1)).add j) = [g.v][j]?) ∧ IntsV W g.v g.zs ∧ g.zs.length ≤ 9223372036854775807 := by
      intro i hi
      obtain ⟨cs', h1, h2⟩ := hx i (by omega)
      rw [hc1] at h1
      obtain ⟨_, hlen, hcell⟩ := World.cells?_some h1
      match cs', hlen with
      | [c0], _ =>
        obtain ⟨v0, z0, e0, r0, b0⟩ := ints_in h2
        simp at e0
        subst e0
        exact ⟨⟨c0, z0⟩, fun j hj => hcell j hj, r0, b0⟩
    have hch : ∃ G : Nat → XR, ∀ i, i < len → (∀ j, j < 1 → W.cell? ((a.add (i * 1)).add j) = [(G i).v][j]?) ∧ IntsV W (G i).v (G i).zs ∧ (G i).zs.length ≤ 9223372036854775807 := by
      haveI : Inhabited XR := ⟨xr0⟩
      exact choose_lt each
    obtain ⟨G, hG⟩ := hch
    refine ⟨_, rws ((List.range len).map G), rfl, ⟨(List.range len).map G, rfl, ⟨some a, cap, by simp, fun hne => ?_⟩, fun x hx => ?_⟩, by simp [rws]; omega, fun e he => ?_⟩
    · have h0 : 0 < len := by
        rcases Nat.eq_zero_or_pos len with h | h
        · subst h; exact absurd rfl hne
        · exact h
      obtain ⟨b, off, spot⟩ := a
      have hc00 : W.cell? ((⟨b, off, spot⟩ : Addr).add (0 * 1) |>.add 0) = some (G 0).v := (hG 0 h0).1 0 (by omega)
      have hspot : spot = none := by
        have := World.cell?_spot hc00
        simpa [Addr.add] using this
      subst hspot
      refine ⟨⟨b, off, none⟩, rfl, rfl, ?_, fun i hi j hj => ?_⟩
      · have h1 := World.block_lt_of_cell? W _ hc00
        simpa [Addr.add] using h1
      · have hi' : i < len := by simpa using hi
        have h1 := (hG i hi').1 j hj
        rw [add_off, add_off] at h1
        show W.cell? ⟨b, off + i * 1 + j, none⟩ = _
        rw [h1]
        simp [rowE]
    · obtain ⟨i, hi, rfl⟩ := List.mem_map.1 hx
      exact (hG i (List.mem_range.1 hi)).2.1
    · obtain ⟨x, hx, rfl⟩ := List.mem_map.1 he
      obtain ⟨i, hi, rfl⟩ := List.mem_map.1 hx
      exact (hG i (List.mem_range.1 hi)).2.2
theorem state_in {r : Reach} {b0 : Nat} {v : Value} {d : DataW H} {p : List MemPlace} (hv : Value.okWide Tryd.prog W r b0 24 v) (h : DataW.Trod enc Tryd.prog W 0 sp held 24 v d p) :
    ∃ s av bv cv dv, v = .agg #[.int .i64 s.S, .int .i64 s.I, .int .i64 s.O, av, bv, cv, dv] ∧ RdSs W s av bv cv dv ∧ okSS s := by
  obtain ⟨cs, rfl, hsz⟩ := okWide_struct Tryd.underlying24 hv
  obtain ⟨l⟩ := cs
  have hc1 : Tryd.prog.cellsOf 3 = 1 := by kernel_rfl
  have hcl : Tryd.prog.cellsOf 22 = 1 := by kernel_rfl
  have hcs : Tryd.prog.cellsOf 24 = 7 := by kernel_rfl
  obtain ⟨c0, c1, c2, c3, c4, c5, c6, rfl⟩ := seven (show l.length = 7 from hsz.trans hcs)
  obtain ⟨fuel, hf⟩ := h
  obtain ⟨-, y0, y1, y2, y3, y4, y5, y6, k, f0, f1, f2, f3, f4, f5, f6⟩ := trod_seven Tryd.underlying24 hf
  simp only [hc1, hcl, Value.cells] at f0 f1 f2 f3 f4 f5 f6
  obtain ⟨n0, e0, _⟩ := DataW.trod_int Tryd.underlying3 f0
  obtain ⟨n1, e1, _⟩ := DataW.trod_int Tryd.underlying3 f1
  obtain ⟨n2, e2, _⟩ := DataW.trod_int Tryd.underlying3 f2
  obtain ⟨v3, L3, e3, r3, b3⟩ := rows_in f3
  obtain ⟨v4, L4, e4, r4, b4⟩ := rows_in f4
  obtain ⟨v5, L5, e5, r5, b5⟩ := rows_in f5
  obtain ⟨v6, L6, e6, r6, b6⟩ := rows_in f6
  simp at e0 e1 e2 e3 e4 e5 e6
  subst e0 e1 e2 e3 e4 e5 e6
  exact ⟨⟨n0, n1, n2, L3, L4, L5, L6⟩, _, _, _, _, rfl, ⟨r3, r4, r5, r6⟩, b3, b4, b5, b6⟩
end
end Go.Proofs.YtghfifpicklonaaDoor

/-
  A matrix that came in: its rows can be read. Conditions: none.
-/
namespace Go.Proofs.YtghfifpicklonaaDoor
open Go.ChangeShapes Go.WideShapes Go.ChangeAt Go.RowKit Go.Deep Go.Joins
set_option linter.unusedVariables false
set_option maxRecDepth 100000

section
variable {H : Type} {enc : TypeId × Value → H} {W : World} {sp : Nat → Bool} {held : Bool}
/-- The two fields of a struct, each read. -/
theorem trod_pairM {t : TypeId} {f0 f1 : Field} {fuel : Nat} {cs : List Value} {x : DataW H × List MemPlace} (ht : Tryd.prog.underlying t = some (.struct #[f0, f1])) (h : DataW.trod enc Tryd.prog W 0 sp held fuel t cs = some x) :
    cs.length = Tryd.prog.cellsOf t ∧ ∃ y0 y1 n, DataW.trod enc Tryd.prog W 0 sp held n f0.type ((cs.drop f0.offset).take (Tryd.prog.cellsOf f0.type)) = some y0 ∧
      DataW.trod enc Tryd.prog W 0 sp held n f1.type ((cs.drop f1.offset).take (Tryd.prog.cellsOf f1.type)) = some y1 := by
  obtain ⟨xs, n, _, -, hl, hlen, hf⟩ := DataW.trod_struct ht h
  refine ⟨hl, ?_⟩
  match xs, hlen with
  | [y0, y1], _ => exact ⟨y0, y1, n, by simpa using hf 0 f0 rfl, by simpa using hf 1 f1 rfl⟩
theorem pairM {α : Type} {l : List α} (h : l.length = 2) : ∃ c0 c1, l = [c0, c1] := by
  match l, h with
  | [c0, c1], _ => exact ⟨c0, c1, rfl⟩
theorem matrix_in {r : Reach} {b0 : Nat} {v : Value} {d : DataW H} {p : List MemPlace} (hv : Value.okWide Tryd.prog W r b0 40 v) (h : DataW.Trod enc Tryd.prog W 0 sp held 40 v d p) :
    ∃ cols u M, v = .agg #[.int .i64 cols, u] ∧ RdS W u M ∧ okS M := by
  obtain ⟨cs, rfl, hsz⟩ := okWide_struct Tryd.underlying40 hv
  obtain ⟨l⟩ := cs
  have hc1 : Tryd.prog.cellsOf 3 = 1 := by kernel_rfl
  have hcl : Tryd.prog.cellsOf 22 = 1 := by kernel_rfl
  have hcs : Tryd.prog.cellsOf 40 = 2 := by kernel_rfl
  obtain ⟨c0, c1, rfl⟩ := pairM (show l.length = 2 from hsz.trans hcs)
  obtain ⟨fuel, hf⟩ := h
  obtain ⟨-, y0, y1, k, f0, f1⟩ := trod_pairM Tryd.underlying40 hf
  simp only [hc1, hcl, Value.cells] at f0 f1
  obtain ⟨n0, e0, _⟩ := DataW.trod_int Tryd.underlying3 f0
  obtain ⟨v1, L1, e1, r1, b1⟩ := rows_in f1
  simp at e0 e1
  subst e0 e1
  exact ⟨n0, _, L1, rfl, r1, b1⟩
end
end Go.Proofs.YtghfifpicklonaaDoor

/-
  The cursor of the draws (spec.l1Cur): its methods keep the cursor well formed and write nothing but its own block. Conditions: fewer than 2^40 bytes have been taken.
-/
namespace Go.Proofs.YtghfifpicklonaaDoor
open Go.RowKit
set_option linter.unusedVariables false

theorem seed_byte (x : Int) : 0 ≤ wrap64 (bits .and .u64 (IntKind.u64.wrap x / 1099511627776) 255) ∧ wrap64 (bits .and .u64 (IntKind.u64.wrap x / 1099511627776) 255) ≤ 255 := by
  rw [IntKind.wrap_u64, u64_and _ _ (by omega) (by omega) (by decide) (by decide)]
  have h : ((x % 18446744073709551616 / 1099511627776).toNat &&& (255 : Int).toNat) ≤ 255 := Nat.and_le_right
  generalize ((x % 18446744073709551616 / 1099511627776).toNat &&& (255 : Int).toNat) = y at h
  unfold wrap64
  omega
/-- What anyPrime draws: a field, or one of eight other numbers. -/
def anyP (v : Int) : Prop := v ∈ [(-1 : Int), 0, 1, 4, 9, 91, 98, 101, 2, 3, 5, 7, 11, 13, 97]
end Go.Proofs.YtghfifpicklonaaDoor

/-
  Slices of integers: as a call's own, grown by append; as values that can be read. Conditions: none.
-/
namespace Go.Proofs.YtghfifpicklonaaDoor
open Go.RowKit
set_option linter.unusedVariables false

theorem mul_bd {x y X Y : Int} (h0 : 0 ≤ x) (h1 : x ≤ X) (h2 : 0 ≤ y) (h3 : y ≤ Y) : 0 ≤ x * y ∧ x * y ≤ X * Y :=
  ⟨Int.mul_nonneg h0 h2, Int.mul_le_mul h1 h3 h2 (by omega)⟩
/-- 'out = append(out, x)': the one new element lies in a block of its own. -/
theorem app_int {ops : Array Oper} {rest : List Oper} {o : Oper} {a : Act} {Q : Exit → Act → World → Prop} (hgd : o.guard = none) (s x : Operand)
    (ho : o.op = .call { callee := .builtin .append, args := #[s, x], argTypes := #[27, 27] })
    {B : Nat} {w : World} {v : Value} {zs : List Int} {n : Int} (hs : a.eval s = v) (hx : a.eval x = .slice (some ⟨w.heap.size, 0, none⟩) 1 1)
    (hown : OwnInts B w v zs) (hB : B ≤ w.heap.size) (hl : zs.length ≤ 1000000000)
    (h : ∀ v' w', OwnInts B w' v' (zs ++ [n]) → Below B w w' → wpList Tryd.prog ops Q rest (a.put o.dst v') w') :
    wpList Tryd.prog ops Q (o :: rest) a (w.alloc (.cells #[.int .i64 n] 3)) := by
  obtain ⟨i0, hi, hz0, hz1, hz2⟩ := info_parts info_int
  refine wpList_append_own _ hgd s x 27 ho B 3 i0 (.int .i64 0) 1 8 Tryd.underlying27 hi hz0 hz1 hz2 rfl (by decide) v zs.length (zs.map (Value.int .i64)) hs (hown.alloc _)
    ⟨w.heap.size, 0, none⟩ 1 1 [.int .i64 n] hx rfl ?_ ?_ (by unfold maxLen; omega) (by omega) (by simp; omega) ?_
  · intro j u hj
    match j, hj with
    | 0, hj =>
      simp at hj
      subst hj
      exact intsAt_new w [n] _ 0 (by simp)
    | j + 1, hj => simp at hj
  · intro u hu
    simp at hu
    subst hu
    rfl
  · intro v' w1 hown' hgrow _
    refine h v' w1 (by simpa [OwnInts] using hown') ?_
    refine Below.grown ((Below.refl B w).alloc hB _) hgrow (by simp; omega) fun k hk => ?_
    rcases hown.2 with ⟨hv, _⟩ | ⟨g, cap, cur, hv, hg, _⟩
    · rw [hv] at hk; cases hk
    · rw [hv] at hk
      simp only [Value.ownBlock, Option.some.injEq] at hk
      omega
end Go.Proofs.YtghfifpicklonaaDoor

/-
  The walks of chapter 1's functions, of the program and of the reference. Conditions: the table of small primes holds what its text lays; arguments within some bounds.
-/
namespace Go.Proofs.YtghfifpicklonaaDoor
open Go.RowKit
set_option linter.unusedVariables false

theorem bit_any (b : Bool) (w : World) : Calls Tryd.prog 161 #[.bool b] w fun e w' => e = .returned (.int .i64 (if b then 1 else 0)) ∧ w = w' := by
  cases b
  all_goals
    go_enter Tryd.func161, Tryd.ntmps161
    go_wp2
    go_ret
    exact ⟨rfl, rfl⟩
theorem mod_any (p a : Int) (hp : 1 ≤ p) (hp2 : p ≤ 1000) (h0 : 0 ≤ a) (ha : a ≤ 1000000000) (w : World) : Calls Tryd.prog 151 #[.int .i64 p, .int .i64 a] w fun e w' => e = .returned (.int .i64 (a % p)) ∧ w = w' := by
  have h1 := Int.emod_nonneg a (show p ≠ 0 by omega)
  have h2 := Int.emod_lt_of_pos a (show 0 < p by omega)
  go_enter Tryd.func151, Tryd.ntmps151
  go_wp2
  go_ret
  exact ⟨rfl, rfl⟩
/-! ### isField -/
end Go.Proofs.YtghfifpicklonaaDoor

/-
  Linear algebra over a field of p elements, on functions: sums, combinations, spans, reduced lists and their uniqueness, elimination. Plain mathematics: no program in sight. Conditions: every element other than 0 has an inverse (InvOk), where it is asked.
-/
namespace Go.Proofs.YtghfifpicklonaaDoor.La
set_option linter.unusedVariables false
variable {p : Nat} [NeZero p]

abbrev Vec (p : Nat) := Nat → Fin p
abbrev Mx (p : Nat) := Nat → Nat → Fin p
theorem f0m (x : Fin p) : 0 * x = 0 := by grind
theorem fm0 (x : Fin p) : x * 0 = 0 := by grind
theorem f1m (x : Fin p) : 1 * x = x := by grind
theorem fm1 (x : Fin p) : x * 1 = x := by grind
theorem fa0 (x : Fin p) : x + 0 = x := by grind
theorem f0a (x : Fin p) : 0 + x = x := by grind
/-! ### sums -/
def S : Nat → (Nat → Fin p) → Fin p
  | 0, _ => 0
  | n + 1, f => S n f + f n
theorem S_congr {n : Nat} {f g : Nat → Fin p} (h : ∀ i, i < n → f i = g i) : S n f = S n g := by
  induction n with
  | zero => rfl
  | succ n ih => simp only [S]; rw [ih (fun i hi => h i (by omega)), h n (by omega)]
theorem S_zero (n : Nat) : S n (fun _ => (0 : Fin p)) = 0 := by
  induction n with
  | zero => rfl
  | succ n ih => simp only [S, ih]; grind
theorem S_zero' {n : Nat} {f : Nat → Fin p} (h : ∀ i, i < n → f i = 0) : S n f = 0 := by
  rw [S_congr h, S_zero]
theorem S_add (n : Nat) (f g : Nat → Fin p) : S n (fun i => f i + g i) = S n f + S n g := by
  induction n with
  | zero => simp [S]
  | succ n ih => simp only [S, ih]; grind
theorem S_sub (n : Nat) (f g : Nat → Fin p) : S n (fun i => f i - g i) = S n f - S n g := by
  induction n with
  | zero => simp [S]
  | succ n ih => simp only [S, ih]; grind
theorem S_mul (n : Nat) (k : Fin p) (f : Nat → Fin p) : S n (fun i => k * f i) = k * S n f := by
  induction n with
  | zero => simp only [S]; grind
  | succ n ih => simp only [S, ih]; grind
theorem S_mulr (n : Nat) (k : Fin p) (f : Nat → Fin p) : S n (fun i => f i * k) = S n f * k := by
  induction n with
  | zero => simp only [S]; grind
  | succ n ih => simp only [S, ih]; grind
theorem S_comm (m n : Nat) (f : Nat → Nat → Fin p) : S m (fun i => S n (fun j => f i j)) = S n (fun j => S m (fun i => f i j)) := by
  induction m with
  | zero => exact (S_zero n).symm
  | succ m ih => simp only [S, ih, S_add]
/-- A sum with one term alone. -/
theorem S_one {n k : Nat} (hk : k < n) {f : Nat → Fin p} (h : ∀ i, i < n → i ≠ k → f i = 0) : S n f = f k := by
  induction n with
  | zero => omega
  | succ n ih =>
    simp only [S]
    by_cases e : k = n
    · subst e
      rw [S_zero' (fun i hi => h i (by omega) (by omega))]
      grind
    · rw [ih (by omega) (fun i hi hn => h i (by omega) hn), h n (by omega) (by omega)]
      grind
theorem S_delta {n k : Nat} (hk : k < n) (c : Fin p) : S n (fun i => if i = k then c else 0) = c := by
  rw [S_one hk (fun i _ hn => by simp [hn])]
  simp
/-- A sum, one term set apart. -/
theorem S_split {n k : Nat} (hk : k < n) (f : Nat → Fin p) : S n f = f k + S n (fun i => if i = k then 0 else f i) := by
  have e : S n f = S n (fun i => (if i = k then f k else 0) + (if i = k then 0 else f i)) := by
    refine S_congr fun i _ => ?_
    by_cases h : i = k
    · subst h; simp
    · simp [h]
  rw [e, S_add, S_one hk (fun i _ hn => by simp [hn])]
  simp
theorem S_append (m n : Nat) (f : Nat → Fin p) : S (m + n) f = S m f + S n (fun i => f (m + i)) := by
  induction n with
  | zero => simp only [S, Nat.add_zero]; grind
  | succ n ih => rw [← Nat.add_assoc]; simp only [S, ih]; grind
/-! ### combinations and spans -/
def comb (m : Nat) (x : Vec p) (A : Mx p) : Vec p := fun j => S m (fun i => x i * A i j)
/-- v is a combination of the rows of A. -/
def In (m n : Nat) (A : Mx p) (v : Vec p) : Prop := ∃ x : Vec p, ∀ j, j < n → v j = comb m x A j
theorem In.congr {m n : Nat} {A : Mx p} {v w : Vec p} (h : In m n A v) (e : ∀ j, j < n → w j = v j) : In m n A w := by
  obtain ⟨x, hx⟩ := h
  exact ⟨x, fun j hj => (e j hj).trans (hx j hj)⟩
theorem In.rows {m n : Nat} {A B : Mx p} {v : Vec p} (h : In m n A v) (e : ∀ i, i < m → ∀ j, j < n → A i j = B i j) : In m n B v := by
  obtain ⟨x, hx⟩ := h
  exact ⟨x, fun j hj => (hx j hj).trans (S_congr fun i hi => by rw [e i hi j hj])⟩
theorem In.zero (m n : Nat) (A : Mx p) : In m n A (fun _ => 0) := ⟨fun _ => 0, fun j _ => (S_zero' fun i _ => by grind).symm⟩
theorem In.add {m n : Nat} {A : Mx p} {v w : Vec p} (h : In m n A v) (k : In m n A w) : In m n A (fun j => v j + w j) := by
  obtain ⟨x, hx⟩ := h
  obtain ⟨y, hy⟩ := k
  refine ⟨fun i => x i + y i, fun j hj => ?_⟩
  dsimp only
  rw [hx j hj, hy j hj]
  unfold comb
  rw [← S_add]
  exact S_congr fun i _ => by grind
theorem In.smul {m n : Nat} {A : Mx p} {v : Vec p} (h : In m n A v) (k : Fin p) : In m n A (fun j => k * v j) := by
  obtain ⟨x, hx⟩ := h
  refine ⟨fun i => k * x i, fun j hj => ?_⟩
  dsimp only
  rw [hx j hj]
  unfold comb
  rw [← S_mul]
  exact S_congr fun i _ => by grind
theorem In.row {m n : Nat} {A : Mx p} {i : Nat} (hi : i < m) : In m n A (A i) := by
  refine ⟨fun k => if k = i then 1 else 0, fun j _ => ?_⟩
  unfold comb
  rw [S_one hi (fun k _ hk => by simp only [hk, if_false]; grind)]
  simp only [if_true]
  grind
theorem In.comb {m m' n : Nat} {A B : Mx p} (h : ∀ i, i < m → In m' n B (A i)) (x : Vec p) : In m' n B (comb m x A) := by
  induction m with
  | zero => exact In.zero _ _ _
  | succ m ih => exact (ih (fun i hi => h i (by omega))).add ((h m (by omega)).smul (x m))
theorem In.trans {m m' n : Nat} {A B : Mx p} {v : Vec p} (hv : In m n A v) (h : ∀ i, i < m → In m' n B (A i)) : In m' n B v := by
  obtain ⟨x, hx⟩ := hv
  exact (In.comb h x).congr hx
/-- What vanishes on each row vanishes on the span. -/
theorem In.dot {m n : Nat} {A : Mx p} {v w : Vec p} (hv : In m n A v) (h : ∀ i, i < m → S n (fun j => A i j * w j) = 0) : S n (fun j => v j * w j) = 0 := by
  obtain ⟨x, hx⟩ := hv
  have e : S n (fun j => v j * w j) = S n (fun j => S m (fun i => x i * (A i j * w j))) := by
    refine S_congr fun j hj => ?_
    rw [hx j hj]
    unfold La.comb
    rw [← S_mulr]
    exact S_congr fun i _ => by grind
  rw [e, S_comm]
  refine S_zero' fun i hi => ?_
  rw [S_mul, h i hi]
  grind
/-- The rows are independent. -/
def Indep (m n : Nat) (A : Mx p) : Prop := ∀ x : Vec p, (∀ j, j < n → comb m x A j = 0) → ∀ i, i < m → x i = 0
/-! ### reduced lists -/
structure RR (r n : Nat) (A : Mx p) (piv : Nat → Nat) : Prop where
  lt : ∀ i, i < r → piv i < n
  inc : ∀ i j, i < j → j < r → piv i < piv j
  one : ∀ i, i < r → A i (piv i) = 1
  col : ∀ i k, i < r → k < r → k ≠ i → A k (piv i) = 0
  left : ∀ i j, i < r → j < piv i → A i j = 0
section rr
variable {r n : Nat} {A : Mx p} {piv : Nat → Nat}
theorem RR.comb_at (h : RR r n A piv) (x : Vec p) {i : Nat} (hi : i < r) : comb r x A (piv i) = x i := by
  unfold comb
  rw [S_one hi (fun k hk hn => by rw [h.col i k hi hk hn]; grind), h.one i hi]
  grind
theorem RR.coords (h : RR r n A piv) {v : Vec p} (hv : In r n A v) : ∀ j, j < n → v j = comb r (fun i => v (piv i)) A j := by
  obtain ⟨x, hx⟩ := hv
  intro j hj
  rw [hx j hj]
  refine S_congr fun i hi => ?_
  dsimp only
  rw [hx (piv i) (h.lt i hi), h.comb_at x hi]
theorem RR.indep (h : RR r n A piv) : Indep r n A := fun x hx i hi => by rw [← h.comb_at x hi]; exact hx _ (h.lt i hi)
/-- The leading index of a vector of the span is a pivot. -/
theorem RR.lead (h : RR r n A piv) {v : Vec p} (hv : In r n A v) {c : Nat} (hc : c < n) (h0 : ∀ j, j < c → v j = 0) (h1 : v c ≠ 0) : ∃ i, i < r ∧ piv i = c := by
  refine Classical.byContradiction fun hno => h1 ?_
  rw [h.coords hv c hc]
  refine S_zero' fun i hi => ?_
  dsimp only
  rcases Nat.lt_or_ge (piv i) c with hlt | hge
  · rw [h0 _ hlt]; grind
  · have : c < piv i := by
      rcases Nat.lt_or_ge c (piv i) with h | h
      · exact h
      · exact absurd ⟨i, hi, by omega⟩ hno
    rw [h.left i c hi this]; grind
end rr

/-- Increasing lists with the same members are equal. -/
theorem inc_eq : ∀ {l l' : List Nat}, l.Pairwise (· < ·) → l'.Pairwise (· < ·) → (∀ x, x ∈ l ↔ x ∈ l') → l = l'
  | [], [], _, _, _ => rfl
  | [], b :: _, _, _, h => absurd ((h b).2 (by simp)) (by simp)
  | a :: _, [], _, _, h => absurd ((h a).1 (by simp)) (by simp)
  | a :: l, b :: l', h1, h2, h => by
    rw [List.pairwise_cons] at h1 h2
    have hab : a = b := by
      have ha := (h a).1 (by simp)
      have hb := (h b).2 (by simp)
      rcases List.mem_cons.1 ha with e | ha
      · exact e
      · rcases List.mem_cons.1 hb with e | hb
        · exact e.symm
        · have := h2.1 a ha
          have := h1.1 b hb
          omega
    subst hab
    refine congrArg _ (inc_eq h1.2 h2.2 fun x => ?_)
    constructor
    · intro hx
      rcases List.mem_cons.1 ((h x).1 (List.mem_cons_of_mem _ hx)) with e | hx'
      · have := h1.1 x hx; omega
      · exact hx'
    · intro hx
      rcases List.mem_cons.1 ((h x).2 (List.mem_cons_of_mem _ hx)) with e | hx'
      · have := h2.1 x hx; omega
      · exact hx'
theorem piv_sorted {r : Nat} {piv : Nat → Nat} (h : ∀ i j, i < j → j < r → piv i < piv j) : ((List.range r).map piv).Pairwise (· < ·) := by
  rw [List.pairwise_map]
  have : (List.range r).Pairwise (fun a b => a < b ∧ b < r) := by
    rw [List.pairwise_iff_getElem]
    intro i j hi hj hij
    simp at hi hj ⊢
    omega
  exact this.imp fun h' => h _ _ h'.1 h'.2
/-- A space has one reduced list. -/
theorem RR.unique {r r' n : Nat} {A B : Mx p} {piv piv' : Nat → Nat} (h : RR r n A piv) (h' : RR r' n B piv') (h10 : (1 : Fin p) ≠ 0)
    (hs : ∀ v, In r n A v ↔ In r' n B v) : r = r' ∧ (∀ i, i < r → piv i = piv' i) ∧ ∀ i, i < r → ∀ j, j < n → A i j = B i j := by
  have key : (List.range r).map piv = (List.range r').map piv' := by
    refine inc_eq (piv_sorted h.inc) (piv_sorted h'.inc) fun x => ?_
    simp only [List.mem_map, List.mem_range]
    constructor
    · rintro ⟨i, hi, rfl⟩
      exact h'.lead ((hs _).1 (In.row hi)) (h.lt i hi) (fun j hj => h.left i j hi hj) (by rw [h.one i hi]; exact h10)
    · rintro ⟨i, hi, rfl⟩
      exact h.lead ((hs _).2 (In.row hi)) (h'.lt i hi) (fun j hj => h'.left i j hi hj) (by rw [h'.one i hi]; exact h10)
  have hr : r = r' := by simpa using congrArg List.length key
  subst hr
  have hp : ∀ i, i < r → piv i = piv' i := by
    intro i hi
    have := congrArg (fun l => l[i]?) key
    simpa [hi] using this
  refine ⟨rfl, hp, fun i hi j hj => ?_⟩
  rw [h'.coords ((hs _).1 (In.row hi)) j hj]
  unfold comb
  rw [S_one hi (fun k hk hn => by dsimp only; rw [← hp k hk, h.col k i hk hi (Ne.symm hn)]; grind)]
  dsimp only
  rw [← hp i hi, h.one i hi]
  grind
end Go.Proofs.YtghfifpicklonaaDoor.La

/-
  Elimination, on functions: the three row operations keep the span, the independence of the transforming rows and what they make; a round clears a column. Plain mathematics. Conditions: as each states.
-/
namespace Go.Proofs.YtghfifpicklonaaDoor.La
set_option linter.unusedVariables false
variable {p : Nat} [NeZero p]

/-- R is made of M by T, whose rows are independent; R and M span the same. -/
structure Inv (m n : Nat) (M R T : Mx p) : Prop where
  made : ∀ i, i < m → ∀ j, j < n → R i j = comb m (T i) M j
  indep : Indep m m T
  span : ∀ v, In m n R v ↔ In m n M v
theorem span_of {m n : Nat} {R R1 : Mx p} (h1 : ∀ i, i < m → In m n R (R1 i)) (h2 : ∀ i, i < m → In m n R1 (R i)) (v : Vec p) : In m n R1 v ↔ In m n R v :=
  ⟨fun h => h.trans h1, fun h => h.trans h2⟩
theorem Inv.start (m n : Nat) (M : Mx p) : Inv m n M M (fun i j => if i = j then 1 else 0) := by
  refine ⟨fun i hi j _ => ?_, fun x hx i hi => ?_, fun v => Iff.rfl⟩
  · unfold comb
    rw [S_one hi (fun k _ hk => by simp [Ne.symm hk, f0m])]
    simp [f1m]
  · have := hx i hi
    unfold comb at this
    rw [S_one hi (fun k _ hk => by simp [hk, fm0])] at this
    simpa [fm1] using this
/-- the transposition of a and b -/
def tw (a b i : Nat) : Nat := if i = a then b else if i = b then a else i
theorem tw_lt {a b i m : Nat} (ha : a < m) (hb : b < m) (hi : i < m) : tw a b i < m := by unfold tw; split <;> (try split) <;> omega
theorem tw_tw (a b i : Nat) : tw a b (tw a b i) = i := by
  unfold tw
  by_cases h1 : i = a
  · by_cases h2 : b = a <;> simp [h1, h2]
  · by_cases h2 : i = b
    · simp [h2]
    · simp [h1, h2]
theorem S_tw {m a b : Nat} (ha : a < m) (hb : b < m) (f : Nat → Fin p) : S m (fun i => f (tw a b i)) = S m f := by
  by_cases hab : a = b
  · subst hab
    refine S_congr fun i _ => ?_
    unfold tw
    by_cases h : i = a
    · simp [h]
    · simp [h]
  · have hr : ∀ g : Nat → Fin p, S m g = g a + (g b + S m (fun i => if i = b then 0 else if i = a then 0 else g i)) := by
      intro g
      rw [S_split ha g, S_split hb (fun i => if i = a then 0 else g i)]
      simp [Ne.symm hab]
    rw [hr, hr f]
    have e : S m (fun i => if i = b then 0 else if i = a then 0 else f (tw a b i)) = S m (fun i => if i = b then 0 else if i = a then 0 else f i) := by
      refine S_congr fun i _ => ?_
      by_cases h1 : i = b
      · simp [h1]
      · by_cases h2 : i = a
        · simp [h2]
        · simp [h1, h2, tw]
    rw [e]
    have e1 : tw a b a = b := by simp [tw]
    have e2 : tw a b b = a := by simp [tw]
    rw [e1, e2]
    grind
theorem Inv.swap {m n a b : Nat} {M R T : Mx p} (h : Inv m n M R T) (ha : a < m) (hb : b < m) : Inv m n M (fun i => R (tw a b i)) (fun i => T (tw a b i)) := by
  refine ⟨fun i hi j hj => h.made _ (tw_lt ha hb hi) j hj, fun x hx i hi => ?_, fun v => ?_⟩
  · have := h.indep (fun i => x (tw a b i)) (fun j hj => by
      have h2 := hx j hj
      unfold comb at h2 ⊢
      rw [← S_tw ha hb] at h2
      rw [← h2]
      exact S_congr fun i _ => by dsimp only; rw [tw_tw]) (tw a b i) (tw_lt ha hb hi)
    simpa [tw_tw] using this
  · rw [← h.span]
    refine span_of (fun i hi => In.row (tw_lt ha hb hi)) (fun i hi => ?_) v
    have := In.row (n := n) (A := fun i => R (tw a b i)) (tw_lt ha hb hi)
    simpa [tw_tw] using this
def scale (a : Nat) (k : Fin p) (A : Mx p) : Mx p := fun i j => if i = a then A i j * k else A i j
theorem Inv.scale {m n a : Nat} {k k' : Fin p} {M R T : Mx p} (h : Inv m n M R T) (ha : a < m) (hk : k * k' = 1) : Inv m n M (scale a k R) (scale a k T) := by
  refine ⟨fun i hi j hj => ?_, fun x hx i hi => ?_, fun v => ?_⟩
  · unfold La.scale
    by_cases e : i = a
    · subst e
      simp only [if_true]
      rw [h.made i hi j hj]
      unfold comb
      rw [← S_mulr]
      refine S_congr fun t _ => ?_
      dsimp only
      grind
    · simp only [e, if_false]
      rw [h.made i hi j hj]
  · have := h.indep (fun i => if i = a then x i * k else x i) (fun j hj => by
      have h2 := hx j hj
      rw [← h2]
      unfold comb La.scale
      refine S_congr fun t _ => ?_
      by_cases e : t = a
      · simp only [e, if_true]; grind
      · simp only [e, if_false]) i hi
    by_cases e : i = a
    · simp only [e, if_true] at this ⊢
      grind
    · simpa only [e, if_false] using this
  · rw [← h.span]
    refine span_of (fun i hi => ?_) (fun i hi => ?_) v
    · by_cases e : i = a
      · subst e
        exact ((In.row hi).smul k).congr fun j _ => by simp only [La.scale, if_true]; grind
      · exact (In.row hi).congr fun j _ => by simp only [La.scale, e, if_false]
    · by_cases e : i = a
      · subst e
        exact ((In.row (A := La.scale i k R) hi).smul k').congr fun j _ => by simp only [La.scale, if_true]; grind
      · exact (In.row (A := La.scale a k R) hi).congr fun j _ => by simp only [La.scale, e, if_false]
def less (i0 r : Nat) (k : Fin p) (A : Mx p) : Mx p := fun i j => if i = i0 then A i j - k * A r j else A i j
theorem Inv.less {m n i0 r : Nat} {k : Fin p} {M R T : Mx p} (h : Inv m n M R T) (hi0 : i0 < m) (hr : r < m) (hne : i0 ≠ r) : Inv m n M (less i0 r k R) (less i0 r k T) := by
  refine ⟨fun i hi j hj => ?_, fun x hx i hi => ?_, fun v => ?_⟩
  · unfold La.less
    by_cases e : i = i0
    · subst e
      simp only [if_true]
      rw [h.made i hi j hj, h.made r hr j hj]
      unfold comb
      rw [← S_mul, ← S_sub]
      refine S_congr fun t _ => ?_
      dsimp only
      grind
    · simp only [e, if_false]
      rw [h.made i hi j hj]
  · have hy := h.indep (fun i => x i + if i = r then - (x i0 * k) else 0) (fun j hj => by
      have h2 := hx j hj
      refine Eq.trans ?_ h2
      have e1 : comb m x (La.less i0 r k T) j = S m (fun i => x i * T i j + if i = i0 then - (x i0 * k * T r j) else 0) := by
        unfold comb La.less
        refine S_congr fun t _ => ?_
        by_cases e : t = i0
        · subst e; simp only [if_true]; grind
        · simp only [e, if_false]; grind
      have e2 : comb m (fun i => x i + if i = r then - (x i0 * k) else 0) T j = S m (fun i => x i * T i j + if i = r then - (x i0 * k * T r j) else 0) := by
        unfold comb
        refine S_congr fun t _ => ?_
        by_cases e : t = r
        · subst e; simp only [if_true]; grind
        · simp only [e, if_false]; grind
      rw [e1, e2, S_add, S_add, S_delta hi0, S_delta hr])
    have h0 : ∀ i, i < m → i ≠ r → x i = 0 := by
      intro i hi hir
      have := hy i hi
      simp only [hir, if_false] at this
      grind
    by_cases e : i = r
    · have h3 := hy r hr
      simp only [if_true] at h3
      rw [h0 i0 hi0 hne] at h3
      rw [e]
      grind
    · exact h0 i hi e
  · rw [← h.span]
    refine span_of (fun i hi => ?_) (fun i hi => ?_) v
    · by_cases e : i = i0
      · subst e
        exact ((In.row hi).add ((In.row hr).smul (-k))).congr fun j _ => by simp only [La.less, if_true]; grind
      · exact (In.row hi).congr fun j _ => by simp only [La.less, e, if_false]
    · by_cases e : i = i0
      · subst e
        exact ((In.row (A := La.less i r k R) hi).add ((In.row (A := La.less i r k R) hr).smul k)).congr fun j _ => by
          simp only [La.less, if_true, Ne.symm hne, if_false]; grind
      · exact (In.row (A := La.less i0 r k R) hi).congr fun j _ => by simp only [La.less, e, if_false]
/-- The rows before t are cleared in the column c by the row r. -/
def clear (t r c : Nat) (R A : Mx p) : Mx p := fun i j => if i < t ∧ i ≠ r then A i j - R i c * A r j else A i j
theorem Inv.congr {m n : Nat} {M R R' T T' : Mx p} (h : Inv m n M R T) (hR : ∀ i, i < m → ∀ j, R i j = R' i j) (hT : ∀ i, i < m → ∀ j, T i j = T' i j) : Inv m n M R' T' := by
  refine ⟨fun i hi j hj => ?_, fun x hx i hi => ?_, fun v => ?_⟩
  · rw [← hR i hi j, h.made i hi j hj]
    exact S_congr fun t ht => by rw [hT i hi t]
  · refine h.indep x (fun j hj => ?_) i hi
    rw [← hx j hj]
    exact S_congr fun t ht => by rw [hT t ht j]
  · rw [← h.span]
    exact ⟨fun h => h.rows fun i hi j _ => (hR i hi j).symm, fun h => h.rows fun i hi j _ => hR i hi j⟩
theorem Inv.clear {m n r c : Nat} {M R T : Mx p} (h : Inv m n M R T) (hr : r < m) : ∀ t, t ≤ m → Inv m n M (clear t r c R R) (clear t r c R T) := by
  intro t
  induction t with
  | zero => intro _; exact h.congr (fun i hi j => by simp [La.clear]) (fun i hi j => by simp [La.clear])
  | succ t ih =>
    intro ht
    have h1 := ih (by omega)
    by_cases e : t = r
    · subst e
      refine h1.congr (fun i hi j => ?_) (fun i hi j => ?_)
      all_goals
        unfold La.clear
        by_cases h2 : i < t
        · simp [h2, show i < t + 1 from by omega]
        · by_cases h3 : i = t
          · simp [h3]
          · simp [h2, show ¬ i < t + 1 from by omega]
    · have h2 := h1.less (k := R t c) (i0 := t) (r := r) (by omega) hr e
      refine h2.congr (fun i hi j => ?_) (fun i hi j => ?_)
      all_goals
        unfold La.less La.clear
        by_cases h3 : i = t
        · subst h3
          simp [e]
        · by_cases h4 : i < t
          · simp [h3, h4, show i < t + 1 from by omega]
          · simp [h3, h4, show ¬ i < t + 1 from by omega]
/-- The columns before c are done: r pivots. -/
structure Elim (m n c r : Nat) (piv : Nat → Nat) (R : Mx p) : Prop where
  rm : r ≤ m
  cn : c ≤ n
  lt : ∀ i, i < r → piv i < c
  inc : ∀ i j, i < j → j < r → piv i < piv j
  one : ∀ i, i < r → R i (piv i) = 1
  col : ∀ i k, i < r → k < m → k ≠ i → R k (piv i) = 0
  left : ∀ i j, i < r → j < piv i → R i j = 0
  low : ∀ k j, r ≤ k → k < m → j < c → R k j = 0
theorem Elim.start (m n : Nat) (piv : Nat → Nat) (R : Mx p) : Elim m n 0 0 piv R :=
  ⟨Nat.zero_le _, Nat.zero_le _, fun _ h => by omega, fun _ _ _ h => by omega, fun _ h => by omega, fun _ _ h => by omega, fun _ _ h => by omega, fun _ _ _ _ h => by omega⟩
theorem Elim.congr {m n c r : Nat} {piv : Nat → Nat} {R R' : Mx p} (h : Elim m n c r piv R) (e : ∀ i, i < m → ∀ j, R i j = R' i j) : Elim m n c r piv R' := by
  have hrm := h.rm
  exact ⟨h.rm, h.cn, h.lt, h.inc, fun i hi => by rw [← e i (by omega)]; exact h.one i hi, fun i k hi hk hn => by rw [← e k hk]; exact h.col i k hi hk hn,
    fun i j hi hj => by rw [← e i (by omega)]; exact h.left i j hi hj, fun k j hk hm hj => by rw [← e k hm]; exact h.low k j hk hm hj⟩
theorem Elim.none {m n c r : Nat} {piv : Nat → Nat} {R : Mx p} (h : Elim m n c r piv R) (hc : c < n) (h0 : ∀ k, r ≤ k → k < m → R k c = 0) : Elim m n (c + 1) r piv R :=
  ⟨h.rm, by omega, fun i hi => by have := h.lt i hi; omega, h.inc, h.one, h.col, h.left, fun k j hk hm hj => by
    by_cases e : j = c
    · subst e; exact h0 k hk hm
    · exact h.low k j hk hm (by omega)⟩
theorem Elim.some {m n c r k : Nat} {y : Fin p} {piv : Nat → Nat} {R : Mx p} (h : Elim m n c r piv R) (hc : c < n) (hk : r ≤ k) (hkm : k < m) (hy : R k c * y = 1) :
    Elim m n (c + 1) (r + 1) (fun i => if i = r then c else piv i) (clear m r c (scale r y fun i => R (tw r k i)) (scale r y fun i => R (tw r k i))) := by
  have hrm : r < m := by omega
  have htw : ∀ i, i < r → tw r k i = i := by
    intro i hi
    unfold tw
    simp [show i ≠ r from by omega, show i ≠ k from by omega]
  have htr : tw r k r = k := by simp [tw]
  have hge : ∀ i, r ≤ i → i < m → r ≤ tw r k i ∧ tw r k i < m := by
    intro i hi him
    unfold tw
    split
    · exact ⟨hk, hkm⟩
    · split
      · exact ⟨Nat.le_refl _, hrm⟩
      · exact ⟨hi, him⟩
  -- the matrix behind the exchange and the division
  generalize hB : (scale r y fun i => R (tw r k i)) = B
  have Brow : ∀ j, B r j = R k j * y := by intro j; rw [← hB]; simp [La.scale, htr]
  have Both : ∀ i j, i ≠ r → B i j = R (tw r k i) j := by intro i j hi; rw [← hB]; simp [La.scale, hi]
  have Brc : B r c = 1 := by rw [Brow]; exact hy
  have Br0 : ∀ j, j < c → B r j = 0 := by intro j hj; rw [Brow, h.low k j hk hkm hj]; grind
  have C : ∀ i j, i < m → clear m r c B B i j = if i = r then B r j else B i j - B i c * B r j := by
    intro i j hi
    unfold La.clear
    by_cases e : i = r
    · simp [e]
    · simp [e, hi]
  refine ⟨by omega, by omega, ?_, ?_, ?_, ?_, ?_, ?_⟩
  · intro i hi
    by_cases e : i = r
    · simp [e]
    · simp only [e, if_false]
      have := h.lt i (by omega)
      omega
  · intro i j hij hj
    by_cases e : j = r
    · have := h.lt i (by omega)
      simp only [e, if_true, show i ≠ r from by omega, if_false]
      omega
    · simp only [e, if_false, show i ≠ r from by omega]
      exact h.inc i j hij (by omega)
  · intro i hi
    rw [C i _ (by omega)]
    by_cases e : i = r
    · subst e; simp only [if_true]; exact Brc
    · simp only [e, if_false]
      have hir : i < r := by omega
      rw [Br0 _ (h.lt i hir), Both i _ e, htw i hir, h.one i hir]
      grind
  · intro i k' hi hk' hne
    rw [C k' _ hk']
    by_cases e : i = r
    · subst e
      simp only [if_true, hne, if_false]
      rw [Brc]
      grind
    · have hir : i < r := by omega
      have hl := h.lt i hir
      simp only [e, if_false]
      by_cases e2 : k' = r
      · simp only [e2, if_true]
        exact Br0 _ hl
      · simp only [e2, if_false]
        rw [Br0 _ hl, Both k' _ e2]
        have hz : R (tw r k k') (piv i) = 0 := by
          rcases Nat.lt_or_ge k' r with h1 | h1
          · rw [htw k' h1]; exact h.col i k' hir hk' hne
          · exact h.low _ _ (hge k' h1 hk').1 (hge k' h1 hk').2 hl
        rw [hz]
        grind
  · intro i j hi hj
    rw [C i j (by omega)]
    by_cases e : i = r
    · simp only [e, if_true] at hj ⊢
      exact Br0 j hj
    · simp only [e, if_false] at hj ⊢
      have hir : i < r := by omega
      have hl := h.lt i hir
      rw [Br0 j (by omega), Both i j e, htw i hir, h.left i j hir hj]
      grind
  · intro k' j hk' hm hj
    rw [C k' j hm]
    have e : k' ≠ r := by omega
    simp only [e, if_false]
    by_cases e2 : j = c
    · subst e2
      rw [Brc]
      grind
    · rw [Br0 j (by omega), Both k' j e, h.low _ j (hge k' (by omega) hm).1 (hge k' (by omega) hm).2 (by omega)]
      grind
/-- Behind the last column the first r rows are a reduced list, and the others vanish. -/
theorem Elim.rr {m n r : Nat} {piv : Nat → Nat} {R : Mx p} (h : Elim m n n r piv R) : RR r n R piv := by
  have := h.rm
  exact ⟨h.lt, h.inc, h.one, fun i k hi hk hn => h.col i k hi (by omega) hn, h.left⟩
theorem In_low {m r n : Nat} {R : Mx p} (hrm : r ≤ m) (h : ∀ k j, r ≤ k → k < m → j < n → R k j = 0) (v : Vec p) : In m n R v ↔ In r n R v := by
  constructor
  · rintro ⟨x, hx⟩
    refine ⟨x, fun j hj => ?_⟩
    rw [hx j hj]
    unfold comb
    rw [show m = r + (m - r) from by omega, S_append, S_zero' (n := m - r) (fun i hi => by rw [h (r + i) j (by omega) (by omega) hj]; grind)]
    grind
  · intro hv
    exact hv.trans fun i hi => In.row (by omega)
end Go.Proofs.YtghfifpicklonaaDoor.La

/-
  Elimination on lists of lists of integers, as the program makes it, and what it gives. Plain mathematics: no program in sight. Conditions: the number of elements is a field of the program's kind.
-/
namespace Go.Proofs.YtghfifpicklonaaDoor
open La
set_option linter.unusedVariables false

/-! ### integers as elements -/
section elements
variable {p : Nat} [NeZero p]
theorem pos_int (p : Nat) [NeZero p] : (0 : Int) < p := by have := Nat.pos_of_ne_zero (NeZero.ne p); omega
def toF (p : Nat) [NeZero p] (x : Int) : Fin p := ⟨(x % p).toNat, by
  have h0 := Int.emod_nonneg x (show (p : Int) ≠ 0 by have := pos_int p; omega)
  have h1 := Int.emod_lt_of_pos x (pos_int p)
  omega⟩
theorem toF_val (x : Int) : ((toF p x).val : Int) = x % p := by
  have h0 := Int.emod_nonneg x (show (p : Int) ≠ 0 by have := pos_int p; omega)
  simp only [toF]
  omega
theorem toF_eq {x y : Int} : toF p x = toF p y ↔ x % p = y % p := by
  constructor
  · intro h; rw [← toF_val, ← toF_val, h]
  · intro h
    apply Fin.ext
    have : ((toF p x).val : Int) = ((toF p y).val : Int) := by rw [toF_val, toF_val, h]
    omega
theorem toF_zero : toF p 0 = 0 := by apply Fin.ext; simp [toF]
theorem toF_one : toF p 1 = 1 := by
  apply Fin.ext
  have : ((toF p 1).val : Int) = ((1 : Fin p).val : Int) := by
    have e : (1 : Fin p).val = 1 % p := rfl
    rw [toF_val, e]
    push_cast
    rfl
  omega
theorem toF_add (x y : Int) : toF p (x + y) = toF p x + toF p y := by
  apply Fin.ext
  have : ((toF p (x + y)).val : Int) = ((toF p x + toF p y).val : Int) := by
    rw [toF_val, Fin.val_add]
    push_cast
    rw [toF_val, toF_val, ← Int.add_emod]
  omega
theorem toF_mul (x y : Int) : toF p (x * y) = toF p x * toF p y := by
  apply Fin.ext
  have : ((toF p (x * y)).val : Int) = ((toF p x * toF p y).val : Int) := by
    rw [toF_val, Fin.val_mul]
    push_cast
    rw [toF_val, toF_val, ← Int.mul_emod]
  omega
theorem toF_neg (x : Int) : toF p (-x) = - toF p x := by
  have h := toF_add (p := p) x (-x)
  rw [Int.add_right_neg, toF_zero] at h
  grind
theorem toF_sub (x y : Int) : toF p (x - y) = toF p x - toF p y := by
  rw [Int.sub_eq_add_neg, toF_add, toF_neg]
  grind
theorem toF_emod (x : Int) : toF p (x % p) = toF p x := by rw [toF_eq, Int.emod_emod_of_dvd _ (Int.dvd_refl _)]
theorem toF_inj {x y : Int} (h0 : 0 ≤ x) (h1 : x < p) (h2 : 0 ≤ y) (h3 : y < p) (h : toF p x = toF p y) : x = y := by
  rw [toF_eq, Int.emod_eq_of_lt h0 h1, Int.emod_eq_of_lt h2 h3] at h
  exact h
theorem toF_ne {x : Int} (h0 : 0 ≤ x) (h1 : x < p) (h : x ≠ 0) : toF p x ≠ 0 := by
  intro e
  rw [← toF_zero] at e
  exact h (toF_inj h0 h1 (by omega) (pos_int p) e)
theorem toF_back (x : Fin p) : toF p (x.val : Int) = x := by
  apply Fin.ext
  have : ((toF p (x.val : Int)).val : Int) = (x.val : Int) := by
    rw [toF_val, Int.emod_eq_of_lt (by omega) (by have := x.isLt; omega)]
  omega
theorem toF_inv {b : Int} (hf : fldN p = true) (h0 : 0 < b) (h1 : b < p) : toF p b * toF p (invI p b) = 1 := by
  obtain ⟨m, rfl⟩ := Int.eq_ofNat_of_zero_le (show 0 ≤ b by omega)
  have h := (field_facts hf (b := m) (by omega)).inv (by omega)
  rw [← toF_mul, ← toF_one, toF_eq]
  have e : invI p m = ((m ^ (p - 2 + if p = 2 then 1 else 0) % p : Nat) : Int) := by
    rw [nat_pow_mod]
    unfold invI
    rw [Int.toNat_natCast]
    by_cases h2 : p = 2
    · subst h2; rfl
    · rw [if_neg h2, if_neg (by omega)]
  rw [e]
  have h2 := (of_decide_eq_true hf).1
  rw [Int.emod_eq_of_lt (show (0 : Int) ≤ 1 by omega) (by omega)]
  exact_mod_cast h
end elements

/-! ### lists as vectors and matrices -/
def VecOk (p : Int) (n : Nat) (v : List Int) : Prop := v.length = n ∧ ∀ x ∈ v, 0 ≤ x ∧ x < p
def RowsOk (p : Int) (n : Nat) (L : List (List Int)) : Prop := ∀ row ∈ L, VecOk p n row
section lists
variable {p : Nat} [NeZero p]
def vec (p : Nat) [NeZero p] (v : List Int) : Vec p := fun j => toF p (v.getD j 0)
def mx (p : Nat) [NeZero p] (L : List (List Int)) : Mx p := fun i => vec p (L.getD i [])
theorem vec_at {v : List Int} {j : Nat} (h : j < v.length) : vec p v j = toF p v[j] := by
  unfold vec; rw [List.getD_eq_getElem?_getD, List.getElem?_eq_getElem h]; rfl
theorem vec_past {v : List Int} {j : Nat} (h : v.length ≤ j) : vec p v j = 0 := by
  unfold vec; rw [List.getD_eq_getElem?_getD, List.getElem?_eq_none h]; exact toF_zero
theorem mx_at {L : List (List Int)} {i : Nat} (h : i < L.length) : mx p L i = vec p L[i] := by
  unfold mx; rw [List.getD_eq_getElem?_getD, List.getElem?_eq_getElem h]; rfl
theorem mx_past {L : List (List Int)} {i j : Nat} (h : L.length ≤ i) : mx p L i j = 0 := by
  unfold mx; rw [List.getD_eq_getElem?_getD, List.getElem?_eq_none h]; exact vec_past (by simp)
theorem vec_ext {n : Nat} {v w : List Int} (hv : VecOk p n v) (hw : VecOk p n w) (h : ∀ j, j < n → vec p v j = vec p w j) : v = w := by
  refine List.ext_getElem (hv.1.trans hw.1.symm) fun j h1 h2 => ?_
  have := h j (by rw [← hv.1]; exact h1)
  rw [vec_at h1, vec_at h2] at this
  have b1 := hv.2 _ (List.getElem_mem h1)
  have b2 := hw.2 _ (List.getElem_mem h2)
  exact toF_inj b1.1 b1.2 b2.1 b2.2 this
theorem rows_ext {m n : Nat} {A B : List (List Int)} (hA : RowsOk p n A) (hB : RowsOk p n B) (hl : A.length = m) (hl' : B.length = m) (h : ∀ i, i < m → ∀ j, j < n → mx p A i j = mx p B i j) : A = B := by
  refine List.ext_getElem (hl.trans hl'.symm) fun i h1 h2 => ?_
  refine vec_ext (hA _ (List.getElem_mem h1)) (hB _ (List.getElem_mem h2)) fun j hj => ?_
  have := h i (by omega) j hj
  rwa [mx_at h1, mx_at h2] at this
end lists

/-- v plus k times w -/
def addT (p : Int) (v : List Int) (k : Int) (w : List Int) : List Int := List.zipWith (fun x a => (x + k * a) % p) v w
def scaleV (p : Int) (v : List Int) (k : Int) : List Int := v.map fun x => x * k % p
def swapL (L : List (List Int)) (a b : Nat) : List (List Int) := (L.set a (L.getD b [])).set b (L.getD a [])
def divL (p : Int) (L : List (List Int)) (r : Nat) (y : Int) : List (List Int) := L.set r (scaleV p (L.getD r []) y)
/-- what stands at row i, column c -/
def at2 (L : List (List Int)) (i c : Nat) : Int := (L.getD i []).getD c 0
def clearRow (p : Int) (R : List (List Int)) (c r : Nat) (piv : List Int) (i : Nat) (row : List Int) : List Int :=
  if i ≠ r ∧ at2 R i c ≠ 0 then addT p row (-(at2 R i c)) piv else row
def clearL (p : Int) (R : List (List Int)) (c r : Nat) (A : List (List Int)) : List (List Int) := A.mapIdx (clearRow p R c r (A.getD r []))
structure St where
  R : List (List Int)
  T : List (List Int)
  r : Nat
def pivAt (R : List (List Int)) (c r : Nat) : Option Nat := firstFrom (fun k => at2 R k c != 0) r (R.length - r)
def stepWith (p : Int) (c k : Nat) (s : St) : St :=
  let R1 := swapL s.R s.r k
  let T1 := swapL s.T s.r k
  let y := invI p (at2 R1 s.r c)
  let R2 := divL p R1 s.r y
  let T2 := divL p T1 s.r y
  ⟨clearL p R2 c s.r R2, clearL p R2 c s.r T2, s.r + 1⟩
def stepL (p : Int) (c : Nat) (s : St) : St :=
  match pivAt s.R c s.r with
  | none => s
  | some k => stepWith p c k s
def redTo (p : Int) (R T : List (List Int)) : Nat → St
  | 0 => ⟨R, T, 0⟩
  | c + 1 => stepL p c (redTo p R T c)
def unitL (n i : Nat) : List Int := (List.replicate n 0).set i 1
def idL (n : Nat) : List (List Int) := (List.range n).map (unitL n)
/-! ### the list operations, as functions -/
section ops
variable {p : Nat} [NeZero p]
theorem vec_addT {v w : List Int} (k : Int) (h : v.length = w.length) (j : Nat) : vec p (addT p v k w) j = vec p v j + toF p k * vec p w j := by
  have hl : (addT p v k w).length = v.length := by simp [addT, h]
  rcases Nat.lt_or_ge j v.length with hj | hj
  · rw [vec_at (by omega), vec_at hj, vec_at (by omega)]
    have e : (addT p v k w)[j]'(by omega) = (v[j] + k * w[j]) % p := by simp [addT]
    rw [e, toF_emod, toF_add, toF_mul]
  · rw [vec_past (by omega), vec_past hj, vec_past (by omega)]
    grind
theorem vec_scaleV (v : List Int) (k : Int) (j : Nat) : vec p (scaleV p v k) j = vec p v j * toF p k := by
  have hl : (scaleV p v k).length = v.length := by simp [scaleV]
  rcases Nat.lt_or_ge j v.length with hj | hj
  · rw [vec_at (by omega), vec_at hj]
    have e : (scaleV p v k)[j]'(by omega) = v[j] * k % p := by simp [scaleV]
    rw [e, toF_emod, toF_mul]
  · rw [vec_past (by omega), vec_past hj]
    grind
theorem addT_ok {n : Nat} {v w : List Int} (k : Int) (hv : v.length = n) (hw : w.length = n) : VecOk p n (addT p v k w) := by
  refine ⟨by simp [addT, hv, hw], fun x hx => ?_⟩
  unfold addT at hx
  obtain ⟨i, hi, rfl⟩ := List.getElem_of_mem hx
  simp only [List.getElem_zipWith]
  exact ⟨Int.emod_nonneg _ (by have := pos_int p; omega), Int.emod_lt_of_pos _ (pos_int p)⟩
theorem scaleV_ok {n : Nat} {v : List Int} (k : Int) (hv : v.length = n) : VecOk p n (scaleV p v k) := by
  refine ⟨by simp [scaleV, hv], fun x hx => ?_⟩
  unfold scaleV at hx
  obtain ⟨y, _, rfl⟩ := List.mem_map.1 hx
  exact ⟨Int.emod_nonneg _ (by have := pos_int p; omega), Int.emod_lt_of_pos _ (pos_int p)⟩
theorem getD_memL {L : List (List Int)} {i : Nat} (h : i < L.length) : L.getD i [] ∈ L := by
  rw [List.getD_eq_getElem?_getD, List.getElem?_eq_getElem h]; exact List.getElem_mem h
omit [NeZero p] in
theorem set_ok {n : Nat} {L : List (List Int)} {v : List Int} (h : RowsOk p n L) (hv : VecOk p n v) (i : Nat) : RowsOk p n (L.set i v) := by
  intro row hrow
  rcases List.mem_or_eq_of_mem_set hrow with h1 | h1
  · exact h row h1
  · rw [h1]; exact hv
theorem swapL_len (L : List (List Int)) (a b : Nat) : (swapL L a b).length = L.length := by simp [swapL]
omit [NeZero p] in
theorem swapL_ok {n a b : Nat} {L : List (List Int)} (h : RowsOk p n L) (ha : a < L.length) (hb : b < L.length) : RowsOk p n (swapL L a b) :=
  set_ok (set_ok h (h _ (getD_memL hb)) _) (h _ (getD_memL ha)) _
theorem swapL_get {a b i : Nat} {L : List (List Int)} (ha : a < L.length) (hb : b < L.length) : (swapL L a b).getD i [] = L.getD (tw a b i) [] := by
  unfold swapL tw
  simp only [List.getD_eq_getElem?_getD, List.getElem?_set, List.length_set]
  by_cases h1 : b = i
  · subst h1
    by_cases h2 : b = a
    · subst h2; simp [hb]
    · simp [hb, h2]
  · by_cases h2 : a = i
    · subst h2; simp [h1, ha]
    · simp [h1, h2, Ne.symm h1, Ne.symm h2]
theorem mx_swapL {a b : Nat} {L : List (List Int)} (ha : a < L.length) (hb : b < L.length) (i : Nat) : mx p (swapL L a b) i = mx p L (tw a b i) := by
  unfold mx
  rw [swapL_get ha hb]
omit [NeZero p] in
theorem divL_len (L : List (List Int)) (r : Nat) (y : Int) : (divL p L r y).length = L.length := by simp [divL]
theorem divL_ok {n r : Nat} {L : List (List Int)} (h : RowsOk p n L) (hr : r < L.length) (y : Int) : RowsOk p n (divL p L r y) :=
  set_ok h (scaleV_ok y (h _ (getD_memL hr)).1) _
theorem mx_divL {r : Nat} {L : List (List Int)} (hr : r < L.length) (y : Int) (i j : Nat) : mx p (divL p L r y) i j = scale r (toF p y) (mx p L) i j := by
  unfold mx divL scale
  by_cases h : i = r
  · subst h
    rw [List.getD_eq_getElem?_getD, List.getElem?_set_self hr]
    simp only [if_true, Option.getD_some]
    exact vec_scaleV _ _ _
  · rw [List.getD_eq_getElem?_getD, List.getElem?_set_ne (Ne.symm h), ← List.getD_eq_getElem?_getD]
    simp only [h, if_false]
omit [NeZero p] in
theorem clearL_len (R A : List (List Int)) (c r : Nat) : (clearL p R c r A).length = A.length := by simp [clearL]
theorem clearRow_ok {n c r i : Nat} {R : List (List Int)} {q row : List Int} (hq : q.length = n) (h : VecOk p n row) : VecOk p n (clearRow p R c r q i row) := by
  unfold clearRow
  split
  · exact addT_ok _ h.1 hq
  · exact h
theorem clearL_ok {n c r : Nat} {R A : List (List Int)} (h : RowsOk p n A) (hr : r < A.length) : RowsOk p n (clearL p R c r A) := by
  intro row hrow
  unfold clearL at hrow
  obtain ⟨i, hi, rfl⟩ := List.getElem_of_mem hrow
  rw [List.getElem_mapIdx]
  simp only [List.length_mapIdx] at hi
  exact clearRow_ok (h _ (getD_memL hr)).1 (h _ (List.getElem_mem hi))
theorem mx_at2 (L : List (List Int)) (i c : Nat) : mx p L i c = toF p (at2 L i c) := rfl
theorem at2_ok {n i c : Nat} {L : List (List Int)} (h : RowsOk p n L) : 0 ≤ at2 L i c ∧ at2 L i c < p := by
  unfold at2
  rcases Nat.lt_or_ge i L.length with hi | hi
  · have hm := h _ (getD_memL hi)
    generalize L.getD i [] = row at hm
    rcases Nat.lt_or_ge c row.length with hc | hc
    · rw [List.getD_eq_getElem?_getD, List.getElem?_eq_getElem hc]
      exact hm.2 _ (List.getElem_mem hc)
    · rw [List.getD_eq_getElem?_getD, List.getElem?_eq_none hc]
      have := pos_int p
      simp only [Option.getD_none]
      omega
  · rw [List.getD_eq_getElem?_getD (l := L), List.getElem?_eq_none hi]
    have := pos_int p
    simp
    omega
theorem mx_clearL {n c r m : Nat} {R A : List (List Int)} (hA : RowsOk p n A) (hm : A.length = m) (hr : r < m) (i : Nat) (hi : i < m) (j : Nat) : mx p (clearL p R c r A) i j = clear m r c (mx p R) (mx p A) i j := by
  have hi' : i < A.length := by omega
  rw [mx_at (by rw [clearL_len]; exact hi')]
  unfold clear
  have e : (clearL p R c r A)[i]'(by rw [clearL_len]; exact hi') = clearRow p R c r (A.getD r []) i A[i] := by simp [clearL]
  rw [e]
  unfold clearRow
  by_cases h1 : i = r
  · simp only [h1, ne_eq, not_true_eq_false, false_and, if_false, and_false]
    rw [mx_at (show r < A.length by omega)]
  · simp only [h1, ne_eq, not_false_eq_true, true_and, hi, if_true, and_true, mx_at2]
    by_cases h2 : at2 R i c = 0
    · simp only [h2, not_true_eq_false, if_false]
      rw [toF_zero, ← mx_at2, mx_at hi']
      grind
    · simp only [h2, not_false_eq_true, if_true]
      rw [vec_addT _ (by rw [(hA _ (List.getElem_mem hi')).1, (hA _ (getD_memL (show r < A.length by omega))).1]), toF_neg, ← mx_at2 A, ← mx_at2 A, mx_at hi']
      have e2 : vec p (A.getD r []) j = mx p A r j := rfl
      rw [e2]
      grind
omit [NeZero p] in
theorem unitL_ok {n i : Nat} (h1 : 1 < p) : VecOk p n (unitL n i) := by
  refine ⟨by simp [unitL], fun x hx => ?_⟩
  rcases List.mem_or_eq_of_mem_set hx with h | h
  · have := List.eq_of_mem_replicate h; omega
  · omega
omit [NeZero p] in
theorem idL_ok {n : Nat} (h1 : 1 < p) : RowsOk p n (idL n) := by
  intro row hrow
  obtain ⟨i, _, rfl⟩ := List.mem_map.1 hrow
  exact unitL_ok h1
theorem idL_len (n : Nat) : (idL n).length = n := by simp [idL]
theorem vec_unitL {n i j : Nat} (hj : j < n) : vec p (unitL n i) j = if i = j then 1 else 0 := by
  rw [vec_at (by simp [unitL]; exact hj)]
  unfold unitL
  rw [List.getElem_set]
  split
  · exact toF_one
  · rw [List.getElem_replicate]; exact toF_zero
theorem mx_idL {n i j : Nat} (hi : i < n) (hj : j < n) : mx p (idL n) i j = if i = j then 1 else 0 := by
  rw [mx_at (by rw [idL_len]; exact hi)]
  have e : (idL n)[i]'(by rw [idL_len]; exact hi) = unitL n i := by simp [idL]
  rw [e, vec_unitL hj]
end ops

end Go.Proofs.YtghfifpicklonaaDoor

/-
  Lists of lists of integers in memory: what can be read, what is the call's own; and the walks that only read them. Conditions: the lists are short.
-/
namespace Go.Proofs.YtghfifpicklonaaDoor
open Go.RowKit
set_option linter.unusedVariables false

/-- A slice of slices of integers that can be read. -/
def MatV (w : World) (v : Value) (rows : List (List Int)) : Prop :=
  ∃ a cap, v = .slice a rows.length cap ∧ (rows ≠ [] → ∃ d, a = some d ∧ d.spot = none ∧ d.block < w.heap.size ∧
    ∀ i (h : i < rows.length), ∃ u, w.cell? ⟨d.block, d.off + i, none⟩ = some u ∧ IntsV w u rows[i])
theorem MatV.carry {w w' : World} {v : Value} {rows : List (List Int)} (h : MatV w v rows) (hg : w.grownBy w' none) : MatV w' v rows := by
  obtain ⟨a, cap, rfl, h⟩ := h
  refine ⟨a, cap, rfl, fun hz => ?_⟩
  obtain ⟨d, ha, hs, hd, hi⟩ := h hz
  refine ⟨d, ha, hs, Nat.lt_of_lt_of_le hd hg.size, fun i hi' => ?_⟩
  obtain ⟨u, hu, hr⟩ := hi i hi'
  exact ⟨u, (World.cell?_of_block (w := w) (a := ⟨d.block, d.off + i, none⟩) (hg.block _ hd (by simp))).trans hu, hr.carry hg⟩
/-- One row: its cell, and its shape. -/
theorem MatV.row {w : World} {a : Option Addr} {n cap : Nat} {rows : List (List Int)} (h : MatV w (.slice a n cap) rows) {i : Nat} (hi : i < rows.length) :
    ∃ (d : Addr) (r : Option Addr) (c : Nat), a = some d ∧ d.spot = none ∧ d.block < w.heap.size ∧ w.cell? ⟨d.block, d.off + i, none⟩ = some (.slice r rows[i].length c) ∧ IntsV w (.slice r rows[i].length c) rows[i] := by
  obtain ⟨a', cap', he, h⟩ := h
  cases he
  obtain ⟨d, ha, hs, hd, hi'⟩ := h (by intro h0; rw [h0] at hi; simp at hi)
  obtain ⟨u, hu, hr⟩ := hi' i hi
  obtain ⟨r, c, rfl, _⟩ := id hr
  exact ⟨d, r, c, ha, hs, hd, hu, hr⟩
/-! ### checks -/
def vecB (p n : Int) (v : List Int) : Bool := decide ((v.length : Int) = n) && v.all (elB p)
def rowsB (p n : Int) (L : List (List Int)) : Bool := L.all (vecB p n)
theorem vecB_ok {p : Int} {n : Nat} {v : List Int} : vecB p n v = true ↔ VecOk p n v := by
  unfold vecB VecOk
  rw [Bool.and_eq_true, decide_eq_true_eq, List.all_eq_true]
  simp only [elB_iff]
  constructor
  · rintro ⟨h1, h2⟩; exact ⟨by omega, h2⟩
  · rintro ⟨h1, h2⟩; exact ⟨by omega, h2⟩
theorem rowsB_ok {p : Int} {n : Nat} {L : List (List Int)} : rowsB p n L = true ↔ RowsOk p n L := by
  unfold rowsB RowsOk
  rw [List.all_eq_true]
  simp only [vecB_ok]
theorem isVector_anyL (p n : Int) (v : Value) (zs : List Int) (w : World) (hv : IntsV w v zs) (hl : zs.length ≤ 1000000) :
    Calls Tryd.prog 118 #[.int .i64 p, v, .int .i64 n] w fun e w' => e = .returned (.bool (vecB p n zs)) ∧ w = w' := by
  have HV := Lib.hid hv
  obtain ⟨a, cap, rfl, _⟩ := hv
  generalize hlen : zs.length = l at *
  have HL := Lib.hid hlen
  clear hlen
  by_cases hn : (l : Int) = n
  · subst hn
    go_enter Tryd.func118, Tryd.ntmps118
    go_wp2
    go_loop [15] (fun i => ∃ k : Nat, k ≤ l ∧ i = .int .i64 k ∧ ∀ j (h : j < zs.length), j < k → elB p zs[j] = true) (fun i => l - (intOf i).toNat)
    case atStart => exact ⟨0, by omega, rfl, fun _ _ h => absurd h (by omega)⟩
    case round =>
      obtain ⟨k, hk, rfl, ho⟩ := hrel
      have HO := Lib.hid ho
      clear ho
      by_cases hlt : k < l
      · have hkl : k < zs.length := by rw [HL.out]; exact hlt
        obtain ⟨d, rfl, hs, hd, hcell⟩ := HV.out.at hkl
        obtain ⟨db, dof, _⟩ := d
        simp only at hs hcell
        subst hs
        generalize hzk : zs[k] = z at hcell
        have HK := Lib.hid hzk
        clear hzk hd
        cases he : elB p z
        · have hfin : vecB p l zs = false := by
            unfold vecB
            rw [Bool.and_eq_false_iff]
            refine Or.inr (List.all_eq_false.2 ⟨zs[k], List.getElem_mem _, ?_⟩)
            rw [HK.out, he]
            simp
          have HF := Lib.hid hfin
          clear hfin
          go_wp2_with (go_at_call 145; refine (isElement_any _ _ _).mono ?_; rintro e w' ⟨rfl, rfl⟩)
          go_ret
          exact ⟨by rw [HF.out]; rfl, rfl⟩
        · have HE := Lib.hid he
          go_wp2_with (go_at_call 145; refine (isElement_any _ _ _).mono ?_; rintro e w' ⟨rfl, rfl⟩)
          go_round
          case rel => exact ⟨k + 1, by omega, by go_num, fun j h hj => by
            by_cases hjk : j = k
            · subst hjk; rw [HK.out]; exact HE.out
            · exact HO.out j h (by omega)⟩
          case measure => simp [intOf]; omega
      · have hfin : vecB p l zs = true := by
          unfold vecB
          rw [Bool.and_eq_true]
          refine ⟨decide_eq_true (by rw [HL.out]), List.all_eq_true.2 fun x hx => ?_⟩
          obtain ⟨j, hj, rfl⟩ := List.getElem_of_mem hx
          exact HO.out j hj (by have := HL.out; omega)
        have HF := Lib.hid hfin
        clear hfin
        go_wp2
        go_ret
        exact ⟨by rw [HF.out]; rfl, rfl⟩
  · have hb : ((l : Int) != n) = true := by rw [bne_iff_ne]; exact hn
    have hfin : vecB p n zs = false := by
      unfold vecB
      rw [Bool.and_eq_false_iff]
      exact Or.inl (decide_eq_false (by rw [HL.out]; exact hn))
    have HF := Lib.hid hfin
    clear hfin hn
    go_enter Tryd.func118, Tryd.ntmps118
    go_wp2
    go_ret
    exact ⟨by rw [HF.out]; rfl, rfl⟩
theorem areVectors_anyL (p n : Int) (v : Value) (rows : List (List Int)) (w : World) (hv : MatV w v rows) (hl : rows.length ≤ 1000000) (hll : ∀ row ∈ rows, row.length ≤ 1000000) :
    Calls Tryd.prog 76 #[.int .i64 p, v, .int .i64 n] w fun e w' => e = .returned (.bool (rowsB p n rows)) ∧ w = w' := by
  have HV := Lib.hid hv
  have HLL := Lib.hid hll
  obtain ⟨a, cap, rfl, hx⟩ := hv
  clear hx
  generalize hlen : rows.length = l at *
  have HL := Lib.hid hlen
  clear hlen hll
  go_enter Tryd.func76, Tryd.ntmps76
  go_wp2
  go_loop [11] (fun i => ∃ k : Nat, k ≤ l ∧ i = .int .i64 k ∧ ∀ j (h : j < rows.length), j < k → vecB p n rows[j] = true) (fun i => l - (intOf i).toNat)
  case atStart => exact ⟨0, by omega, rfl, fun _ _ h => absurd h (by omega)⟩
  case round =>
    obtain ⟨k, hk, rfl, ho⟩ := hrel
    have HO := Lib.hid ho
    clear ho
    by_cases hlt : k < l
    · have hkl : k < rows.length := by rw [HL.out]; exact hlt
      obtain ⟨d, r, c, rfl, hs, hd, hcell, hrow⟩ := HV.out.row hkl
      have hlr := HLL.out rows[k] (List.getElem_mem _)
      obtain ⟨db, dof, _⟩ := d
      simp only at hs hcell
      subst hs
      generalize hzk : rows[k] = z at *
      have HK := Lib.hid hzk
      have HR := Lib.hid (isVector_anyL p n _ z w hrow hlr)
      clear hzk hd hrow hlr
      generalize z.length = zl at *
      cases he : vecB p n z
      · have hfin : rowsB p n rows = false := by
          unfold rowsB
          refine List.all_eq_false.2 ⟨rows[k], List.getElem_mem _, ?_⟩
          rw [HK.out, he]
          simp
        have HF := Lib.hid hfin
        rw [he] at HR
        clear hfin he
        go_wp2_with (go_at_call 118; refine HR.out.mono ?_; rintro e w' ⟨rfl, rfl⟩)
        go_ret
        exact ⟨by rw [HF.out]; rfl, rfl⟩
      · have HE := Lib.hid he
        rw [he] at HR
        clear he
        go_wp2_with (go_at_call 118; refine HR.out.mono ?_; rintro e w' ⟨rfl, rfl⟩)
        go_round
        case rel => exact ⟨k + 1, by omega, by go_num, fun j h hj => by
          by_cases hjk : j = k
          · subst hjk; rw [HK.out]; exact HE.out
          · exact HO.out j h (by omega)⟩
        case measure => simp [intOf]; omega
    · have hfin : rowsB p n rows = true := by
        unfold rowsB
        refine List.all_eq_true.2 fun x hx => ?_
        obtain ⟨j, hj, rfl⟩ := List.getElem_of_mem hx
        exact HO.out j hj (by have := HL.out; omega)
      have HF := Lib.hid hfin
      clear hfin
      go_wp2
      go_ret
      exact ⟨by rw [HF.out]; rfl, rfl⟩
end Go.Proofs.YtghfifpicklonaaDoor

/-
  More walks of chapter 1: powers, inverses, orders, logarithms. Conditions: as each states.
-/
namespace Go.Proofs.YtghfifpicklonaaDoor
open Go.RowKit
set_option linter.unusedVariables false

theorem power_any (p a n : Int) (w : World) (hp : 1 ≤ p) (hp2 : p ≤ 1000) (ha : 0 ≤ a) (ha2 : a ≤ 1000) (hn : 0 ≤ n) (hn2 : n ≤ 1000000) :
    Calls Tryd.prog 160 #[.int .i64 p, .int .i64 a, .int .i64 n] w fun e w' => e = .returned (.int .i64 (a ^ n.toNat % p)) ∧ w = w' := by
  have hm0 := Int.emod_nonneg (1 : Int) (show p ≠ 0 by omega)
  have hm1 := Int.emod_lt_of_pos (1 : Int) (show 0 < p by omega)
  go_enter Tryd.func160, Tryd.ntmps160
  go_wp2
  go_loop [1, 2, 7] (fun x m o => ∃ (x' o' : Int) (m' : Nat), x = .int .i64 x' ∧ m = .int .i64 m' ∧ o = .int .i64 o' ∧ 0 ≤ o' ∧ o' < p ∧ 0 ≤ x' ∧ x' ≤ 1000 ∧ m' ≤ 1000000 ∧ o' * x' ^ m' % p = a ^ n.toNat % p) (fun _ m _ => (intOf m).toNat)
  case atStart =>
    obtain ⟨n', rfl⟩ := Int.eq_ofNat_of_zero_le hn
    exact ⟨a, 1 % p, n', rfl, rfl, rfl, hm0, hm1, ha, ha2, by omega, by rw [emod_mul_l, Int.one_mul, Int.toNat_natCast]⟩
  case round =>
    obtain ⟨x, o, m, rfl, rfl, rfl, ho0, ho1, hx0, hx1, hm, hr⟩ := hrel
    have HR := Lib.hid hr
    have hxx : 0 ≤ x * x := Int.mul_nonneg hx0 hx0
    have hxx2 : x * x ≤ 1000 * 1000 := Int.mul_le_mul hx1 hx1 hx0 (by omega)
    have hox : 0 ≤ o * x := Int.mul_nonneg ho0 hx0
    have hox2 : o * x ≤ 1000 * 1000 := Int.mul_le_mul (by omega) hx1 hx0 (by omega)
    have e0 := Int.emod_nonneg (x * x) (show p ≠ 0 by omega)
    have e1 := Int.emod_lt_of_pos (x * x) (show 0 < p by omega)
    have e2 := Int.emod_nonneg (o * x) (show p ≠ 0 by omega)
    have e3 := Int.emod_lt_of_pos (o * x) (show 0 < p by omega)
    clear hr
    by_cases h0 : m = 0
    · subst h0
      have hfin : a ^ n.toNat % p = o := by
        have := HR.out
        rw [← this, Int.pow_zero, Int.mul_one, Int.emod_eq_of_lt ho0 ho1]
      have HF := Lib.hid hfin
      clear hfin
      go_wp2
      go_ret
      exact ⟨by rw [HF.out]; rfl, rfl⟩
    · have h0' : 0 < m := by omega
      by_cases hodd : m % 2 = 1
      · have hb : ((m : Int) % 2 == 1) = true := by rw [beq_iff_eq]; omega
        have HO := Lib.hid hodd
        clear hodd h0
        go_wp2
        go_round
        case rel => exact ⟨x * x % p, o * x % p, m / 2, rfl, by go_num, rfl, e2, e3, e0, by omega, by omega, by rw [pw_odd _ _ _ _ HO.out, HR.out]⟩
        case measure => simp [intOf]; omega
      · have hb : ((m : Int) % 2 == 1) = false := by rw [beq_eq_false_iff_ne]; omega
        have he : m % 2 = 0 := by omega
        have HO := Lib.hid he
        clear hodd he h0
        go_wp2
        go_round
        case rel => exact ⟨x * x % p, o, m / 2, rfl, by go_num, rfl, ho0, ho1, e0, by omega, by omega, by rw [pw_even _ _ _ _ HO.out, HR.out]⟩
        case measure => simp [intOf]; omega
theorem inverse_any (p a : Int) (w : World) (hp : 2 ≤ p) (hp2 : p ≤ 1000) (ha : 0 ≤ a) (ha2 : a ≤ 1000) :
    Calls Tryd.prog 150 #[.int .i64 p, .int .i64 a] w fun e w' => e = .returned (.int .i64 (invI p a)) ∧ w = w' := by
  by_cases h2 : p = 2
  · subst h2
    go_enter Tryd.func150, Tryd.ntmps150
    go_wp2_with (first | (go_at_call 161; refine (bit_any true _).mono ?_; rintro e w' ⟨rfl, rfl⟩) | (go_at_call 160; refine (power_any _ _ _ _ (by omega) (by omega) ha ha2 (by omega) (by omega)).mono ?_; rintro e w' ⟨rfl, rfl⟩))
    go_ret
    exact ⟨rfl, rfl⟩
  · have hb : (p == 2) = false := by rw [beq_eq_false_iff_ne]; exact h2
    have hfin : invI p a = a ^ (p - 2).toNat % p := by
      unfold invI
      rw [if_neg h2, show p.toNat - 2 + 0 = (p - 2).toNat from by omega]
    have HF := Lib.hid hfin
    clear hfin h2
    go_enter Tryd.func150, Tryd.ntmps150
    go_wp2_with (first | (go_at_call 161; refine (bit_any false _).mono ?_; rintro e w' ⟨rfl, rfl⟩) | (go_at_call 160; refine (power_any _ _ _ _ (by omega) (by omega) ha ha2 (by omega) (by omega)).mono ?_; rintro e w' ⟨rfl, rfl⟩))
    go_ret
    exact ⟨by rw [HF.out]; rfl, rfl⟩
/-! ### the reference's test of a field -/
theorem fdGood_anyL (p : Int) (w : World) (h0 : -1000 ≤ p) (h1 : p ≤ 1000) : Calls Tryd.prog 67 #[.int .i64 p] w fun e w' => e = .returned (.bool (fldB p)) ∧ w = w' := by
  by_cases hin : 2 ≤ p ∧ p ≤ 97
  · have hd : decide (2 ≤ p ∧ p ≤ 97) = true := by simpa using hin
    obtain ⟨g0, g1⟩ := hin
    go_enter Tryd.func67, Tryd.ntmps67
    go_wp2_with (go_at_call 68; refine (l1In_any _ _ _ _).mono ?_; rintro e w' ⟨rfl, rfl⟩)
    go_loop [3] (fun k => ∃ k' : Nat, k = .int .i64 k' ∧ 2 ≤ k' ∧ k' ≤ 10 ∧ ∀ j : Int, 2 ≤ j → j < k' → p % j ≠ 0) (fun k => 200 - (intOf k).toNat)
    case atStart => exact ⟨2, rfl, by omega, by omega, fun j h1 h2 => by omega⟩
    case round =>
      obtain ⟨k, rfl, hk2, hk10, hr⟩ := hrel
      have HR := Lib.hid hr
      clear hr
      have hkk : ((k : Int) * k) = ((k * k : Nat) : Int) := by push_cast; rfl
      have hkk2 : k * k ≤ 100 := Nat.mul_le_mul hk10 hk10
      have HKK := Lib.hid hkk
      clear hkk
      have hq0 : (0 : Int) ≤ (k : Int) * k := by rw [HKK.out]; omega
      have hq1 : (k : Int) * k ≤ 100 := by rw [HKK.out]; omega
      have e0 := Int.emod_nonneg p (show (k : Int) ≠ 0 by omega)
      by_cases hle : (k : Int) * k ≤ p
      · by_cases hd0 : p % (k : Int) = 0
        · have hb : (p % (k : Int) == 0) = true := by rw [beq_iff_eq]; exact hd0
          have hfin : fldB p = false := fld_no g0 g1 (by omega) hle hd0
          have HF := Lib.hid hfin
          clear hfin hd0
          go_wp2
          go_ret
          exact ⟨by rw [HF.out]; rfl, rfl⟩
        · have hb : (p % (k : Int) == 0) = false := by rw [beq_eq_false_iff_ne]; exact hd0
          have HD := Lib.hid hd0
          clear hd0
          have hk9 : k < 10 := by
            rcases Nat.lt_or_ge k 10 with h | h
            · exact h
            · obtain rfl : k = 10 := by omega
              omega
          go_wp2
          go_round
          case rel => exact ⟨k + 1, by go_num, by omega, by omega, fun j h1 h2 => by
            by_cases hj : j = k
            · subst hj; exact HD.out
            · exact HR.out j h1 (by omega)⟩
          case measure => simp [intOf]; omega
      · have hfin : fldB p = true := fld_yes g0 g1 (k := k) (by omega) (by omega) (by omega) HR.out
        have HF := Lib.hid hfin
        clear hfin
        go_wp2
        go_ret
        exact ⟨by rw [HF.out]; rfl, rfl⟩
  · have hd : decide (2 ≤ p ∧ p ≤ 97) = false := by simpa using hin
    have hfin : fldB p = false := by
      unfold fldB
      rw [decide_eq_false_iff_not]
      exact fun h => hin ⟨h.1, h.2.1⟩
    have HF := Lib.hid hfin
    clear hfin hin
    go_enter Tryd.func67, Tryd.ntmps67
    go_wp2_with (go_at_call 68; refine (l1In_any _ _ _ _).mono ?_; rintro e w' ⟨rfl, rfl⟩)
    go_ret
    exact ⟨by rw [HF.out]; rfl, rfl⟩
end Go.Proofs.YtghfifpicklonaaDoor

/-
  Matrices that are the call's own: rows in blocks of their own; what is written, and what stays. And mod for negative numbers too.
-/
namespace Go.Proofs.YtghfifpicklonaaDoor
open Go.RowKit
set_option linter.unusedVariables false

theorem info_ints : (Tryd.prog.info? 27).map (fun i => (i.zero, i.size, i.bytes)) = some (some (.slice none 0 0), 1, 24) := by kernel_rfl
/-! ### mod -/
theorem tmod_fix (a p : Int) (hp : 0 < p) : a % p = if a.tmod p < 0 then a.tmod p + p else a.tmod p := by
  have h1 := Int.emod_nonneg a (show p ≠ 0 by omega)
  have h2 := Int.emod_lt_of_pos a hp
  by_cases h0 : 0 ≤ a
  · rw [Int.tmod_eq_emod_of_nonneg h0, if_neg (by omega)]
  · have h3 := Int.tmod_eq_emod (a := a) (b := p)
    by_cases hd : p ∣ a
    · have h4 := Int.emod_eq_zero_of_dvd hd
      rw [if_pos (Or.inr hd)] at h3
      simp at h3
      rw [if_neg (by omega)]
      omega
    · rw [if_neg (by intro h; rcases h with h | h; exact h0 h; exact hd h)] at h3
      have : ((p.natAbs : Nat) : Int) = p := Int.natAbs_of_nonneg (by omega)
      rw [this] at h3
      rw [if_pos (by omega)]
      omega
theorem mod_all (p a : Int) (hp : 1 ≤ p) (hp2 : p ≤ 1000) (h0 : -1000000000 ≤ a) (ha : a ≤ 1000000000) (w : World) : Calls Tryd.prog 151 #[.int .i64 p, .int .i64 a] w fun e w' => e = .returned (.int .i64 (a % p)) ∧ w = w' := by
  by_cases hn : 0 ≤ a
  · exact mod_any p a hp hp2 hn ha w
  · have hf0 := tmod_fix a p (by omega)
    have h2 := Int.tmod_lt_of_pos a (show 0 < p by omega)
    have h1 : -p < a.tmod p := by
      have e1 := Int.emod_nonneg a (show p ≠ 0 by omega)
      have e2 := Int.emod_lt_of_pos a (show 0 < p by omega)
      have e3 := Int.tmod_eq_emod (a := a) (b := p)
      split at e3 <;> omega
    have hf := Lib.hid hf0
    clear hf0
    generalize a % p = r at hf
    by_cases ht : a.tmod p < 0
    · go_enter Tryd.func151, Tryd.ntmps151
      go_wp2
      go_ret
      exact ⟨by have := hf.out; rw [if_pos ht] at this; rw [this]; rfl, rfl⟩
    · go_enter Tryd.func151, Tryd.ntmps151
      go_wp2
      go_ret
      exact ⟨by have := hf.out; rw [if_neg (Int.not_lt.2 ht)] at this; rw [this]; rfl, rfl⟩
end Go.Proofs.YtghfifpicklonaaDoor

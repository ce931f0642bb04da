/-
  Fractions in lowest terms, in the program and in the reference. Conditions: small sizes.
-/
import Derived.Test.YtpeaeminjbjlnaaDoorMu00
import Derived.Test.YtpeaeminjbjlnaaDoorMp01
import Derived.Test.YtpeaeminjbjlnaaDoorMp03
import Derived.Deep.RegionHeld3
import Derived.Test.YtpeaeminjbjlnaaDoorMj07
namespace Go.Proofs.YtpeaeminjbjlnaaDoor
open Go.RowKit
set_option linter.unusedVariables false

def frV (n d : Value) : Value := .agg #[n, d]
/-- a list of integers does not lie in a box of two slices -/
theorem ints_box {W : World} {v : Value} {zs : List Int} {b i : Nat} {a1 a2 : Option Addr} {l1 l2 c1 c2 : Nat} {t : TypeId} (h : IntsV W v zs) (hb : W.heap[b]? = some (.cells #[.slice a1 l1 c1, .slice a2 l2 c2] t (0, 0))) (z : Value) : IntsV (W.setCell ⟨b, i, none⟩ z) v zs := by
  obtain ⟨a, c, rfl, hx⟩ := h
  by_cases hz : zs = []
  · subst hz
    exact ⟨a, c, rfl, fun h => absurd rfl h⟩
  · refine IntsV.only ⟨a, c, rfl, hx⟩ (set_only W ⟨b, i, none⟩ z) fun k hk e => ?_
    obtain ⟨d, rfl, hs, hd, hi⟩ := hx hz
    have e1 : d.block = b := (Option.some.inj hk).trans e
    have h0 := hi 0 (Nat.pos_of_ne_zero fun e => hz (List.eq_nil_of_length_eq_zero e))
    rw [e1] at h0
    match hm : d.off + 0, h0 with
    | 0, h0 => rw [(bx hb).1] at h0; cases h0
    | 1, h0 => rw [(bx hb).2.1] at h0; cases h0
    | n + 2, h0 =>
      have : W.cell? ⟨b, n + 2, none⟩ = none := by
        simp only [World.cell?, hb]
        rfl
      rw [this] at h0
      cases h0
set_option maxRecDepth 100000 in
set_option maxHeartbeats 1000000 in
theorem lowest_any (q : Nat) [NeZero q] (u v : Value) (n d : List Int) (w : World) (hfl : fldN q = true) (hq2 : q ≤ 97) (hu : IntsV w u n) (hv : IntsV w v d) (hn : PolyOk q n) (hd : PolyOk q d) (dne : d ≠ []) (ln : n.length ≤ 41) (ld : d.length ≤ 41) :
    Calls Tryd.prog 145 #[.int .i64 q, u, v] w fun e w' => ∃ o1 o2, e = .returned (frV o1 o2) ∧ IntsV w' o1 (lowL q n d).1 ∧ IntsV w' o2 (lowL q n d).2 ∧ w.grownBy w' none := by
  have hq := lt_p hfl
  have HSB := Lib.hid ((Sep.start w).box #[.slice none 0 0, .slice none 0 0] 53)
  unfold frV
  by_cases hn0 : n.length = 0
  · have HL := Lib.hid (show lowL q n d = ([], [1]) by unfold lowL; rw [if_pos (List.eq_nil_of_length_eq_zero hn0)])
    obtain ⟨ua, uc, rfl, hui⟩ := hu
    obtain ⟨va, vc, rfl, hvi⟩ := hv
    clear hui hvi hn hd
    rw [hn0, HL.out]
    have hs1 := (((Sep.start w).box #[.slice (some ⟨w.heap.size + 1, 0, none⟩) 0 0, .slice (some ⟨w.heap.size + 1 + 1, 0, none⟩) 1 1] 53).al (.cells #[] 3)).al (.cells #[.int .i64 1] 3)
    obtain ⟨k0, k1, _, _⟩ := bx hs1.hd
    have hi1 : IntsV (((w.alloc (.cells #[.slice (some ⟨w.heap.size + 1, 0, none⟩) 0 0, .slice (some ⟨w.heap.size + 1 + 1, 0, none⟩) 1 1] 53)).alloc (.cells #[] 3)).alloc (.cells #[.int .i64 1] 3)) (.slice (some ⟨w.heap.size + 1 + 1, 0, none⟩) 1 1) [1] := by
      refine ⟨_, _, rfl, fun _ => ⟨_, rfl, rfl, by simp, ?_⟩⟩
      have h := intsAt_new ((w.alloc (.cells #[.slice (some ⟨w.heap.size + 1, 0, none⟩) 0 0, .slice (some ⟨w.heap.size + 1 + 1, 0, none⟩) 1 1] 53)).alloc (.cells #[] 3)) [1] 3
      have e : ((w.alloc (.cells #[.slice (some ⟨w.heap.size + 1, 0, none⟩) 0 0, .slice (some ⟨w.heap.size + 1 + 1, 0, none⟩) 1 1] 53)).alloc (.cells #[] 3)).heap.size = w.heap.size + 1 + 1 := by simp
      rw [e] at h
      exact h
    have H2 := Lib.hid (show w.grownBy _ none from hs1.tl.hd); have HI2 := Lib.hid hi1
    clear hs1 hi1
    go_enter Tryd.func145, Tryd.ntmps145
    go_wp2
    refine bodyPost_ret_by (v := .agg #[.slice (some ⟨w.heap.size + 1, 0, none⟩) 0 0, .slice (some ⟨w.heap.size + 1 + 1, 0, none⟩) 1 1]) ?_ rfl ⟨_, _, rfl, ⟨_, _, rfl, fun h => absurd rfl h⟩, HI2.out, H2.out⟩
    simp [results, go_sem, *]
  · have hne : n ≠ [] := fun e => hn0 (by rw [e]; rfl)
    have hn0' : ((n.length : Int) == 0) = false := by rw [beq_eq_false_iff_ne]; omega
    have B := bezout hfl hn hd dne ln ld
    have bl := B.len
    have HL := Lib.hid (show lowL q n d = (poAddL q [] (invI q (lastC (quoL q d (gcdL q n d)))) (quoL q n (gcdL q n d)), poAddL q [] (invI q (lastC (quoL q d (gcdL q n d)))) (quoL q d (gcdL q n d))) by unfold lowL; rw [if_neg hne])
    have og := B.ok
    have gne := B.ne
    have qne := B.quo
    have oq1 := quo_ok (g := gcdL q n d) hn
    have oq2 := quo_ok (g := gcdL q n d) hd
    have l1 := quo_le (q := q) (f := n) (len_pos gne)
    have l2 := quo_le (q := q) (f := d) (len_pos gne)
    have hgrow : w.grownBy (w.alloc (.cells #[.slice none 0 0, .slice none 0 0] 53)) none := grownBy_alloc w _ none
    have HGC := Lib.hid (polyGcd_any q u v n d (w.alloc (.cells #[.slice none 0 0, .slice none 0 0] 53)) hfl hq2 (hu.carry hgrow) (hv.carry hgrow) hn hd (by omega) (by omega))
    have HD1 := Lib.hid fun W x (hg : w.grownBy W none) (hx : IntsV W x (gcdL q n d)) => polyDivide_any q u x n (gcdL q n d) W (by omega) hq2 (hu.carry hg) hx hn.1 og.els gne (by omega) (by omega)
    have HD2 := Lib.hid fun W x (hg : w.grownBy W none) (hx : IntsV W x (gcdL q n d)) => polyDivide_any q v x d (gcdL q n d) W (by omega) hq2 (hv.carry hg) hx hd.1 og.els gne (by omega) (by omega)
    have hl := last_bd oq2 qne
    have hb := inv_bd97 (q := q) (x := lastC (quoL q d (gcdL q n d))) (by omega) hq2
    have HIV := Lib.hid fun wx => inverse_any (q : Int) (lastC (quoL q d (gcdL q n d))) wx (by omega) (by omega) (by omega) (by omega)
    have HX1 := Lib.hid fun W x (hx : IntsV W x (quoL q n (gcdL q n d))) => scaled_any q (invI q (lastC (quoL q d (gcdL q n d)))) x (quoL q n (gcdL q n d)) W (by omega) hq2 hx oq1.els (by omega) (by omega) (by omega)
    have HX2 := Lib.hid fun W x (hx : IntsV W x (quoL q d (gcdL q n d))) => scaled_any q (invI q (lastC (quoL q d (gcdL q n d)))) x (quoL q d (gcdL q n d)) W (by omega) hq2 hx oq2.els (by omega) (by omega) (by omega)
    have hlen := len_pos qne
    obtain ⟨ua, uc, rfl, hui⟩ := id hu
    obtain ⟨va, vc, rfl, hvi⟩ := id hv
    clear hui hvi hu hv hn hd B og gne hgrow
    rw [HL.out]
    generalize gcdL (q : Int) n d = g at *
    generalize quoL (q : Int) d g = d1 at *
    generalize quoL (q : Int) n g = n1 at *
    have HQN := Lib.hid qne
    generalize poAddL (q : Int) [] (invI q (lastC d1)) n1 = R1 at *
    generalize poAddL (q : Int) [] (invI q (lastC d1)) d1 = R2 at *
    generalize invI (q : Int) (lastC d1) = y at *
    have g1 : IntKind.i64.wrap ((d1.length : Int) - 1) = ((d1.length - 1 : Nat) : Int) := by rw [IntKind.wrap_i64]; omega
    have g2 : ((d1.length - 1 : Nat) : Int) < (d1.length : Int) := by omega
    clear qne oq1 oq2
    go_enter Tryd.func145, Tryd.ntmps145
    go_wp2_with (first
      | (go_at_call 113
         go_loud (with_reducible refine HGC.out.mono ?_)
         rintro e w1 ⟨o, rfl, hi, hg⟩
         obtain ⟨b1, c1, rfl, _⟩ := id hi
         have HI1 := Lib.hid hi; have HS1 := Lib.hid (HSB.out.grown hg)
         have HW1 := Lib.hid (show w.grownBy w1 none from (HSB.out.grown hg).tl.hd)
         clear hi hg)
      | (go_at_call 102
         with_reducible refine (HD1.out _ _ HW1.out HI1.out).mono ?_
         rintro e w2 ⟨o1, o2, rfl, hi1, hi2, hg⟩
         obtain ⟨b2, c2, rfl, _⟩ := id hi1
         obtain ⟨b3, c3, rfl, _⟩ := id hi2
         have HI2 := Lib.hid hi1; have HS2 := Lib.hid (HS1.out.grown hg)
         have HW2 := Lib.hid (show w.grownBy w2 none from (HS1.out.grown hg).tl.hd)
         have HI1b := Lib.hid (HI1.out.carry hg)
         clear hi1 hi2 hg)
      | (go_at_call 102
         with_reducible refine (HD2.out _ _ HW2.out HI1b.out).mono ?_
         rintro e w3 ⟨o1, o2, rfl, hi1, hi2, hg⟩
         obtain ⟨b4, c4, rfl, _⟩ := id hi1
         obtain ⟨b5, c5, rfl, _⟩ := id hi2
         have HI3 := Lib.hid hi1; have HS3 := Lib.hid (HS2.out.grown hg)
         have HI2b := Lib.hid (HI2.out.carry hg)
         obtain ⟨bb, bo, rfl, hcl⟩ := last_cell hi1 HQN.out
         clear hi1 hi2 hg)
      | (go_at_call 110
         with_reducible refine (HIV.out _).mono ?_
         rintro e w' ⟨rfl, rfl⟩)
      | (go_at_call 251
         with_reducible refine (HX1.out _ _ HI2b.out).mono ?_
         rintro e w4 ⟨o, rfl, hi, hg⟩
         obtain ⟨b6, c6, rfl, _⟩ := id hi
         have HR1 := Lib.hid hi; have HS4 := Lib.hid (HS3.out.grown hg)
         have HI3b := Lib.hid (HI3.out.carry hg)
         clear hi hg)
      | (go_at_call 251
         with_reducible refine (HX2.out _ _ HI3b.out).mono ?_
         rintro e w5 ⟨o, rfl, hi, hg⟩
         obtain ⟨b7, c7, rfl, _⟩ := id hi
         have hs5 := HS4.out.grown hg
         obtain ⟨y0, y1, y2, y3⟩ := bx hs5.hd
         have h2 := (hs5.setB 0 (.slice b6 R1.length c6)).setB 1 (.slice b7 R2.length c7)
         obtain ⟨k0, k1, _, _⟩ := bx h2.hd
         have HQ1 := Lib.hid (ints_box (i := 1) (ints_box (i := 0) (HR1.out.carry hg) hs5.hd (.slice b6 R1.length c6)) (hs5.setB 0 (.slice b6 R1.length c6)).hd (.slice b7 R2.length c7))
         have HQ2 := Lib.hid (ints_box (i := 1) (ints_box (i := 0) hi hs5.hd (.slice b6 R1.length c6)) (hs5.setB 0 (.slice b6 R1.length c6)).hd (.slice b7 R2.length c7))
         have HGF := Lib.hid h2.tl.hd
         clear hi hg hs5 h2))
    refine bodyPost_ret_by (v := .agg #[.slice b6 R1.length c6, .slice b7 R2.length c7]) ?_ rfl ⟨_, _, rfl, HQ1.out, HQ2.out, HGF.out⟩
    simp [results, go_sem, *]
end Go.Proofs.YtpeaeminjbjlnaaDoor

/-
  Fractions in lowest terms, in the reference. Conditions: small sizes.
-/
namespace Go.Proofs.YtpeaeminjbjlnaaDoor
open Go.RowKit
set_option linter.unusedVariables false

theorem make_eq {q : Nat} [NeZero q] {n d : List Int} (hf : fldN q = true) (on : PolyOk q n) (od : PolyOk q d) (dne : d ≠ []) (ln : n.length ≤ 41) (ld : d.length ≤ 41) : (poAddL q [] (invI q (lastC (quoL q d (gcdL q n d)))) (quoL q n (gcdL q n d)), poAddL q [] (invI q (lastC (quoL q d (gcdL q n d)))) (quoL q d (gcdL q n d))) = lowL q n d := by
  unfold lowL
  split
  · next hn =>
    subst hn
    have B := bezout hf on od dne ln ld
    have hgp := len_pos B.ne
    have hdp := len_pos dne
    have e0 : quoL (q : Int) [] (gcdL q [] d) = [] := by unfold quoL; rw [if_pos (by simpa using hgp)]
    have hlen : d.length ≤ (gcdL q [] d).length := by
      rcases Nat.lt_or_ge (gcdL q [] d).length d.length with h | h
      · exfalso
        have h3 : Dv (vec q d) (vec q (gcdL q [] d)) := ⟨vec q (cofL q [] d), _, vec_sz _, by
          funext j
          rw [B.sum j, vec_nil, cv_comm, cv_zero]
          grind⟩
        have h4 := h3.short (m := d.length - 1) (by rw [show d.length - 1 + 1 = d.length by omega]; exact vec_sz _) (last_inv hf od dne) ((vec_sz (p := q) (gcdL q [] d)).mono' (by omega)) ((gcdL q [] d).length - 1)
        exact last_ne hf B.ok B.ne h4
      · exact h
    have hql := quo_len (p := q) d (gcdL q [] d)
    have hqp := len_pos B.quo
    have hq1 : (quoL q d (gcdL q [] d)).length = 1 := by omega
    have hli := last_inv hf (quo_ok (g := gcdL q [] d) od) B.quo
    rw [e0]
    refine Prod.ext ?_ ?_
    · refine poly_ext (poAdd_ok (PolyOk.nil _)) (PolyOk.nil _) ?_
      rw [vec_sc, vec_nil]
      funext j
      grind
    · refine poly_ext (poAdd_ok (PolyOk.nil _)) (one_ok hf) ?_
      have hv0 : vec q (quoL q d (gcdL q [] d)) 0 = toF q (lastC (quoL q d (gcdL q [] d))) := by rw [← vec_last, hq1]
      have hvs := vec_sz (p := q) (quoL q d (gcdL q [] d))
      rw [vec_sc, vec_one hf]
      funext j
      unfold mono
      match j with
      | 0 => rw [if_pos rfl, hv0]; grind
      | j + 1 => rw [if_neg (by omega), hvs (j + 1) (by omega)]; grind
  · rfl
set_option maxRecDepth 100000 in
set_option maxHeartbeats 1000000 in
theorem frMake_own (q : Nat) [NeZero q] (u v : Value) (n d : List Int) (w : World) (hfl : fldN q = true) (hq2 : q ≤ 97) (hu : IntsV w u n) (hv : IntsV w v d) (hn : PolyOk q n) (hd : PolyOk q d) (dne : d ≠ []) (ln : n.length ≤ 41) (ld : d.length ≤ 41) :
    Calls Tryd.prog 266 #[.int .i64 q, u, v] w fun e w' => ∃ o1 o2, e = .returned (frV o1 o2) ∧ Sep w' [OI o1 (lowL q n d).1, OI o2 (lowL q n d).2, KeepA w] := by
  have hq := lt_p hfl
  have HSB := Lib.hid ((Sep.start w).box #[.slice none 0 0, .slice none 0 0] 53)
  unfold frV
  have B := bezout hfl hn hd dne ln ld
  have bl := B.len
  have HL := Lib.hid (make_eq hfl hn hd dne ln ld)
  have og := B.ok
  have gne := B.ne
  have qne := B.quo
  have oq1 := quo_ok (g := gcdL q n d) hn
  have oq2 := quo_ok (g := gcdL q n d) hd
  have l1 := quo_le (q := q) (f := n) (len_pos gne)
  have l2 := quo_le (q := q) (f := d) (len_pos gne)
  have hgrow : w.grownBy (w.alloc (.cells #[.slice none 0 0, .slice none 0 0] 53)) none := grownBy_alloc w _ none
  have HGC := Lib.hid (poGcd_any q u v n d (w.alloc (.cells #[.slice none 0 0, .slice none 0 0] 53)) hfl hq2 (hu.carry hgrow) (hv.carry hgrow) hn hd (by omega) (by omega) (Or.inr dne))
  have HD1 := Lib.hid fun W x (hg : w.grownBy W none) (hx : IntsV W x (gcdL q n d)) => poDiv_any q u x n (gcdL q n d) W hfl hq2 (hu.carry hg) hx hn og gne (by omega) (by omega)
  have HD2 := Lib.hid fun W x (hg : w.grownBy W none) (hx : IntsV W x (gcdL q n d)) => poDiv_any q v x d (gcdL q n d) W hfl hq2 (hv.carry hg) hx hd og gne (by omega) (by omega)
  have hl := last_bd oq2 qne
  have hl0 : lastC (quoL q d (gcdL q n d)) ≠ 0 := oq2.2 qne
  have hb := inv_bd97 (q := q) (x := lastC (quoL q d (gcdL q n d))) (by omega) hq2
  have HIV := Lib.hid fun wx => fdInvS_any q (lastC (quoL q d (gcdL q n d))) wx hfl (by omega) (by omega) hl.2
  have HX1 := Lib.hid fun W x (hx : IntsV W x (quoL q n (gcdL q n d))) => poTimes_any q (invI q (lastC (quoL q d (gcdL q n d)))) x (quoL q n (gcdL q n d)) W (by omega) hq2 hx oq1.els (by omega) (by omega) (by omega)
  have HX2 := Lib.hid fun W x (hx : IntsV W x (quoL q d (gcdL q n d))) => poTimes_any q (invI q (lastC (quoL q d (gcdL q n d)))) x (quoL q d (gcdL q n d)) W (by omega) hq2 hx oq2.els (by omega) (by omega) (by omega)
  have hlen := len_pos qne
  have pl1 := poAdd_len (p := q) [] (invI q (lastC (quoL q d (gcdL q n d)))) (quoL q n (gcdL q n d))
  have pl2 := poAdd_len (p := q) [] (invI q (lastC (quoL q d (gcdL q n d)))) (quoL q d (gcdL q n d))
  rw [List.length_nil] at pl1 pl2
  have HOW1 := Lib.hid fun W x (hx : IntsV W x (poAddL q [] (invI q (lastC (quoL q d (gcdL q n d)))) (quoL q n (gcdL q n d)))) => l1Own_any x _ W hx (by omega)
  have HOW2 := Lib.hid fun W x (hx : IntsV W x (poAddL q [] (invI q (lastC (quoL q d (gcdL q n d)))) (quoL q d (gcdL q n d)))) => l1Own_any x _ W hx (by omega)
  obtain ⟨ua, uc, rfl, hui⟩ := id hu
  obtain ⟨va, vc, rfl, hvi⟩ := id hv
  clear hui hvi hu hv hn hd B og gne hgrow
  rw [← HL.out]
  generalize gcdL (q : Int) n d = g at *
  generalize quoL (q : Int) d g = d1 at *
  generalize quoL (q : Int) n g = n1 at *
  have HQN := Lib.hid qne
  generalize poAddL (q : Int) [] (invI q (lastC d1)) n1 = R1 at *
  generalize poAddL (q : Int) [] (invI q (lastC d1)) d1 = R2 at *
  generalize invI (q : Int) (lastC d1) = y at *
  have g1 : IntKind.i64.wrap ((d1.length : Int) - 1) = ((d1.length - 1 : Nat) : Int) := by rw [IntKind.wrap_i64]; omega
  have g2 : ((d1.length - 1 : Nat) : Int) < (d1.length : Int) := by omega
  clear qne oq1 oq2 hl0
  go_enter Tryd.func266, Tryd.ntmps266
  go_wp2_with (first
    | (go_at_call 265
       go_loud (with_reducible refine HGC.out.mono ?_)
       rintro e w1 ⟨o, rfl, hi, hg⟩
       obtain ⟨b1, c1, rfl, _⟩ := id hi
       have HI1 := Lib.hid hi; have HS1 := Lib.hid (HSB.out.grown hg)
       have HW1 := Lib.hid (show w.grownBy w1 none from (HSB.out.grown hg).tl.hd)
       clear hi hg)
    | (go_at_call 104
       with_reducible refine (HD1.out _ _ HW1.out HI1.out).mono ?_
       rintro e w2 ⟨o1, o2, rfl, hi1, hi2, hg⟩
       obtain ⟨b2, c2, rfl, _⟩ := id hi1
       obtain ⟨b3, c3, rfl, _⟩ := id hi2
       have HI2 := Lib.hid hi1; have HS2 := Lib.hid (HS1.out.grown hg)
       have HW2 := Lib.hid (show w.grownBy w2 none from (HS1.out.grown hg).tl.hd)
       have HI1b := Lib.hid (HI1.out.carry hg)
       clear hi1 hi2 hg)
    | (go_at_call 104
       with_reducible refine (HD2.out _ _ HW2.out HI1b.out).mono ?_
       rintro e w3 ⟨o1, o2, rfl, hi1, hi2, hg⟩
       obtain ⟨b4, c4, rfl, _⟩ := id hi1
       obtain ⟨b5, c5, rfl, _⟩ := id hi2
       have HI3 := Lib.hid hi1; have HS3 := Lib.hid (HS2.out.grown hg)
       have HI2b := Lib.hid (HI2.out.carry hg)
       obtain ⟨bb, bo, rfl, hcl⟩ := last_cell hi1 HQN.out
       clear hi1 hi2 hg)
    | (go_at_call 198
       with_reducible refine (HIV.out _).mono ?_
       rintro e w' ⟨rfl, rfl⟩)
    | (go_at_call 295
       with_reducible refine (HX1.out _ _ HI2b.out).mono ?_
       rintro e w4 ⟨o, rfl, hi, hg⟩
       obtain ⟨b6, c6, rfl, _⟩ := own_cap' hi
       have HR1 := Lib.hid hi.read; have HS4 := Lib.hid (HS3.out.grown hg)
       have HI3b := Lib.hid (HI3.out.carry hg)
       clear hi hg)
    | (go_at_call 217
       with_reducible refine (HOW1.out _ _ HR1.out).mono ?_
       rintro e w5 ⟨o, rfl, hi, hg⟩
       obtain ⟨b8, c8, rfl, _⟩ := own_cap' hi
       have HS5 := Lib.hid (HS4.out.newI hg hi)
       have HI3c := Lib.hid (HI3b.out.carry hg)
       clear hi hg)
    | (go_at_call 295
       with_reducible refine (HX2.out _ _ HI3c.out).mono ?_
       rintro e w6 ⟨o, rfl, hi, hg⟩
       obtain ⟨b9, c9, rfl, _⟩ := own_cap' hi
       have HR4 := Lib.hid hi.read; have HS6 := Lib.hid (HS5.out.grown hg)
       clear hi hg)
    | (go_at_call 217
       with_reducible refine (HOW2.out _ _ HR4.out).mono ?_
       rintro e w7 ⟨o, rfl, hi, hg⟩
       obtain ⟨b7, c7, rfl, _⟩ := own_cap' hi
       have hs5 := (HS6.out.newI hg hi).s3
       obtain ⟨y0, y1, y2, y3⟩ := bx hs5.hd
       have h2 := (hs5.setB 0 (.slice b8 R1.length c8)).setB 1 (.slice b7 R2.length c7)
       obtain ⟨k0, k1, _, _⟩ := bx h2.hd
       have HSF := Lib.hid (show Sep _ [OI (.slice b8 R1.length c8) R1, OI (.slice b7 R2.length c7) R2, KeepA w] from h2.tl.s2)
       clear hi hg hs5 h2))
  refine bodyPost_ret_by (v := .agg #[.slice b8 R1.length c8, .slice b7 R2.length c7]) ?_ rfl ⟨_, _, rfl, HSF.out⟩
  simp [results, go_sem, *]
theorem frMake_any (q : Nat) [NeZero q] (u v : Value) (n d : List Int) (w : World) (hfl : fldN q = true) (hq2 : q ≤ 97) (hu : IntsV w u n) (hv : IntsV w v d) (hn : PolyOk q n) (hd : PolyOk q d) (dne : d ≠ []) (ln : n.length ≤ 41) (ld : d.length ≤ 41) :
    Calls Tryd.prog 266 #[.int .i64 q, u, v] w fun e w' => ∃ o1 o2, e = .returned (frV o1 o2) ∧ IntsV w' o1 (lowL q n d).1 ∧ IntsV w' o2 (lowL q n d).2 ∧ w.grownBy w' none :=
  (frMake_own q u v n d w hfl hq2 hu hv hn hd dne ln ld).mono fun _ _ ⟨o1, o2, h, hs⟩ => ⟨o1, o2, h, hs.hd.read, hs.tl.hd.read, hs.tl.tl.hd⟩
end Go.Proofs.YtpeaeminjbjlnaaDoor

/-
  What is a fraction, in the program. Conditions: small sizes.
-/
namespace Go.Proofs.YtpeaeminjbjlnaaDoor
open Go.RowKit
set_option linter.unusedVariables false

set_option maxRecDepth 100000 in
theorem equalFr_any (u1 v1 u2 v2 : Value) (n d n' d' : List Int) (w : World) (h1 : IntsV w u1 n) (h2 : IntsV w v1 d) (h3 : IntsV w u2 n') (h4 : IntsV w v2 d') (l1 : n.length ≤ 1000000) (l2 : d.length ≤ 1000000) (l3 : n'.length ≤ 1000000) (l4 : d'.length ≤ 1000000) :
    Calls Tryd.prog 293 #[frV u1 v1, frV u2 v2] w fun e w' => e = .returned (.bool ((n == n') && (d == d'))) ∧ w.grownBy w' none := by
  have hs := ((Sep.start w).box #[u1, v1] 53).box #[u2, v2] 53
  simp only [show ∀ (W : World) o, (W.alloc o).heap.size = W.heap.size + 1 from fun W o => by simp] at hs
  have HS := Lib.hid hs
  have E1 := Lib.hid fun W (hg : w.grownBy W none) => slEqual_any u1 u2 n n' W (h1.carry hg) (h3.carry hg) (by omega) (by omega)
  have E2 := Lib.hid fun W (hg : w.grownBy W none) => slEqual_any v1 v2 d d' W (h2.carry hg) (h4.carry hg) (by omega) (by omega)
  have HG0 := Lib.hid (show w.grownBy ((w.alloc (.cells #[u1, v1] 53)).alloc (.cells #[u2, v2] 53)) none from hs.tl.tl.hd)
  obtain ⟨y0, y1, _, _⟩ := bx hs.hd
  obtain ⟨y2, y3, _, _⟩ := bx hs.tl.hd
  clear hs h1 h2 h3 h4
  unfold frV
  cases hb : (n == n')
  · rw [hb] at E1
    go_enter Tryd.func293, Tryd.ntmps293
    go_wp2_with (
      go_at_call 301
      with_reducible refine (E1.out _ HG0.out).mono ?_
      rintro e w3 ⟨rfl, hg⟩
      have HG1 := Lib.hid (HG0.out.trans hg)
      clear hg)
    go_ret
    exact ⟨by rw [Bool.false_and]; rfl, HG1.out⟩
  · rw [hb] at E1
    rw [Bool.true_and]
    generalize (d == d') = bd at *
    go_enter Tryd.func293, Tryd.ntmps293
    go_wp2_with (first
      | (go_at_call 301
         with_reducible refine (E1.out _ HG0.out).mono ?_
         rintro e w3 ⟨rfl, hg⟩
         have HG1 := Lib.hid (HG0.out.trans hg)
         have hs3 := HS.out.grown hg
         obtain ⟨z0, z1, _, _⟩ := bx hs3.hd
         obtain ⟨z2, z3, _, _⟩ := bx hs3.tl.hd
         clear hg hs3)
      | (go_at_call 301
         with_reducible refine (E2.out _ HG1.out).mono ?_
         rintro e w4 ⟨rfl, hg⟩
         have HG2 := Lib.hid (HG1.out.trans hg)
         clear hg))
    go_ret
    exact ⟨rfl, HG2.out⟩
def frB (p : Int) (n d : List Int) : Bool := (polyB p n && polyB p d) && (decide (n.length ≤ 21) && (decide (d.length ≤ 21) && (!decide (d.length = 0) && ((lowL p n d).1 == n && (lowL p n d).2 == d))))
/-- the same as the reference tells it -/
theorem frB_eq {p : Int} {n d : List Int} (hb : (polyB p n && polyB p d) = true) (hne : d ≠ []) : ((lowL p n d).1 == n && (lowL p n d).2 == d) = (lastC d == 1 && (gcdL p n d).length == 1) := by
  rw [Bool.and_eq_true] at hb
  obtain ⟨q, iq, rfl, hf, hq, hq2, l1, o1⟩ := polyB_nat hb.1
  obtain ⟨q', iq', e1, _, _, _, l2, o2⟩ := polyB_nat hb.2
  obtain rfl : q = q' := by omega
  have L := low_of hf o1 o2 hne l1 l2
  rw [Bool.eq_iff_iff, Bool.and_eq_true, Bool.and_eq_true, beq_iff_eq, beq_iff_eq, beq_iff_eq, beq_iff_eq]
  constructor
  · rintro ⟨h1, h2⟩
    have hl := L.last
    have hc := L.cop
    rw [h2] at hl
    rw [h1, h2] at hc
    exact ⟨hl, cop_len hf o1 o2 hne l1 l2 hc⟩
  · rintro ⟨h1, h2⟩
    rw [low_id hf o1 o2 hne l1 l2 h1 h2]
    exact ⟨rfl, rfl⟩
end Go.Proofs.YtpeaeminjbjlnaaDoor

/-
  What is a fraction, in the program: the walk. Conditions: small sizes.
-/
namespace Go.Proofs.YtpeaeminjbjlnaaDoor
open Go.RowKit
set_option linter.unusedVariables false

set_option maxRecDepth 100000 in
set_option maxHeartbeats 2000000 in
theorem isFraction_any (p : Int) (u v : Value) (n d : List Int) (w : World) (ht : Tab w) (hu : IntsV w u n) (hv : IntsV w v d) (ln : n.length ≤ 1000000) (ld : d.length ≤ 1000000) :
    Calls Tryd.prog 262 #[.int .i64 p, frV u v] w fun e w' => e = .returned (.bool (frB p n d)) ∧ w.grownBy w' none := by
  have hs := ((Sep.start w).box #[u, v] 53)
  have hg0 : w.grownBy (w.alloc (.cells #[u, v] 53)) none := grownBy_alloc w _ none
  have ha := are_call p u v n d (w.alloc (.cells #[u, v] 53)) (ht.grown hg0) (hu.carry hg0) (hv.carry hg0) ln ld
  rw [show (w.alloc (.cells #[u, v] 53)).heap.size = w.heap.size + 1 by simp] at ha
  have hs2 := hs.al (.cells #[u, v] 24)
  obtain ⟨y0, y1, _, _⟩ := bx hs.hd
  obtain ⟨z0, z1, _, _⟩ := bx hs2.hd
  have HG2 := Lib.hid (show w.grownBy _ none from hs2.tl.hd)
  have HS2 := Lib.hid hs2
  have HDN := Lib.hid fun W (hg : w.grownBy W none) => degree_any u n W (hu.carry hg) ln
  have HDD := Lib.hid fun W (hg : w.grownBy W none) => degree_any v d W (hv.carry hg) ld
  have HFR := Lib.hid (show frB p n d = ((polyB p n && polyB p d) && (decide (n.length ≤ 21) && (decide (d.length ≤ 21) && (!decide (d.length = 0) && ((lowL p n d).1 == n && (lowL p n d).2 == d))))) from rfl)
  obtain ⟨ua, uc, rfl, _⟩ := id hu
  obtain ⟨va, vc, rfl, _⟩ := id hv
  rw [HFR.out]
  unfold frV
  cases hb : (polyB p n && polyB p d)
  · rw [hb] at ha
    have HA := Lib.hid ha
    clear ha hs hs2 hg0 hb HFR ht hu hv
    rw [Bool.false_and]
    go_enter Tryd.func262, Tryd.ntmps262
    go_wp2_with (go_at_call 101; refine HA.out.mono ?_; rintro e w' ⟨rfl, rfl⟩)
    go_ret
    exact ⟨rfl, HG2.out⟩
  · rw [hb] at ha
    have HA := Lib.hid ha
    have HB := Lib.hid hb
    clear ha hs hs2 hg0 hb HFR
    rw [Bool.true_and]
    by_cases h1 : n.length ≤ 21
    · have h1' : ¬ (20 : Int) < (n.length : Int) - 1 := by omega
      rw [decide_eq_true h1, Bool.true_and]
      by_cases h2 : d.length ≤ 21
      · have h2' : ¬ (20 : Int) < (d.length : Int) - 1 := by omega
        rw [decide_eq_true h2, Bool.true_and]
        by_cases h3 : d.length = 0
        · rw [decide_eq_true h3]
          obtain rfl : d = [] := List.eq_nil_of_length_eq_zero h3
          simp only [List.length_nil] at *
          rw [Bool.not_true, Bool.false_and]
          clear ht hu hv
          go_enter Tryd.func262, Tryd.ntmps262
          go_wp2_with (first
            | (go_at_call 101; refine HA.out.mono ?_; rintro e w' ⟨rfl, rfl⟩)
            | (go_at_call 247; with_reducible refine (HDN.out _ HG2.out).mono ?_; rintro e w' ⟨rfl, rfl⟩)
            | (go_at_call 247; with_reducible refine (HDD.out _ HG2.out).mono ?_; rintro e w' ⟨rfl, rfl⟩))
          go_ret
          exact ⟨rfl, HG2.out⟩
        · have h3' : ((d.length : Int) == 0) = false := by rw [beq_eq_false_iff_ne]; omega
          have dne : d ≠ [] := fun e => h3 (by rw [e]; rfl)
          rw [decide_eq_false h3]
          have hbb := HB.out
          rw [Bool.and_eq_true] at hbb
          obtain ⟨q, iq, rfl, hf, hq, hq2, l1, o1⟩ := polyB_nat hbb.1
          obtain ⟨q', iq', e1, _, _, _, l2, o2⟩ := polyB_nat hbb.2
          obtain rfl : q = q' := by omega
          have L := low_of hf o1 o2 dne l1 l2
          have hla := L.la; have hlb := L.lb
          have HLW := Lib.hid fun W (hg : w.grownBy W none) => lowest_any q _ _ n d W hf hq2 (hu.carry hg) (hv.carry hg) o1 o2 dne l1 l2
          have HEQ := Lib.hid fun W x y (hg : w.grownBy W none) (hx : IntsV W x (lowL q n d).1) (hy : IntsV W y (lowL q n d).2) => equalFr_any x y _ _ (lowL q n d).1 (lowL q n d).2 n d W hx hy (hu.carry hg) (hv.carry hg) (by omega) (by omega) ln ld
          unfold frV at HLW HEQ
          clear ht hu hv hbb e1 L hla hlb
          rw [Bool.not_false, Bool.true_and]
          generalize ((lowL (q : Int) n d).1 == n && (lowL (q : Int) n d).2 == d) = bb at *
          go_enter Tryd.func262, Tryd.ntmps262
          go_wp2_with (first
            | (go_at_call 101; refine HA.out.mono ?_; rintro e w' ⟨rfl, rfl⟩)
            | (go_at_call 247; with_reducible refine (HDN.out _ HG2.out).mono ?_; rintro e w' ⟨rfl, rfl⟩)
            | (go_at_call 247; with_reducible refine (HDD.out _ HG2.out).mono ?_; rintro e w' ⟨rfl, rfl⟩))
          have hs3 := HS2.out.dr
          obtain ⟨x0, x1, _, _⟩ := bx hs3.hd
          have HG3 := Lib.hid (show w.grownBy _ none from hs3.tl.hd)
          have HS3 := Lib.hid hs3
          clear hs3
          go_region_law (first
            | (try go_simp
               go_at_call 145
               refine (HLW.out _ HG3.out).mono ?_
               rintro e w4 ⟨o1, o2, rfl, hi1, hi2, hg⟩
               have HI1 := Lib.hid hi1; have HI2 := Lib.hid hi2
               have HG4 := Lib.hid (HG3.out.trans hg)
               obtain ⟨t0, t1, _, _⟩ := bx (HS3.out.grown hg).hd
               clear hi1 hi2 hg)
            | (try go_simp
               go_at_call 293
               refine (HEQ.out _ _ _ HG4.out HI1.out HI2.out).mono ?_
               rintro e w5 ⟨rfl, hg⟩
               have HG5 := Lib.hid (HG4.out.trans hg)
               clear hg))
          all_goals
            go_wp2
            go_ret
            exact ⟨rfl, HG5.out⟩
      · have h2' : (20 : Int) < (d.length : Int) - 1 := by omega
        rw [decide_eq_false h2, Bool.false_and]
        clear ht hu hv
        go_enter Tryd.func262, Tryd.ntmps262
        go_wp2_with (first
          | (go_at_call 101; refine HA.out.mono ?_; rintro e w' ⟨rfl, rfl⟩)
          | (go_at_call 247; with_reducible refine (HDN.out _ HG2.out).mono ?_; rintro e w' ⟨rfl, rfl⟩)
          | (go_at_call 247; with_reducible refine (HDD.out _ HG2.out).mono ?_; rintro e w' ⟨rfl, rfl⟩))
        go_ret
        exact ⟨rfl, HG2.out⟩
    · have h1' : (20 : Int) < (n.length : Int) - 1 := by omega
      rw [decide_eq_false h1, Bool.false_and]
      clear ht hu hv
      go_enter Tryd.func262, Tryd.ntmps262
      go_wp2_with (first
        | (go_at_call 101; refine HA.out.mono ?_; rintro e w' ⟨rfl, rfl⟩)
        | (go_at_call 247; with_reducible refine (HDN.out _ HG2.out).mono ?_; rintro e w' ⟨rfl, rfl⟩))
      go_ret
      exact ⟨rfl, HG2.out⟩
end Go.Proofs.YtpeaeminjbjlnaaDoor

/-
  What is causal; lists of fractions. Conditions: small sizes.
-/
namespace Go.Proofs.YtpeaeminjbjlnaaDoor
open Go.RowKit
set_option linter.unusedVariables false

def cauB (d : List Int) : Bool := d.getD 0 0 != 0
theorem head_cell {w : World} {a : Option Addr} {c : Nat} {f : List Int} (h : IntsV w (.slice a f.length c) f) (hne : f ≠ []) : ∃ b o, a = some ⟨b, o, none⟩ ∧ b < w.heap.size ∧ w.cell? ⟨b, o, none⟩ = some (.int .i64 (f.getD 0 0)) := by
  obtain ⟨d, rfl, hs, hd, hc⟩ := h.at (len_pos hne)
  obtain ⟨b, o, _⟩ := d
  simp only at hs hc
  subst hs
  rw [← getD_lt (len_pos hne)] at hc
  exact ⟨b, o, rfl, hd, hc⟩
set_option maxRecDepth 100000 in
theorem frCausal_any (u v : Value) (d : List Int) (w : World) (hv : IntsV w v d) (dne : d ≠ []) (ld : d.length ≤ 1000000) : Calls Tryd.prog 136 #[frV u v] w fun e w' => e = .returned (.bool (cauB d)) ∧ w.grownBy w' none := by
  have hs := ((Sep.start w).box #[u, v] 53)
  obtain ⟨y0, y1, _, _⟩ := bx hs.hd
  have HG0 := Lib.hid (show w.grownBy _ none from hs.tl.hd)
  have hdl := len_pos dne
  obtain ⟨a, c, rfl, _⟩ := id hv
  obtain ⟨b, o, rfl, _, hcl⟩ := head_cell (hv.carry HG0.out) dne
  clear hs hv dne
  unfold cauB
  generalize d.getD 0 0 = x at *
  unfold frV
  by_cases hx : x = 0
  · subst hx
    go_enter Tryd.func136, Tryd.ntmps136
    go_wp2
    go_ret
    exact ⟨rfl, HG0.out⟩
  · have hx2 : (x != 0) = true := by rw [bne_iff_ne]; exact hx
    go_enter Tryd.func136, Tryd.ntmps136
    go_wp2
    go_ret
    exact ⟨by first | rfl | (rw [hx2]; rfl), HG0.out⟩
set_option maxRecDepth 100000 in
theorem isCausal_any (u v : Value) (d : List Int) (w : World) (hv : IntsV w v d) (dne : d ≠ []) (ld : d.length ≤ 1000000) : Calls Tryd.prog 133 #[frV u v] w fun e w' => e = .returned (.bool (cauB d)) ∧ w.grownBy w' none := by
  have hs := ((Sep.start w).box #[u, v] 53)
  obtain ⟨y0, y1, _, _⟩ := bx hs.hd
  have HG0 := Lib.hid (show w.grownBy _ none from hs.tl.hd)
  have hdl := len_pos dne
  obtain ⟨a, c, rfl, _⟩ := id hv
  obtain ⟨b, o, rfl, _, hcl⟩ := head_cell (hv.carry HG0.out) dne
  clear hs hv dne
  unfold cauB
  generalize d.getD 0 0 = x at *
  unfold frV
  by_cases hx : x = 0
  · subst hx
    go_enter Tryd.func133, Tryd.ntmps133
    go_wp2
    go_ret
    exact ⟨rfl, HG0.out⟩
  · have hx2 : (x != 0) = true := by rw [bne_iff_ne]; exact hx
    go_enter Tryd.func133, Tryd.ntmps133
    go_wp2
    go_ret
    exact ⟨by first | rfl | (rw [hx2]; rfl), HG0.out⟩
end Go.Proofs.YtpeaeminjbjlnaaDoor

/-
  What is a fraction, in the reference. Conditions: small sizes.
-/
namespace Go.Proofs.YtpeaeminjbjlnaaDoor
open Go.RowKit
set_option linter.unusedVariables false

theorem frSize_any (u : Value) (f : List Int) (w : World) (hu : IntsV w u f) (hl : f.length ≤ 1000000) : Calls Tryd.prog 264 #[u] w fun e w' => e = .returned (.bool (decide (f.length ≤ 21))) ∧ w = w' := by
  obtain ⟨a, c, rfl, _⟩ := hu
  by_cases h : f.length ≤ 21
  · have h' : (f.length : Int) ≤ 21 := by omega
    rw [decide_eq_true h]
    go_enter Tryd.func264, Tryd.ntmps264
    go_wp2
    go_ret
    exact ⟨rfl, rfl⟩
  · have h' : ¬ (f.length : Int) ≤ 21 := by omega
    rw [decide_eq_false h]
    go_enter Tryd.func264, Tryd.ntmps264
    go_wp2
    go_ret
    exact ⟨rfl, rfl⟩
set_option maxRecDepth 100000 in
set_option maxHeartbeats 2000000 in
theorem frGood_any (p : Int) (u v : Value) (n d : List Int) (w : World) (hp0 : -1000 ≤ p) (hp1 : p ≤ 1000) (hu : IntsV w u n) (hv : IntsV w v d) (ln : n.length ≤ 1000000) (ld : d.length ≤ 1000000) :
    Calls Tryd.prog 135 #[.int .i64 p, frV u v] w fun e w' => e = .returned (.bool (frB p n d)) ∧ w.grownBy w' none := by
  have hs := ((Sep.start w).box #[u, v] 53)
  obtain ⟨y0, y1, _, _⟩ := bx hs.hd
  have HG0 := Lib.hid (show w.grownBy _ none from hs.tl.hd)
  have h1 := fun W (hg : w.grownBy W none) => poGood_any p u n W hp0 hp1 (hu.carry hg) ln
  have h2 := fun W (hg : w.grownBy W none) => poGood_any p v d W hp0 hp1 (hv.carry hg) ld
  have s1 := fun W (hg : w.grownBy W none) => frSize_any u n W (hu.carry hg) ln
  have s2 := fun W (hg : w.grownBy W none) => frSize_any v d W (hv.carry hg) ld
  have HFR := Lib.hid (show frB p n d = ((polyB p n && polyB p d) && (decide (n.length ≤ 21) && (decide (d.length ≤ 21) && (!decide (d.length = 0) && ((lowL p n d).1 == n && (lowL p n d).2 == d))))) from rfl)
  have HUV := Lib.hid (And.intro hu hv)
  obtain ⟨ua, uc, rfl, _⟩ := hu
  obtain ⟨va, vc, rfl, _⟩ := hv
  rw [HFR.out]
  unfold frV
  clear hs HFR
  cases b1 : polyB p n
  · rw [b1] at h1
    have H1 := Lib.hid h1; have H2 := Lib.hid h2; have S1 := Lib.hid s1; have S2 := Lib.hid s2
    clear h1 h2 s1 s2 b1
    rw [Bool.false_and, Bool.false_and]
    go_enter Tryd.func135, Tryd.ntmps135
    go_wp2_with (first
      | (go_at_call 103; with_reducible refine (H1.out _ HG0.out).mono ?_; rintro e w' ⟨rfl, rfl⟩)
      | (go_at_call 103; with_reducible refine (H2.out _ HG0.out).mono ?_; rintro e w' ⟨rfl, rfl⟩)
      | (go_at_call 264; with_reducible refine (S1.out _ HG0.out).mono ?_; rintro e w' ⟨rfl, rfl⟩)
      | (go_at_call 264; with_reducible refine (S2.out _ HG0.out).mono ?_; rintro e w' ⟨rfl, rfl⟩))
    go_ret
    exact ⟨rfl, HG0.out⟩
  · rw [b1] at h1
    cases b2 : polyB p d
    · rw [b2] at h2
      have H1 := Lib.hid h1; have H2 := Lib.hid h2; have S1 := Lib.hid s1; have S2 := Lib.hid s2
      clear h1 h2 s1 s2 b1 b2
      rw [Bool.and_false, Bool.false_and]
      go_enter Tryd.func135, Tryd.ntmps135
      go_wp2_with (first
        | (go_at_call 103; with_reducible refine (H1.out _ HG0.out).mono ?_; rintro e w' ⟨rfl, rfl⟩)
        | (go_at_call 103; with_reducible refine (H2.out _ HG0.out).mono ?_; rintro e w' ⟨rfl, rfl⟩)
        | (go_at_call 264; with_reducible refine (S1.out _ HG0.out).mono ?_; rintro e w' ⟨rfl, rfl⟩)
        | (go_at_call 264; with_reducible refine (S2.out _ HG0.out).mono ?_; rintro e w' ⟨rfl, rfl⟩))
      go_ret
      exact ⟨rfl, HG0.out⟩
    · rw [b2] at h2
      have H1 := Lib.hid h1; have H2 := Lib.hid h2
      have HB := Lib.hid (And.intro b1 b2)
      clear h1 h2 b1 b2
      rw [Bool.true_and, Bool.true_and]
      by_cases k1 : n.length ≤ 21
      · rw [decide_eq_true k1] at s1 ⊢
        rw [Bool.true_and]
        by_cases k2 : d.length ≤ 21
        · rw [decide_eq_true k2] at s2 ⊢
          rw [Bool.true_and]
          have S1 := Lib.hid s1; have S2 := Lib.hid s2
          clear s1 s2
          by_cases k3 : d.length = 0
          · rw [decide_eq_true k3, Bool.not_true, Bool.false_and]
            obtain rfl : d = [] := List.eq_nil_of_length_eq_zero k3
            simp only [List.length_nil] at *
            go_enter Tryd.func135, Tryd.ntmps135
            go_wp2_with (first
              | (go_at_call 103; with_reducible refine (H1.out _ HG0.out).mono ?_; rintro e w' ⟨rfl, rfl⟩)
              | (go_at_call 103; with_reducible refine (H2.out _ HG0.out).mono ?_; rintro e w' ⟨rfl, rfl⟩)
              | (go_at_call 264; with_reducible refine (S1.out _ HG0.out).mono ?_; rintro e w' ⟨rfl, rfl⟩)
              | (go_at_call 264; with_reducible refine (S2.out _ HG0.out).mono ?_; rintro e w' ⟨rfl, rfl⟩))
            go_ret
            exact ⟨rfl, HG0.out⟩
          · have dne : d ≠ [] := fun e => k3 (by rw [e]; rfl)
            have k3' : ((d.length : Int) == 0) = false := by rw [beq_eq_false_iff_ne]; omega
            have hbb : (polyB p n && polyB p d) = true := by rw [HB.out.1, HB.out.2]; rfl
            rw [decide_eq_false k3, Bool.not_false, Bool.true_and, frB_eq hbb dne]
            obtain ⟨q, iq, rfl, hf, hq, hq2, l1, o1⟩ := polyB_nat HB.out.1
            obtain ⟨q', iq', e1, _, _, _, l2, o2⟩ := polyB_nat HB.out.2
            obtain rfl : q = q' := by omega
            obtain ⟨bb, bo, rfl, hcl⟩ := last_cell (HUV.out.2.carry HG0.out) dne
            have g1 : IntKind.i64.wrap ((d.length : Int) - 1) = ((d.length - 1 : Nat) : Int) := by rw [IntKind.wrap_i64]; omega
            have g2 : ((d.length - 1 : Nat) : Int) < (d.length : Int) := by omega
            have HGC := Lib.hid fun W (hg : w.grownBy W none) => poGcd_any q _ _ n d W hf hq2 (HUV.out.1.carry hg) (HUV.out.2.carry hg) o1 o2 (by omega) (by omega) (Or.inr dne)
            clear hbb e1 dne
            generalize lastC d = lc at *
            generalize gcdL (q : Int) n d = g at *
            by_cases k4 : lc = 1
            · subst k4
              rw [show ((1 : Int) == 1) = true from rfl, Bool.true_and]
              by_cases k5 : g.length = 1
              · have k5' : ((g.length : Int) == 1) = true := by rw [beq_iff_eq]; omega
                rw [show (g.length == 1) = true by rw [beq_iff_eq]; exact k5]
                go_enter Tryd.func135, Tryd.ntmps135
                go_wp2_with (first
                  | (go_at_call 103; with_reducible refine (H1.out _ HG0.out).mono ?_; rintro e w' ⟨rfl, rfl⟩)
                  | (go_at_call 103; with_reducible refine (H2.out _ HG0.out).mono ?_; rintro e w' ⟨rfl, rfl⟩)
                  | (go_at_call 264; with_reducible refine (S1.out _ HG0.out).mono ?_; rintro e w' ⟨rfl, rfl⟩)
                  | (go_at_call 264; with_reducible refine (S2.out _ HG0.out).mono ?_; rintro e w' ⟨rfl, rfl⟩)
                  | (go_at_call 265
                     with_reducible refine (HGC.out _ HG0.out).mono ?_
                     rintro e w5 ⟨o, rfl, hi, hg⟩
                     obtain ⟨b5, c5, rfl, _⟩ := id hi
                     have HG5 := Lib.hid (HG0.out.trans hg)
                     clear hi hg))
                go_ret
                exact ⟨by first | rfl | rw [k5'], HG5.out⟩
              · have k5' : ((g.length : Int) == 1) = false := by rw [beq_eq_false_iff_ne]; omega
                rw [show (g.length == 1) = false by rw [beq_eq_false_iff_ne]; exact k5]
                go_enter Tryd.func135, Tryd.ntmps135
                go_wp2_with (first
                  | (go_at_call 103; with_reducible refine (H1.out _ HG0.out).mono ?_; rintro e w' ⟨rfl, rfl⟩)
                  | (go_at_call 103; with_reducible refine (H2.out _ HG0.out).mono ?_; rintro e w' ⟨rfl, rfl⟩)
                  | (go_at_call 264; with_reducible refine (S1.out _ HG0.out).mono ?_; rintro e w' ⟨rfl, rfl⟩)
                  | (go_at_call 264; with_reducible refine (S2.out _ HG0.out).mono ?_; rintro e w' ⟨rfl, rfl⟩)
                  | (go_at_call 265
                     with_reducible refine (HGC.out _ HG0.out).mono ?_
                     rintro e w5 ⟨o, rfl, hi, hg⟩
                     obtain ⟨b5, c5, rfl, _⟩ := id hi
                     have HG5 := Lib.hid (HG0.out.trans hg)
                     clear hi hg))
                go_ret
                exact ⟨by first | rfl | rw [k5'], HG5.out⟩
            · have k4' : (lc != 1) = true := by rw [bne_iff_ne]; exact k4
              rw [show (lc == 1) = false by rw [beq_eq_false_iff_ne]; exact k4, Bool.false_and]
              go_enter Tryd.func135, Tryd.ntmps135
              go_wp2_with (first
                | (go_at_call 103; with_reducible refine (H1.out _ HG0.out).mono ?_; rintro e w' ⟨rfl, rfl⟩)
                | (go_at_call 103; with_reducible refine (H2.out _ HG0.out).mono ?_; rintro e w' ⟨rfl, rfl⟩)
                | (go_at_call 264; with_reducible refine (S1.out _ HG0.out).mono ?_; rintro e w' ⟨rfl, rfl⟩)
                | (go_at_call 264; with_reducible refine (S2.out _ HG0.out).mono ?_; rintro e w' ⟨rfl, rfl⟩))
              go_ret
              exact ⟨rfl, HG0.out⟩
        · rw [decide_eq_false k2] at s2 ⊢
          rw [Bool.false_and]
          have S1 := Lib.hid s1; have S2 := Lib.hid s2
          clear s1 s2
          go_enter Tryd.func135, Tryd.ntmps135
          go_wp2_with (first
            | (go_at_call 103; with_reducible refine (H1.out _ HG0.out).mono ?_; rintro e w' ⟨rfl, rfl⟩)
            | (go_at_call 103; with_reducible refine (H2.out _ HG0.out).mono ?_; rintro e w' ⟨rfl, rfl⟩)
            | (go_at_call 264; with_reducible refine (S1.out _ HG0.out).mono ?_; rintro e w' ⟨rfl, rfl⟩)
            | (go_at_call 264; with_reducible refine (S2.out _ HG0.out).mono ?_; rintro e w' ⟨rfl, rfl⟩))
          go_ret
          exact ⟨rfl, HG0.out⟩
      · rw [decide_eq_false k1] at s1 ⊢
        rw [Bool.false_and]
        have S1 := Lib.hid s1; have S2 := Lib.hid s2
        clear s1 s2
        go_enter Tryd.func135, Tryd.ntmps135
        go_wp2_with (first
          | (go_at_call 103; with_reducible refine (H1.out _ HG0.out).mono ?_; rintro e w' ⟨rfl, rfl⟩)
          | (go_at_call 103; with_reducible refine (H2.out _ HG0.out).mono ?_; rintro e w' ⟨rfl, rfl⟩)
          | (go_at_call 264; with_reducible refine (S1.out _ HG0.out).mono ?_; rintro e w' ⟨rfl, rfl⟩)
          | (go_at_call 264; with_reducible refine (S2.out _ HG0.out).mono ?_; rintro e w' ⟨rfl, rfl⟩))
        go_ret
        exact ⟨rfl, HG0.out⟩
end Go.Proofs.YtpeaeminjbjlnaaDoor

/-
  Valid fractions only, in the program and in the reference. Conditions: small sizes.
-/
namespace Go.Proofs.YtpeaeminjbjlnaaDoor
open Go.RowKit
set_option linter.unusedVariables false

set_option maxRecDepth 100000 in
set_option maxHeartbeats 1000000 in
theorem validFraction_any (p : Int) (u v : Value) (n d : List Int) (w : World) (ht : Tab w) (hu : IntsV w u n) (hv : IntsV w v d) (ln : n.length ≤ 1000000) (ld : d.length ≤ 1000000) :
    Calls Tryd.prog 144 #[.int .i64 p, frV u v] w fun e w' => ∃ o1 o2, e = .returned (.tuple #[frV o1 o2, .bool (frB p n d)]) ∧ IntsV w' o1 (if frB p n d = true then n else []) ∧ IntsV w' o2 (if frB p n d = true then d else []) ∧ w.grownBy w' none := by
  have hs := ((Sep.start w).box #[u, v] 53).box #[.slice none 0 0, .slice none 0 0] 53
  simp only [show ∀ (W : World) o, (W.alloc o).heap.size = W.heap.size + 1 from fun W o => by simp] at hs
  obtain ⟨x0, x1, _, _⟩ := bx hs.tl.hd
  have hg0 : w.grownBy ((w.alloc (.cells #[u, v] 53)).alloc (.cells #[.slice none 0 0, .slice none 0 0] 53)) none := hs.tl.tl.hd
  have hi := isFraction_any p u v n d ((w.alloc (.cells #[u, v] 53)).alloc (.cells #[.slice none 0 0, .slice none 0 0] 53)) (ht.grown hg0) (hu.carry hg0) (hv.carry hg0) ln ld
  have HS := Lib.hid hs; have HU := Lib.hid hu; have HV := Lib.hid hv; have HG0 := Lib.hid hg0
  obtain ⟨ua, uc, rfl, _⟩ := id hu
  obtain ⟨va, vc, rfl, _⟩ := id hv
  unfold frV at *
  clear hs hg0 ht hu hv
  cases hb : frB p n d
  · rw [hb] at hi
    have HI := Lib.hid hi
    clear hi hb
    go_enter Tryd.func144, Tryd.ntmps144
    go_wp2_with (
      go_at_call 262
      go_loud (with_reducible refine HI.out.mono ?_)
      rintro e w4 ⟨rfl, hg⟩
      have hs4 := HS.out.grown hg
      obtain ⟨y0, y1, y2, y3⟩ := bx hs4.hd
      have h2 := (hs4.setB 0 (.slice none 0 0)).setB 1 (.slice none 0 0)
      obtain ⟨k0, k1, _, _⟩ := bx h2.hd
      have HGF := Lib.hid (show w.grownBy _ none from h2.tl.tl.hd)
      clear hg hs4 h2)
    refine bodyPost_ret_by (v := .tuple #[.agg #[.slice none 0 0, .slice none 0 0], .bool false]) ?_ rfl ⟨_, _, rfl, IntsV.nil _, IntsV.nil _, HGF.out⟩
    simp [results, go_sem, *]
  · rw [hb] at hi
    have HI := Lib.hid hi
    clear hi hb
    go_enter Tryd.func144, Tryd.ntmps144
    go_wp2_with (
      go_at_call 262
      go_loud (with_reducible refine HI.out.mono ?_)
      rintro e w4 ⟨rfl, hg⟩
      have hs4 := HS.out.grown hg
      obtain ⟨y0, y1, y2, y3⟩ := bx hs4.hd
      obtain ⟨t0, t1, _, _⟩ := bx hs4.tl.hd
      have h2 := (hs4.setB 0 (.slice ua n.length uc)).setB 1 (.slice va d.length vc)
      obtain ⟨k0, k1, _, _⟩ := bx h2.hd
      have HQ1 := Lib.hid (ints_box (i := 1) (ints_box (i := 0) (HU.out.carry (HG0.out.trans hg)) hs4.hd (.slice ua n.length uc)) (hs4.setB 0 (.slice ua n.length uc)).hd (.slice va d.length vc))
      have HQ2 := Lib.hid (ints_box (i := 1) (ints_box (i := 0) (HV.out.carry (HG0.out.trans hg)) hs4.hd (.slice ua n.length uc)) (hs4.setB 0 (.slice ua n.length uc)).hd (.slice va d.length vc))
      have HGF := Lib.hid (show w.grownBy _ none from h2.tl.tl.hd)
      clear hg hs4 h2)
    refine bodyPost_ret_by (v := .tuple #[.agg #[.slice ua n.length uc, .slice va d.length vc], .bool true]) ?_ rfl ⟨_, _, rfl, HQ1.out, HQ2.out, HGF.out⟩
    simp [results, go_sem, *]
end Go.Proofs.YtpeaeminjbjlnaaDoor

/-
  Equality of fractions, in the laws; both fractions of a list; orders. Conditions: small sizes.
-/
namespace Go.Proofs.YtpeaeminjbjlnaaDoor
open Go.RowKit
set_option linter.unusedVariables false

set_option maxRecDepth 100000 in
theorem qFr_any (u1 v1 u2 v2 : Value) (n d n' d' : List Int) (w : World) (h1 : IntsV w u1 n) (h2 : IntsV w v1 d) (h3 : IntsV w u2 n') (h4 : IntsV w v2 d') (l1 : n.length ≤ 1000000) (l2 : d.length ≤ 1000000) (l3 : n'.length ≤ 1000000) (l4 : d'.length ≤ 1000000) :
    Calls Tryd.prog 39 #[frV u1 v1, frV u2 v2] w fun e w' => e = .returned (.bool ((n == n') && (d == d'))) ∧ w.grownBy w' none := by
  have hs := ((Sep.start w).box #[u1, v1] 53).box #[u2, v2] 53
  simp only [show ∀ (W : World) o, (W.alloc o).heap.size = W.heap.size + 1 from fun W o => by simp] at hs
  have HS := Lib.hid hs
  have E1 := Lib.hid fun W (hg : w.grownBy W none) => sameInts_any u1 u2 n n' W (h1.carry hg) (h3.carry hg) (by omega) (by omega)
  have E2 := Lib.hid fun W (hg : w.grownBy W none) => sameInts_any v1 v2 d d' W (h2.carry hg) (h4.carry hg) (by omega) (by omega)
  have HG0 := Lib.hid (show w.grownBy ((w.alloc (.cells #[u1, v1] 53)).alloc (.cells #[u2, v2] 53)) none from hs.tl.tl.hd)
  obtain ⟨y0, y1, _, _⟩ := bx hs.hd
  obtain ⟨y2, y3, _, _⟩ := bx hs.tl.hd
  clear hs h1 h2 h3 h4
  unfold frV
  cases hb : (n == n')
  · rw [hb] at E1
    go_enter Tryd.func39, Tryd.ntmps39
    go_wp2_with (
      go_at_call 17
      with_reducible refine (E1.out _ HG0.out).mono ?_
      rintro e w3 ⟨rfl, hg⟩
      have HG1 := Lib.hid (HG0.out.trans hg)
      clear hg)
    go_ret
    exact ⟨by rw [Bool.false_and]; rfl, HG1.out⟩
  · rw [hb] at E1
    rw [Bool.true_and]
    generalize (d == d') = bd at *
    go_enter Tryd.func39, Tryd.ntmps39
    go_wp2_with (first
      | (go_at_call 17
         with_reducible refine (E1.out _ HG0.out).mono ?_
         rintro e w3 ⟨rfl, hg⟩
         have HG1 := Lib.hid (HG0.out.trans hg)
         have hs3 := HS.out.grown hg
         obtain ⟨z0, z1, _, _⟩ := bx hs3.hd
         obtain ⟨z2, z3, _, _⟩ := bx hs3.tl.hd
         clear hg hs3)
      | (go_at_call 17
         with_reducible refine (E2.out _ HG1.out).mono ?_
         rintro e w4 ⟨rfl, hg⟩
         have HG2 := Lib.hid (HG1.out.trans hg)
         clear hg))
    go_ret
    exact ⟨rfl, HG2.out⟩
theorem qFr_self (u1 v1 u2 v2 : Value) (n d : List Int) (w : World) (h1 : IntsV w u1 n) (h2 : IntsV w v1 d) (h3 : IntsV w u2 n) (h4 : IntsV w v2 d) (l1 : n.length ≤ 1000000) (l2 : d.length ≤ 1000000) :
    Calls Tryd.prog 39 #[frV u1 v1, frV u2 v2] w fun e w' => e = .returned (.bool true) ∧ w.grownBy w' none := by
  have h := qFr_any u1 v1 u2 v2 n d n d w h1 h2 h3 h4 l1 l2 l1 l2
  rw [show ((n == n) && (d == d)) = true by simp] at h
  exact h
end Go.Proofs.YtpeaeminjbjlnaaDoor

/-
  Lists of fractions, in the program. Conditions: small sizes.
-/
namespace Go.Proofs.YtpeaeminjbjlnaaDoor
open Go.RowKit
set_option linter.unusedVariables false

theorem frB_fld {p : Int} {n d : List Int} (h : frB p n d = true) : fldB p = true := by
  unfold frB at h
  rw [Bool.and_eq_true, Bool.and_eq_true] at h
  have h1 := h.1.1
  unfold polyB at h1
  rw [Bool.and_eq_true] at h1
  exact h1.1
set_option maxRecDepth 100000 in
set_option maxHeartbeats 2000000 in
theorem areFr_any (p : Int) (g m : Nat) (U V : Nat → Value) (A D : Nat → List Int) (w : World) (ht : Tab w) (hgb : g < w.heap.size) (hc : ∀ i, i < m → w.cell? ⟨g, 2 * i, none⟩ = some (U i) ∧ w.cell? ⟨g, 2 * i + 1, none⟩ = some (V i))
    (hi : ∀ i, i < m → IntsV w (U i) (A i) ∧ IntsV w (V i) (D i) ∧ (A i).length ≤ 1000000 ∧ (D i).length ≤ 1000000) (hm : 1 ≤ m) (hm2 : m ≤ 100) :
    Calls Tryd.prog 132 #[.int .i64 p, .slice (some ⟨g, 0, none⟩) m m] w fun e w' => ∃ b, e = .returned (.bool b) ∧ (b = true ↔ ∀ i, i < m → frB p (A i) (D i) = true) ∧ w.grownBy w' none := by
  have HT := Lib.hid ht; have HC := Lib.hid hc; have HI := Lib.hid hi
  clear ht hc hi
  go_enter Tryd.func132, Tryd.ntmps132
  go_wp2_with fail
  go_loopw [9] (fun i wr => ∃ k : Nat, k ≤ m ∧ i = .int .i64 k ∧ (∀ j, j < k → frB p (A j) (D j) = true) ∧ w.grownBy wr none) (fun i _ => m - (intOf i).toNat)
  case atStart => exact ⟨0, by omega, rfl, fun _ h => absurd h (by omega), grownBy_refl _ _⟩
  case round =>
    obtain ⟨k, hk, rfl, ho, hg⟩ := hrel
    have HO := Lib.hid ho; have HG := Lib.hid hg
    clear ho hg
    by_cases hlt : k < m
    · obtain ⟨c0, c1⟩ := HC.out k hlt
      have c0' := (World.cell?_of_block (w := w) (a := ⟨g, 2 * k, none⟩) (HG.out.block g hgb (by simp))).trans c0
      have c1' := (World.cell?_of_block (w := w) (a := ⟨g, 2 * k + 1, none⟩) (HG.out.block g hgb (by simp))).trans c1
      have c0'' : wr.cell? ⟨g, k * 2, none⟩ = some (U k) := by rw [Nat.mul_comm]; exact c0'
      have c1'' : wr.cell? ⟨g, k * 2 + 1, none⟩ = some (V k) := by rw [Nat.mul_comm]; exact c1'
      obtain ⟨i1, i2, l1, l2⟩ := HI.out k hlt
      generalize U k = uk at *
      generalize V k = vk at *
      obtain ⟨ua, uc, rfl, _⟩ := id i1
      obtain ⟨va, vc, rfl, _⟩ := id i2
      have HCK := Lib.hid fun W (hg : w.grownBy W none) => isFraction_any p _ _ (A k) (D k) W (HT.out.grown hg) (i1.carry hg) (i2.carry hg) l1 l2
      unfold frV at HCK
      obtain ⟨x0, x1, x2, x3⟩ := bx (alloc_heap_new wr (.cells #[.slice none 0 0, .slice none 0 0] 53))
      obtain ⟨x4, x5, x6, x7⟩ := bx (alloc_heap_new wr (.cells #[.slice ua (A k).length uc, .slice va (D k).length vc] 53))
      clear c0 c1 i1 i2 l1 l2
      cases hb : frB p (A k) (D k)
      · rw [hb] at HCK
        have HBK := Lib.hid hb
        clear hb
        go_wp2_with (
          go_at_call 262
          refine (HCK.out _ (HG.out.trans (grownBy_alloc wr _ none))).mono ?_
          rintro e w4 ⟨rfl, hg⟩
          have HG4 := Lib.hid ((HG.out.trans (grownBy_alloc wr _ none)).trans hg)
          clear hg)
        go_ret
        exact ⟨false, rfl, ⟨fun h => by (cases h), fun h => by have := h k hlt; rw [HBK.out] at this; cases this⟩, HG4.out⟩
      · rw [hb] at HCK
        have HBK := Lib.hid hb
        clear hb
        go_wp2_with (
          go_at_call 262
          refine (HCK.out _ (HG.out.trans (grownBy_alloc wr _ none))).mono ?_
          rintro e w4 ⟨rfl, hg⟩
          have HG4 := Lib.hid ((HG.out.trans (grownBy_alloc wr _ none)).trans hg)
          clear hg)
        go_roundw
        case rel => exact ⟨k + 1, by omega, by go_num, fun j hj => by
          by_cases hjk : j = k
          · subst hjk; exact HBK.out
          · exact HO.out j (by omega), HG4.out⟩
        case measure => simp [intOf]; omega
    · have hkm : k = m := by omega
      subst hkm
      have hf := frB_fld (HO.out 0 (by omega))
      have hif := isField_any p wr (HT.out.grown HG.out)
      rw [hf] at hif
      have HIF := Lib.hid hif
      clear hf hif
      go_wp2_with (go_at_call 204; with_reducible refine HIF.out.mono ?_; rintro e w' ⟨rfl, rfl⟩)
      go_ret
      exact ⟨true, rfl, ⟨fun _ => HO.out, fun _ => rfl⟩, HG.out⟩
end Go.Proofs.YtpeaeminjbjlnaaDoor

/-
  Coefficients and the bounds of a series' sums. Conditions: small sizes.
-/
namespace Go.Proofs.YtpeaeminjbjlnaaDoor
open Go.RowKit
set_option linter.unusedVariables false

theorem coef_any (u : Value) (f : List Int) (e : Nat) (w : World) (hu : IntsV w u f) (hl : f.length ≤ 1000000) : Calls Tryd.prog 263 #[u, .int .i64 e] w fun en w' => en = .returned (.int .i64 (f.getD e 0)) ∧ w = w' := by
  have HU := Lib.hid hu
  obtain ⟨a, c, rfl, _⟩ := id hu
  clear hu
  by_cases h : e < f.length
  · have h' : ¬ (f.length : Int) ≤ (e : Int) := by omega
    have h2 : (e : Int) < (f.length : Int) := by omega
    obtain ⟨d, rfl, hs, _, hc⟩ := HU.out.at h
    obtain ⟨db, dof, _⟩ := d
    simp only at hs hc
    subst hs
    rw [← getD_lt h] at hc
    generalize f.getD e 0 = x at *
    go_enter Tryd.func263, Tryd.ntmps263
    go_wp2
    go_ret
    exact ⟨rfl, rfl⟩
  · have h' : (f.length : Int) ≤ (e : Int) := by omega
    rw [show f.getD e 0 = 0 by rw [List.getD_eq_getElem?_getD, List.getElem?_eq_none (by omega)]; rfl]
    go_enter Tryd.func263, Tryd.ntmps263
    go_wp2
    go_ret
    exact ⟨rfl, rfl⟩
theorem getD_bd {q : Nat} {f : List Int} (h : ∀ z ∈ f, 0 ≤ z ∧ z < (q : Int)) (hq : 2 ≤ q) (k : Nat) : 0 ≤ f.getD k 0 ∧ f.getD k 0 < q := by
  rcases Nat.lt_or_ge k f.length with h1 | h1
  · rw [getD_lt h1]; exact h _ (List.getElem_mem h1)
  · rw [List.getD_eq_getElem?_getD, List.getElem?_eq_none h1]
    show (0 : Int) ≤ 0 ∧ (0 : Int) < q
    omega
theorem sum_bd {q : Nat} {num den out : List Int} (hq : 2 ≤ q) (hq2 : q ≤ 97) (h1 : ∀ z ∈ num, 0 ≤ z ∧ z < (q : Int)) (h2 : ∀ z ∈ den, 0 ≤ z ∧ z < (q : Int)) (h3 : ∀ z ∈ out, 0 ≤ z ∧ z < (q : Int)) (k : Nat) : ∀ i : Nat, -(9409 * (i : Int)) ≤ sumT num den out k i ∧ sumT num den out k i ≤ 97
  | 0 => by
    have := getD_bd h1 hq k
    show _ ≤ num.getD k 0 ∧ num.getD k 0 ≤ 97
    omega
  | i + 1 => by
    have h := sum_bd hq hq2 h1 h2 h3 k i
    have a := getD_bd h2 hq (i + 1)
    have b := getD_bd h3 hq (k - (i + 1))
    show _ ≤ sumT num den out k i - den.getD (i + 1) 0 * out.getD (k - (i + 1)) 0 ∧ sumT num den out k i - den.getD (i + 1) 0 * out.getD (k - (i + 1)) 0 ≤ 97
    have c := mul_bd (X := 97) (Y := 97) a.1 (by omega) b.1 (by omega)
    generalize den.getD (i + 1) 0 * out.getD (k - (i + 1)) 0 = m at *
    omega
end Go.Proofs.YtpeaeminjbjlnaaDoor

/-
  Drawn relations, seldom bent. Conditions: small sizes.
-/
import Derived.Test.YtpeaeminjbjlnaaDoorMr02
import Derived.Deep.RegionHeld3
import Derived.Deep.RegionLaw
namespace Go.Proofs.YtpeaeminjbjlnaaDoor
open Go.RowKit
set_option linter.unusedVariables false

theorem ints_kept {b : Nat} {w w' : World} {a : Addr} {zs : List Int} (h : IntsAt w a zs) (hg : w.grownBy w' (some b)) (h1 : a.block ≠ b) (h2 : a.block < w.heap.size) : IntsAt w' a zs := fun i hi =>
  (World.cell?_of_block (w := w) (a := ⟨a.block, a.off + i, none⟩) (hg.block a.block h2 (by simpa using h1))).trans (h i hi)
theorem Sep.set31 {w : World} {l : List Asrt} {b : Nat} {x y z : Value} {t : TypeId} (h : Sep w (BxA b #[x, y, z] t :: l)) (x' : Value) : Sep (w.setCell ⟨b, 0, none⟩ x') (BxA b #[x', y, z] t :: l) := h.setB 0 x'
theorem Sep.set32 {w : World} {l : List Asrt} {b : Nat} {x y z : Value} {t : TypeId} (h : Sep w (BxA b #[x, y, z] t :: l)) (y' : Value) : Sep (w.setCell ⟨b, 1, none⟩ y') (BxA b #[x, y', z] t :: l) := h.setB 1 y'
/-- a relation that was seldom bent -/
def DBend (N b : Nat) (n : Int) (lst : List Asrt) (e : Ending) (w' : World) : Prop :=
  ∃ (l r : Int) (o : Value) (vs : List Value) (L : List (List Int)), e = .returned (rlV l r o) ∧ Small 1000 L ∧ Sep w' (OM o vs L :: CA N b n :: lst)
theorem fin_bend {N b r s : Nat} {n m l' r' : Int} {W : World} {o : Value} {vs : List Value} {L : List (List Int)} {cs cs2 : Array Value} {t : TypeId} {lst : List Asrt} (h : Sep W (OM o vs L :: CA N b m :: BxA r cs t :: BxA s cs2 t :: lst)) (hm : m ≤ n) (hs : Small 1000 L) (x y z : Value) :
    DBend N b n lst (.returned (rlV l' r' o)) (((W.setCell ⟨r, 0, none⟩ x).setCell ⟨r, 1, none⟩ y).setCell ⟨r, 2, none⟩ z) := by
  have h2 := (((h.s3.setB 0 x).setB 1 y).setB 2 z).tl
  have h3 := h2.s3.tl
  exact ⟨l', r', o, vs, L, rfl, hs, (h3.s2.more hm).s2⟩
theorem bend_small {L : List (List Int)} {k : Nat} {row : List Int} (h : Small 1000 L) (hr : row.length ≤ 1000) : Small 1000 (L.set k row) := ⟨by rw [List.length_set]; exact h.1, bend_len h.2 hr⟩

set_option maxRecDepth 100000 in
set_option maxHeartbeats 4000000 in
theorem rlBend_any {N : Nat} {lst : List Asrt} (p l0 r0 : Int) (b : Nat) (n : Int) (o : Value) (vs : List Value) (L : List (List Int)) (w : World) (h : Sep w (OM o vs L :: CA N b n :: lst)) (hl : L.length ≤ 24) (hll : ∀ row ∈ L, row.length = (l0 + r0).toNat) (hl0 : 0 ≤ l0) (hr0 : 0 ≤ r0) (hlr : l0 + r0 ≤ 24) (hn : n + 10000 ≤ 1000000000000) :
    Calls Tryd.prog 155 #[.pointer (some ⟨b, 0, none⟩), .int .i64 p, rlV l0 r0 o] w (DBend N b (n + 1000) lst) := by
  obtain ⟨a, rfl⟩ := Int.eq_ofNat_of_zero_le hl0
  obtain ⟨c, rfl⟩ := Int.eq_ofNat_of_zero_le hr0
  have hll' : ∀ row ∈ L, row.length = a + c := fun row hr => by rw [hll row hr]; omega
  have hmk := make_row (a + c) (by omega)
  have hmo := fun w1 => l1Most_any 0 ((a : Int) + (c : Int)) w1
  rw [show max 0 ((a : Int) + (c : Int)) = (a : Int) + (c : Int) by omega] at hmo
  rw [show (((a + c : Nat)) : Int) = (a : Int) + (c : Int) by omega] at hmk
  have HMO := Lib.hid hmo
  clear hmo
  obtain ⟨oa, oc, hoe, _, _⟩ := own_form (show OwnM 0 w o vs L from h.hd)
  subst hoe
  have HSM := Lib.hid (show Small 1000 L from ⟨by omega, fun row hr => by rw [hll' row hr]; omega⟩)
  have HLL := Lib.hid hll'
  unfold rlV
  generalize hlen : L.length = lim at *
  have HLEN := Lib.hid hlen
  have hS := ((h.box #[.int .i64 a, .int .i64 c, .slice oa lim oc] 65).box #[.int .i64 0, .int .i64 0, .slice none 0 0] 65)
  simp only [show ∀ (W : World) o, (W.alloc o).heap.size = W.heap.size + 1 from fun W o => by simp] at hS
  have HS := Lib.hid hS.s4.s4
  have hrs : w.heap.size + 1 ≠ w.heap.size := by omega
  clear h hll hll' hlen hS
  go_enter Tryd.func155, Tryd.ntmps155
  go_wp2_with fail
  generalize hrr : w.heap.size + 1 = r at *
  clear hrr
  generalize w.heap.size = s at *
  have hsr : s ≠ r := fun e => hrs e.symm
  refine (Bd.one_any 16 b _ _ HS.out.s2.hd (by omega) (by omega)).mono ?_
  rintro e w1 ⟨bv, rfl, c1, g1⟩
  have HS1 := Lib.hid (HS.out.s2.draw c1 g1).s2
  clear c1 g1
  obtain ⟨d0, d1, d2, d3, d4, d5⟩ := bx3 HS1.out.s4.hd
  obtain ⟨e0, e1, e2, e3, e4, e5⟩ := bx3 HS1.out.s3.hd
  cases bv
  · go_wp2
    refine bodyPost_ret_by (v := .agg #[.int .i64 a, .int .i64 c, .slice oa lim oc]) ?_ rfl ?_
    · simp [results, go_sem, *]
    · exact fin_bend HS1.out (by omega) HSM.out _ _ _
  · clear d0 d1 d2 d3 d4 d5 e0 e1 e2 e3 e4 e5
    go_wp2_with fail
    refine (Bd.pick_any 5 b _ _ HS1.out.s2.hd (by omega) (by omega)).mono ?_
    rintro e w3 ⟨x, rfl, ⟨x0, x1⟩, c3, g3⟩
    have HS3 := Lib.hid (HS1.out.s2.draw c3 g3).s2
    clear c3 g3
    obtain ⟨d0, d1, d2, d3, d4, d5⟩ := bx3 HS3.out.s4.hd
    obtain ⟨e0, e1, e2, e3, e4, e5⟩ := bx3 HS3.out.s3.hd
    by_cases h0 : x = 0
    · subst h0
      have HS4 := Lib.hid (HS3.out.s4.set31 (.int .i64 (a + 1))).s4.s4.s4
      go_wp2
      refine bodyPost_ret_by (v := .agg #[.int .i64 (a + 1), .int .i64 c, .slice oa lim oc]) ?_ rfl ?_
      · simp [results, go_sem, *]
      · exact fin_bend HS4.out (by omega) HSM.out _ _ _
    · by_cases h1 : x = 1
      · subst h1
        have HS4 := Lib.hid ((HS3.out.s4.set31 (.int .i64 (-1))).set32 (.int .i64 (c + 1))).s4.s4.s4
        go_wp2
        refine bodyPost_ret_by (v := .agg #[.int .i64 (-1), .int .i64 (c + 1), .slice oa lim oc]) ?_ rfl ?_
        · simp [results, go_sem, *]
        · exact fin_bend HS4.out (by omega) HSM.out _ _ _
      · by_cases h2 : x = 2
        · subst h2
          by_cases hl0 : lim = 0
          · subst hl0
            go_wp2
            refine bodyPost_ret_by (v := .agg #[.int .i64 a, .int .i64 c, .slice oa 0 oc]) ?_ rfl ?_
            · simp [results, go_sem, *]
            · exact fin_bend HS3.out (by omega) HSM.out _ _ _
          · have hl1 : (0 : Int) < (lim : Int) := by omega
            obtain ⟨g, gc, hge, _, _, _⟩ := HS3.out.hd.head (by intro h; have := HLEN.out; rw [h] at this; simp at this; omega)
            rw [HLEN.out] at hge
            cases hge
            by_cases hz0 : a + c = 0
            · have hc0 := HS3.out.hd.cell HLEN.out.symm (j := 0) (by rw [HLEN.out]; omega)
              obtain ⟨ar, cr, hre⟩ := own_shape (HS3.out.hd.row 0)
              rw [HLL.out _ (getD_mem (by rw [HLEN.out]; omega)), hz0] at hre
              rw [hre] at hc0
              clear hre
              go_wp2
              refine bodyPost_ret_by (v := .agg #[.int .i64 a, .int .i64 c, .slice (some ⟨g, 0, none⟩) lim oc]) ?_ rfl ?_
              · simp [results, go_sem, *]
              · exact fin_bend HS3.out (by omega) HSM.out _ _ _
            · have hz1 : (0 : Int) < ((a + c : Nat) : Int) := by omega
              obtain ⟨G, C, hGC⟩ := row_names HS3.out.hd HLL.out (by omega)
              rw [HLEN.out] at hGC
              have HGC := Lib.hid hGC
              clear hGC
              have hh0 := heads HS3.out HLEN.out HGC.out 0 (by omega)
              have HSS := Lib.hid fun W m (L' : List (List Int)) (hl' : L'.length = lim) (h : Sep W (OM (.slice (some ⟨g, 0, none⟩) lim oc) vs L' :: CA N b m :: BxA r #[.int .i64 0, .int .i64 0, .slice none 0 0] 65 :: BxA s #[.int .i64 a, .int .i64 c, .slice (some ⟨g, 0, none⟩) lim oc] 65 :: lst)) => And.intro (bx3 h.s4.hd).2.2.1 (heads h hl' HGC.out)
              generalize hnn : a + c = nn at *
              go_wp2_with fail
              refine (Bd.pick_any lim b _ _ HS3.out.s2.hd (by omega) (by omega)).mono ?_
              rintro e w5 ⟨k, rfl, ⟨hk0, hk1⟩, c5, g5⟩
              obtain ⟨k, rfl⟩ := Int.eq_ofNat_of_zero_le hk0
              have hkl : k < lim := by omega
              have hki : (k : Int) < (lim : Int) := by omega
              have HS5 := Lib.hid (HS3.out.s2.draw c5 g5).s2
              clear c5 g5 hk1 d0 d1 d2 d3 d4 d5 e0 e1 e2 e3 e4 e5 hh0
              have X5 := Lib.hid (HSS.out _ _ _ HLEN.out HS5.out.dr)
              have Y5 := Lib.hid fun ob => HSS.out _ _ _ HLEN.out (HS5.out.al ob).dr
              have HC5 := Lib.hid (show Bd.Cur N w5.drew b _ from HS5.out.dr.s2.hd)
              have HD5 := Lib.hid fun ob => (show Bd.Cur N (w5.alloc ob).drew b _ from (HS5.out.al ob).dr.s2.hd)
              have hb5 : w5.heap.size ≠ b := by have h5 := HS5.out.s2.hd.lt; omega
              go_wp2_with fail
              go_region_held3 (fun w' => w'.cell? ⟨s, 2, none⟩ = some (.slice (some ⟨g, 0, none⟩) lim oc) ∧ ∀ i, i < lim → w'.cell? ⟨g, i, none⟩ = some (.slice (some ⟨G i, 0, none⟩) nn (C i)))
                (first | with_reducible exact X5.out | with_reducible exact Y5.out _ | with_reducible exact X6.out | with_reducible exact Y6.out _ | with_reducible exact X7.out | with_reducible exact X8.out)
                (first
                  | (go_at_call 131
                     first
                       | (with_reducible refine (Bd.pick_any nn b _ _ HC5.out (by omega) (by omega)).mono ?_
                          rintro e w6 ⟨j, rfl, ⟨hj0, hj1⟩, c6, g6⟩
                          have HS6 := Lib.hid (HS5.out.dr.s2.draw c6 g6).s2)
                       | (with_reducible refine (Bd.pick_any nn b _ _ (HD5.out _) (by omega) (by omega)).mono ?_
                          rintro e w6 ⟨j, rfl, ⟨hj0, hj1⟩, c6, g6⟩
                          have HS6 := Lib.hid ((HS5.out.al _).dr.s2.draw c6 g6).s2
                          have Z6 := Lib.hid (ints_kept (a := ⟨w5.heap.size, 0, none⟩) (w := (w5.alloc (.cells (([1, 2, p, -1] : List Int).map (Value.int .i64)).toArray 3)).drew) (fun i hi => intsAt_new w5 [1, 2, p, -1] 3 i hi) g6 hb5 (show w5.heap.size < (w5.alloc _).heap.size by simp))
                          have L6 : w5.heap.size < w6.heap.size := Nat.lt_of_lt_of_le (show w5.heap.size < (w5.alloc _).heap.size by simp) g6.size)
                     obtain ⟨j, rfl⟩ := Int.eq_ofNat_of_zero_le hj0
                     have hjl : j < nn := by omega
                     have hji : (j : Int) < (nn : Int) := by omega
                     have X6 := Lib.hid (HSS.out _ _ _ HLEN.out HS6.out)
                     have Y6 := Lib.hid fun ob => HSS.out _ _ _ HLEN.out (HS6.out.al ob)
                     have HC6 := Lib.hid c6
                     clear c6 g6 hj1)
                  | (go_at_call 130
                     first
                       | (refine (Bd.among_any ⟨w5.heap.size, 0, none⟩ 4 [1, 2, p, -1] b _ _ HC6.out Z6.out (by simp) (by simp) rfl hb5 L6 (by omega)).mono ?_)
                       | (refine (Bd.among_new [1, 2, p, -1] 3 b _ w6 HC6.out (by simp) (by simp) (by omega)).mono ?_)
                     rintro e w7 ⟨z, rfl, hz, c7, g7⟩
                     have HS7 := Lib.hid (HS6.out.s2.draw c7 g7).s2
                     have X7 := Lib.hid (HSS.out _ _ _ HLEN.out HS7.out)
                     obtain ⟨old, t1, t2, t3⟩ := bend_elem HS7.out HLEN.out HGC.out HLL.out hkl hjl
                     have HS8 := Lib.hid (t3 z)
                     have X8 := Lib.hid (HSS.out _ _ _ (by rw [List.length_set]; exact HLEN.out) HS8.out)
                     clear c7 g7 hz t3))
              all_goals
                have HLR := Lib.hid (bend_small (k := k) (row := (L.getD k []).set j z) HSM.out (by rw [List.length_set]; exact HSM.out.2 _ (getD_mem (by rw [HLEN.out]; exact hkl))))
                obtain ⟨d0, d1, d2, d3, d4, d5⟩ := bx3 HS8.out.s4.hd
                obtain ⟨e0, e1, e2, e3, e4, e5⟩ := bx3 HS8.out.s3.hd
                generalize w7.setCell ⟨G k, j, none⟩ (.int .i64 z) = w8 at *
                clear t1 t2
                go_wp2
                refine bodyPost_ret_by (v := .agg #[.int .i64 a, .int .i64 c, .slice (some ⟨g, 0, none⟩) lim oc]) ?_ rfl ?_
                · simp [results, go_sem, *]
                · exact fin_bend HS8.out (by omega) HLR.out _ _ _
        · by_cases h3 : x = 3
          · subst h3
            have hwr : IntKind.i64.wrap ((a : Int) + (c : Int)) = (a : Int) + (c : Int) := by rw [IntKind.wrap_i64]; omega
            have HZ := Lib.hid (HS3.out.newI (grownBy_alloc w3 _ none) (row_made (a + c) (by omega) w3 (Nat.le_refl _))).dr
            have z1 := fun o => cell_alloc (w := w3) d2 o
            have z2 := fun o o' => cell_alloc (w := w3.alloc o) (z1 o) o'
            have z3 := fun o => cell_alloc (w := w3) d0 o
            have z4 := fun o => cell_alloc (w := w3) d1 o
            have HSZ := Lib.hid (show ((w3.alloc (.cells (zeroCells (a + c)) 3)).drew).heap.size = w3.heap.size + 1 by show (w3.alloc _).heap.size = _; simp)
            go_wp2_with fail
            go_region_law
              (first
                | (try go_simp
                   go_at_call 189
                   refine (HMO.out _).mono ?_
                   rintro e w' ⟨rfl, rfl⟩)
                | (go_loud (refine step_app_rowS (w := (w3.alloc (.cells (zeroCells (a + c)) 3)).drew) rfl (.tmp 71) (.tmp 79) rfl rfl (by rw [HSZ.out]; rfl) HZ.out (by rw [HLEN.out]; omega) ?_)
                   intro g6 vc6 w6 hs6
                   rw [HLEN.out] at hs6 ⊢
                   obtain ⟨k0, k1, k2, k3, k4, k5⟩ := bx3 hs6.s3.hd
                   obtain ⟨m0, m1, m2, m3, m4, m5⟩ := bx3 hs6.s4.hd
                   have HS6 := Lib.hid ((hs6.s4.setB3 (.slice (some ⟨g6, 0, none⟩) (lim + 1) vc6)).s4.s4.s4)
                   clear hs6))
            all_goals
              go_wp2
              refine bodyPost_ret_by (v := .agg #[.int .i64 a, .int .i64 c, .slice (some ⟨g6, 0, none⟩) (lim + 1) vc6]) ?_ rfl ?_
              · simp [results, go_sem, *]
              · exact fin_bend HS6.out (by omega) ⟨by rw [List.length_append, HLEN.out]; simp; omega, fun row hr => by
                  rcases List.mem_append.1 hr with h1 | h1
                  · exact HSM.out.2 row h1
                  · rw [List.mem_singleton] at h1; rw [h1, List.length_replicate]; omega⟩ _ _ _
          · have hx0 : (x == 0) = false := by rw [beq_eq_false_iff_ne]; exact h0
            have hx1 : (x == 1) = false := by rw [beq_eq_false_iff_ne]; exact h1
            have hx2 : (x == 2) = false := by rw [beq_eq_false_iff_ne]; exact h2
            have hx3 : (x == 3) = false := by rw [beq_eq_false_iff_ne]; exact h3
            clear h0 h1 h2 h3 x1 d0 d1 d2 d3 d4 d5 e0 e1 e2 e3 e4 e5
            go_wp2_with (
              go_at_call 130
              refine (Bd.among_new [4611686018427387904, 25, -1] _ b _ w3 HS3.out.s2.hd (by decide) (by decide) (by omega)).mono ?_
              rintro e w5 ⟨v, rfl, hv, c5, g5⟩
              have HS5 := Lib.hid (HS3.out.s2.draw c5 g5).s2
              obtain ⟨d0, d1, d2, d3, d4, d5⟩ := bx3 HS5.out.s4.hd
              obtain ⟨e0, e1, e2, e3, e4, e5⟩ := bx3 HS5.out.s3.hd
              have HS6 := Lib.hid (HS5.out.s4.set32 (.int .i64 v)).s4.s4.s4
              clear c5 g5 hv)
            refine bodyPost_ret_by (v := .agg #[.int .i64 a, .int .i64 v, .slice oa lim oc]) ?_ rfl ?_
            · simp [results, go_sem, *]
            · exact fin_bend HS6.out (by omega) HSM.out _ _ _
end Go.Proofs.YtpeaeminjbjlnaaDoor

/-
  Drawn matrices, seldom changed: the walk. Conditions: small sizes.
-/
import Derived.Test.YtpeaeminjbjlnaaDoorMj05
import Derived.Test.YtpeaeminjbjlnaaDoorMj04
import Derived.Test.YtpeaeminjbjlnaaDoorMk09
namespace Go.Proofs.YtpeaeminjbjlnaaDoor
open Go.RowKit
set_option linter.unusedVariables false

theorem ints_grown {b : Nat} {w w' : World} {a : Addr} {zs : List Int} (h : IntsAt w a zs) (hg : w.grownBy w' (some b)) (h1 : a.block ≠ b) (h2 : a.block < w.heap.size) : IntsAt w' a zs := fun i hi =>
  (World.cell?_of_block (w := w) (a := ⟨a.block, a.off + i, none⟩) (hg.block a.block h2 (by simpa using h1))).trans (h i hi)
theorem srow_drew {x g lim cn oc : Nat} {G C : Nat → Nat} {w : World} (h : SRow x g lim cn oc G C w) : SRow x g lim cn oc G C w.drew := h

set_option maxRecDepth 100000 in
set_option maxHeartbeats 4000000 in
theorem mxBend_any {N : Nat} (p cols : Int) (b B : Nat) (n : Int) (o : Value) (vs : List Value) (L : List (List Int)) (w : World) (hc : Bd.Cur N w b n) (ho : OwnM B w o vs L) (hl : L.length ≤ 24) (hll : ∀ row ∈ L, (row.length : Int) = cols) (hNB : N ≤ B) (hbB : b < B) (hBw : B ≤ w.heap.size)
    (hcl : 0 ≤ cols) (hcl2 : cols ≤ 24) (hp : -1000 ≤ p) (hp2 : p ≤ 1000) (hn0 : 0 ≤ n) (hn : n + 10000 ≤ 1000000000000) :
    Calls Tryd.prog 180 #[.pointer (some ⟨b, 0, none⟩), .int .i64 p, mxV cols o] w (BPost N b B w (n + 1000)) := by
  obtain ⟨cn, rfl⟩ := Int.eq_ofNat_of_zero_le hcl
  have hmk := make_row cn (by omega)
  have hle := fun w1 => l1Least_any (cn : Int) 30 w1
  have hmo := fun w1 => l1Most_any 0 (cn : Int) w1
  rw [show min (cn : Int) 30 = cn by omega] at hle
  rw [show max 0 (cn : Int) = cn by omega] at hmo
  have HLE := Lib.hid hle; have HMO := Lib.hid hmo
  clear hle hmo
  obtain ⟨oa, oc, hoe, hx⟩ := ho.read
  clear hx
  subst hoe
  have hb := blk2 w (Bx (.int .i64 cn) (.slice oa L.length oc)) (Bx (.int .i64 0) (.slice none 0 0)) (grownBy_refl _ none)
  have hg : w.grownBy ((w.alloc (Bx (.int .i64 cn) (.slice oa L.length oc))).alloc (Bx (.int .i64 0) (.slice none 0 0))) none := (grownBy_alloc _ _ none).trans (grownBy_alloc _ _ none)
  have hbm : BM 24 N b w.heap.size (w.heap.size + 1) B cn (.slice oa L.length oc) L.length w n ((w.alloc (Bx (.int .i64 cn) (.slice oa L.length oc))).alloc (Bx (.int .i64 0) (.slice none 0 0))) :=
    ⟨⟨vs, L, ho.carry hg, rfl, fun row hrow => by have := hll row hrow; omega⟩, hc.only (Only.of_grown (S := fun _ => False) hg (by simp)) (fun h => h) (fun _ h => h.elim), hb.1, hb.2.1, Only.of_grown hg (by simp), hNB, hbB, hBw, by omega, by omega⟩
  have HL := Lib.hid hll
  have HM := Lib.hid hbm
  unfold mxV
  generalize hlim : L.length = lim at *
  have HLIM := Lib.hid hlim
  clear hlim
  have HOW := Lib.hid ho; have HG1 := Lib.hid hg
  clear hc ho hbm hg hb hll
  go_enter Tryd.func180, Tryd.ntmps180
  go_wp2_with fail
  generalize hw1 : (w.alloc (Bx (.int .i64 cn) (.slice oa lim oc))).alloc (Bx (.int .i64 0) (.slice none 0 0)) = w1 at *
  clear hw1
  generalize hxe : w.heap.size = x at *
  generalize hye : x + 1 = y at *
  clear hxe
  have FIN := Lib.hid fun (c : Int) (v : Value) (l : Nat) (m : Int) (w' : World) (h : BM 24 N b x y B c v l w m w') => And.intro (box_facts h.box).1 (box_facts h.res).1
  refine (Bd.one_any 16 b n _ HM.out.cur (by decide) (by omega)).mono ?_
  rintro e w2 ⟨bend, rfl, c2, g2⟩
  have HM2 := Lib.hid (HM.out.draw c2 g2)
  have G2 := Lib.hid g2
  clear c2 g2
  have A2 := FIN.out _ _ _ _ _ HM2.out
  cases bend
  · go_wp2
    refine bodyPost_ret_by (v := .agg #[.int .i64 cn, .slice oa lim oc]) ?_ rfl ?_
    · simp [results, go_sem, *]
    · exact HM2.out.fin (by omega) (by omega) (by decide)
  · go_wp2_with fail
    refine (Bd.pick_any 5 b _ _ HM2.out.cur (by decide) (by omega)).mono ?_
    rintro e w3 ⟨v3, rfl, hv3, c3, g3⟩
    have HM3 := Lib.hid (HM2.out.draw c3 g3)
    have G3 := Lib.hid g3
    clear c3 g3 A2
    have A3 := FIN.out _ _ _ _ _ HM3.out
    have A3D := FIN.out _ _ _ _ _ HM3.out.drew
    by_cases h0 : v3 = 0
    · subst h0
      have HA := Lib.hid (Bd.among_new [(1 : Int), -1, 24, -30] 3 b _ w3.drew HM3.out.drew.cur (by decide) (by decide) (by omega))
      clear A3D
      have A3F := (box_facts HM3.out.box).2.1
      go_wp2_with fail
      go_region_with
        (first
          | (go_at_call 130
             refine HA.out.mono ?_
             rintro e w4 ⟨z, rfl, hz, c4, g4⟩
             have HM4 := Lib.hid (HM3.out.drew.draw c4 g4)
             have A4 := FIN.out _ _ _ _ _ HM4.out
             have hzb : -30 ≤ z ∧ z ≤ 24 := by simp at hz; omega
             have HS4 := Lib.hid (HM4.out.setCols (cn + z))
             have A5 := FIN.out _ _ _ _ _ HS4.out
             clear c4 g4 hz))
      all_goals
        go_wp2
        refine bodyPost_ret_by (v := .agg #[.int .i64 (cn + z), .slice oa lim oc]) ?_ rfl ?_
        · simp [results, go_sem, *]
        · exact HS4.out.fin (by omega) (by omega) (by decide)
    · by_cases h1 : v3 = 1
      · subst h1
        clear h0
        by_cases hl0 : lim = 0
        · have hlb : decide (0 < (lim : Int)) = false := decide_eq_false (by omega)
          clear A3D
          subst hl0
          go_wp2
          refine bodyPost_ret_by (v := .agg #[.int .i64 cn, .slice oa 0 oc]) ?_ rfl ?_
          · simp [results, go_sem, *]
          · exact HM3.out.fin (by omega) (by omega) (by decide)
        · by_cases hc0 : cn = 0
          · have hlb : decide (0 < (lim : Int)) = true := decide_eq_true (by omega)
            clear A3D
            subst hc0
            go_wp2
            refine bodyPost_ret_by (v := .agg #[.int .i64 0, .slice oa lim oc]) ?_ rfl ?_
            · simp [results, go_sem, *]
            · exact HM3.out.fin (by omega) (by omega) (by decide)
          · have hlp : 0 < lim := by omega
            have hcp : 0 < cn := by omega
            obtain ⟨g, cap, hve, hgB, hgw, _⟩ := HOW.out.head (by intro h; have := HLIM.out; rw [h] at this; simp at this; omega)
            rw [HLIM.out] at hve
            simp only [Value.slice.injEq, true_and] at hve
            obtain ⟨rfl, rfl⟩ := hve
            obtain ⟨G, C, hG⟩ := rows_of (cn := cn) HOW.out HLIM.out.symm (fun row hrow => by have := HL.out row hrow; omega) hcp
            have hg03 : w.grownBy w3 (some b) := by
              have h1 : w.grownBy w1 (some b) := ⟨HG1.out.os, HG1.out.tape, HG1.out.output, HG1.out.size, fun k hk _ => HG1.out.block k hk (by simp)⟩
              exact grownBy_trans (grownBy_trans h1 G2.out) G3.out
            have hgb : g ≠ b := by omega
            have hxb : x ≠ b := by have := HM3.out.bx; omega
            have XS3 := Lib.hid (show SRow x g lim cn oc G C w3 from ⟨A3.1.1, A3.1.2.1, fun i hi => (World.cell?_of_block (w := w) (a := ⟨g, i, none⟩) (hg03.block g hgw (by simpa using hgb))).trans (hG i hi)⟩)
            have X0 := Lib.hid (srow_drew XS3.out)
            have hxl := lt_of_blk HM3.out.box
            have hbx := HM3.out.bx
            clear A3D hg03 hG
            go_wp2_with fail
            clear A3
            go_region_held3 (fun w' => w'.cell? ⟨x, 0, none⟩ = some (.int .i64 cn) ∧ w'.cell? ⟨x, 1, none⟩ = some (.slice (some ⟨g, 0, none⟩) lim oc) ∧ ∀ i, i < lim → w'.cell? ⟨g, i, none⟩ = some (.slice (some ⟨G i, 0, none⟩) cn (C i)))
              (first | with_reducible exact X0.out | with_reducible exact X5.out | with_reducible exact X6.out | with_reducible exact X7.out | exact srow_set (by assumption) hgx hgg | exact srow_grown (by assumption) (grownBy_alloc _ _ _) hxb hgb)
              (first
                | (go_at_call 131
                   first
                     | (with_reducible refine (Bd.pick_any lim b (n + 2 + 2) _ HM3.out.drew.cur (by omega) (by omega)).mono ?_
                        rintro e w5 ⟨k, rfl, hk, c5, g5⟩
                        have HM5 := Lib.hid (HM3.out.drew.draw c5 g5)
                        have X5 := Lib.hid (srow_grown X0.out g5 hxb hgb))
                     | (with_reducible refine (Bd.pick_any lim b (n + 2 + 2) _ (HM3.out.carry (grownBy_alloc w3 _ none)).drew.cur (by omega) (by omega)).mono ?_
                        rintro e w5 ⟨k, rfl, hk, c5, g5⟩
                        have HM5 := Lib.hid ((HM3.out.carry (grownBy_alloc w3 _ none)).drew.draw c5 g5)
                        have X5 := Lib.hid (srow_grown (srow_drew (srow_grown XS3.out (grownBy_alloc w3 _ (some b)) hxb hgb)) g5 hxb hgb)
                        have Z5 := Lib.hid (ints_grown (a := ⟨w3.heap.size, 0, none⟩) (w := (w3.alloc (.cells (([-1, p, 4611686018427387904] : List Int).map (Value.int .i64)).toArray 3)).drew) (fun i hi => intsAt_new w3 [-1, p, 4611686018427387904] 3 i hi) g5 (show w3.heap.size ≠ b by omega) (show w3.heap.size < (w3.alloc _).heap.size by simp))
                        have L5 : w3.heap.size < w5.heap.size := Nat.lt_of_lt_of_le (show w3.heap.size < (w3.alloc _).heap.size by simp) g5.size)
                   obtain ⟨k, rfl⟩ := Int.eq_ofNat_of_zero_le hk.1
                   have hkl : k < lim := by omega
                   have hw5 : b < w5.heap.size := HM5.out.cur.lt
                   clear c5)
                | (go_at_call 131
                   first
                     | (with_reducible refine (Bd.pick_any cn b (n + 2 + 2 + 2) _ HM5.out.cur (by omega) (by omega)).mono ?_
                        rintro e w6 ⟨j, rfl, hj, c6, g6⟩
                        have HM6 := Lib.hid (HM5.out.draw c6 g6)
                        have X6 := Lib.hid (srow_grown X5.out g6 hxb hgb)
                        try have Z6 := Lib.hid (ints_grown Z5.out g6 (show w3.heap.size ≠ b by omega) L5))
                     | (with_reducible refine (Bd.pick_any cn b (n + 2 + 2 + 2) _ (HM5.out.carry (grownBy_alloc w5 _ none)).cur (by omega) (by omega)).mono ?_
                        rintro e w6 ⟨j, rfl, hj, c6, g6⟩
                        have HM6 := Lib.hid ((HM5.out.carry (grownBy_alloc w5 _ none)).draw c6 g6)
                        have X6 := Lib.hid (srow_grown (srow_grown X5.out (grownBy_alloc w5 _ (some b)) hxb hgb) g6 hxb hgb)
                        have Z6 := Lib.hid (ints_grown (a := ⟨w5.heap.size, 0, none⟩) (intsAt_new w5 [-1, p, 4611686018427387904] 3) g6 (show w5.heap.size ≠ b by omega) (by simp)))
                   obtain ⟨j, rfl⟩ := Int.eq_ofNat_of_zero_le hj.1
                   have hjc : j < cn := by omega
                   clear c6)
                | (go_at_call 130
                   first
                     | (refine (Bd.among_any _ 3 [-1, p, 4611686018427387904] b (n + 2 + 2 + 2 + 2) _ HM6.out.cur Z6.out (by simp) (by simp) rfl (by simp; omega) (by simp; first | exact Nat.lt_of_lt_of_le (by simp) g6.size | exact Nat.lt_of_lt_of_le L5 g6.size) (by omega)).mono ?_
                        rintro e w7 ⟨z, rfl, hz, c7, g7⟩
                        have HM7 := Lib.hid (HM6.out.draw c7 g7)
                        have X7 := Lib.hid (srow_grown X6.out g7 hxb hgb))
                     | (refine (Bd.among_new [-1, p, 4611686018427387904] 3 b (n + 2 + 2 + 2 + 2) w6 HM6.out.cur (by simp) (by simp) (by omega)).mono ?_
                        rintro e w7 ⟨z, rfl, hz, c7, g7⟩
                        have HM7 := Lib.hid (HM6.out.draw c7 g7)
                        have X7 := Lib.hid (srow_grown X6.out g7 hxb hgb))
                   obtain ⟨⟨z9, t1⟩, t2, hgx, hgg, t3⟩ := HM7.out.elemS (X7.out.2.2 k hkl) hkl hjc
                   have HM8 := Lib.hid (t3 z)
                   have A8 := (box_facts HM8.out.box).1
                   have A9 := (box_facts HM8.out.res).1
                   clear c7 g7 hz t3))
            all_goals
              go_wp2
              refine bodyPost_ret_by (v := .agg #[.int .i64 cn, .slice (some ⟨g, 0, none⟩) lim oc]) ?_ rfl ?_
              · simp [results, go_sem, *]
              · exact HM8.out.fin (by omega) (by omega) (by decide)
      · by_cases h2 : v3 = 2
        · subst h2
          clear h0 h1
          by_cases hl0 : lim = 0
          · have hlz : ((lim : Int) > 0) = False := by simp; omega
            have hlb : decide (0 < (lim : Int)) = false := decide_eq_false (by omega)
            subst hl0
            go_wp2
            refine bodyPost_ret_by (v := .agg #[.int .i64 cn, .slice oa 0 oc]) ?_ rfl ?_
            · simp [results, go_sem, *]
            · exact HM3.out.fin (by omega) (by omega) (by decide)
          · have hlp : 0 < lim := by omega
            go_wp2_with fail
            refine (Bd.pick_any lim b _ _ HM3.out.cur (by omega) (by omega)).mono ?_
            rintro e w5 ⟨k, rfl, hk, c5, g5⟩
            obtain ⟨k, rfl⟩ := Int.eq_ofNat_of_zero_le hk.1
            have hkl : k < lim := by omega
            have HM5 := Lib.hid (HM3.out.draw c5 g5)
            clear c5 g5 A3 A3D hk
            obtain ⟨vs5, L5, p1, p2, p3⟩ := HM5.out.ex
            obtain ⟨g, cap, hve, _, _, _⟩ := p1.head (by intro h; rw [h] at p2; simp at p2; omega)
            rw [p2] at hve
            simp only [Value.slice.injEq, true_and] at hve
            obtain ⟨rfl, rfl⟩ := hve
            obtain ⟨ak, ck, hrow⟩ := row_slice p1 k
            have hck := p1.cell p2.symm (j := k) (by omega)
            have hro := (p1.row k).only (Only.drew (fun _ => False) w5) (fun _ _ h => h)
            have hod := p1.only (Only.drew (fun _ => False) w5) (fun _ _ h => h)
            have hlk := p3 _ (getD_mem (show k < L5.length by omega))
            rw [hrow] at hck hro
            have Q1 := Lib.hid hod; have Q2 := Lib.hid p2; have Q3 := Lib.hid p3; have QR := Lib.hid hro; have QH := Lib.hid hrow
            clear p1 p2 p3 hro hod hrow
            generalize hrl : (L5.getD k []).length = rl at *
            have QL := Lib.hid hrl
            clear hrl
            have B5 := box_facts HM5.out.box
            have hck1 := fun o => cell_alloc hck o
            have hBs : B ≤ w5.heap.size := by
              have := lt_of_blk HM5.out.box
              have := HM5.out.bx
              omega
            go_wp2_with fail
            go_region_law
              (first
                | (go_loud (refine step_app_int (w := w5.drew) rfl _ _ rfl 0 rfl rfl QR.out hBs (by rw [QL.out]; omega) ?_)
                   intro g6 vc6 w6 hown' hon' hgg
                   rw [QL.out] at hown' ⊢
                   rw [← QH.out] at hon' hgg
                   obtain ⟨e6, d6, f6, hp6⟩ := HM5.out.rowGrown (grown_drew (grownBy_refl _ none)) Q1.out Q2.out Q3.out hkl (by rw [List.length_append, QL.out]; simp; omega) hown' hon' (fun q hq => by simp [Hits, Value.ownBlock] at hq; subst hq; exact hgg)
                   rw [QH.out] at d6
                   have A6 := (box_facts e6).1
                   have HM6 := Lib.hid hp6
                   have A7 := (box_facts HM6.out.box).1
                   have A8 := (box_facts HM6.out.res).1
                   clear e6 hp6 hown' hon' hgg))
            all_goals
              go_wp2
              refine bodyPost_ret_by (v := .agg #[.int .i64 cn, .slice (some ⟨g, 0, none⟩) lim oc]) ?_ rfl ?_
              · simp [results, go_sem, *]
              · exact HM6.out.fin (by omega) (by omega) (by decide)
        · by_cases h3 : v3 = 3
          · subst h3
            clear h0 h1 h2
            go_wp2_with fail
            go_loopg [] 30 (fun gh wr => ∃ (l : Nat) (v : Value), BM 24 N b x y B cn v l w (n + 10 + 2 * l) wr ∧ l ≤ 25 ∧ gh + l = 30 + lim)
            case atStart => exact ⟨lim, _, HM3.out.more (by omega), by omega, by omega⟩
            case round =>
              obtain ⟨l, v, hbm, hl25, hgl⟩ := hrel
              have HB := Lib.hid hbm
              obtain ⟨va, vc, hvs⟩ := hbm.shape
              subst hvs
              clear hbm
              have XB := Lib.hid (box_facts HB.out.drew.box).1
              have HPK := Lib.hid (Bd.pick_any 2 b _ wr.drew HB.out.drew.cur (by decide) (by omega))
              clear A3 A3D
              have S0 := Lib.hid (show wr.drew.cell? ⟨x, 1, none⟩ = some (.slice va l vc) from XB.out.2.1)
              go_wp2_with fail
              go_region_held3 (fun w' => w'.cell? ⟨x, 1, none⟩ = some (.slice va l vc)) (first | with_reducible exact S0.out | with_reducible exact S1.out)
                (first
                  | (go_at_call 131
                     with_reducible refine HPK.out.mono ?_
                     rintro e w5 ⟨z, rfl, hz, c5, g5⟩
                     have hz2 := hz.1
                     have hz3 : z < 2 := by omega
                     have hz4 : IntKind.i64.wrap (24 + z) = 24 + z := by rw [IntKind.wrap_i64]; omega
                     have HB5 := Lib.hid (HB.out.drew.draw c5 g5)
                     have S1 := Lib.hid ((box_facts HB5.out.box).1.2.1)
                     clear c5 g5))
              clear XB S0 S1 HPK hz
              have B5 := box_facts HB5.out.box
              by_cases hlt : (l : Int) < 24 + z
              · have hltb : decide ((l : Int) < 24 + z) = true := decide_eq_true hlt
                have hltw : decide ((l : Int) < IntKind.i64.wrap (24 + z)) = true := by rw [hz4]; exact hltb
                obtain ⟨vs5, L5, p1, p2, p3⟩ := HB5.out.ex
                have Q1 := Lib.hid p1; have Q2 := Lib.hid p2; have Q3 := Lib.hid p3
                clear p1 p2 p3
                go_wp2_with fail
                have hown := Q1.out.carry (grown_drew (grownBy_alloc w5 (.cells (zeroCells cn) 3) none))
                have hrow := (row_made (B := w5.heap.size) cn (by omega) w5 (Nat.le_refl _)).only (Only.drew (fun _ => False) _) (fun _ _ h => h)
                have HW := Lib.hid hown
                have HR := Lib.hid hrow
                have HAP := Lib.hid fun i => fresh_apart Q1.out hrow i
                have hBs : B ≤ w5.heap.size := by
                  have := lt_of_blk HB5.out.box
                  have := HB5.out.bx
                  omega
                have HSZ := Lib.hid (show ((w5.alloc (.cells (zeroCells cn) 3)).drew).heap.size = w5.heap.size + 1 by show (w5.alloc _).heap.size = _; simp)
                clear hown hrow
                go_region_law
                  (first
                    | (go_simp
                       go_at_call 190
                       refine (HLE.out _).mono ?_
                       rintro e w' ⟨rfl, rfl⟩)
                    | (go_simp
                       go_at_call 189
                       refine (HMO.out _).mono ?_
                       rintro e w' ⟨rfl, rfl⟩)
                    | (go_loud (refine step_app_row (w := (w5.alloc (.cells (zeroCells cn) 3)).drew) rfl _ _ rfl rfl (by rw [HSZ.out]; rfl) HW.out (HR.out.base hBs) HAP.out (by rw [HSZ.out]; exact Nat.le_succ_of_le hBs) (by rw [Q2.out]; omega) ?_)
                       intro g6 vc6 w6 hown' hon'
                       rw [Q2.out] at hown' ⊢
                       obtain ⟨e6, hp6⟩ := HB5.out.push (grown_drew (grownBy_alloc w5 _ none)) HW.out Q2.out Q3.out (by simp; omega) hown' hon'
                       have A6 := box_facts e6
                       have HB6 := Lib.hid hp6
                       clear e6 hp6 hown' hon'))
                all_goals
                  go_wp2
                  go_roundg (gk - 1)
                  case rel => exact ⟨l + 1, _, HB6.out.more (by omega), by omega, by omega⟩
                  case measure => omega
              · have hltb : decide ((l : Int) < 24 + z) = false := decide_eq_false hlt
                have hltw : decide ((l : Int) < IntKind.i64.wrap (24 + z)) = false := by rw [hz4]; exact hltb
                have A5 := And.intro B5.1 (box_facts HB5.out.res).1
                clear B5
                go_wp2
                refine bodyPost_ret_by (v := .agg #[.int .i64 cn, .slice va l vc]) ?_ rfl ?_
                · simp [results, go_sem, *]
                · exact HB5.out.fin (by omega) (by omega) (by decide)
          · have k0 : (v3 == 0) = false := beq_eq_false_iff_ne.2 h0
            have k1 : (v3 == 1) = false := beq_eq_false_iff_ne.2 h1
            have k2 : (v3 == 2) = false := beq_eq_false_iff_ne.2 h2
            have k3 : (v3 == 3) = false := beq_eq_false_iff_ne.2 h3
            go_wp2
            refine bodyPost_ret_by (v := .agg #[.int .i64 cn, .slice oa lim oc]) ?_ rfl ?_
            · simp [results, go_sem, *]
            · exact HM3.out.fin (by omega) (by omega) (by decide)

end Go.Proofs.YtpeaeminjbjlnaaDoor

/-
  The entry that draws two matrices. Conditions: the code is well laid.
-/
namespace Go.Proofs.YtpeaeminjbjlnaaDoor
open Go.RowKit
set_option linter.unusedVariables false

theorem only_grown {w w' : World} {b : Nat} (h : Only (fun k => k = b ∨ w.heap.size ≤ k) w w') : w.grownBy w' (some b) :=
  ⟨h.os, h.tape, h.output, h.size, fun k hk hn => h.block k hk (by
    rintro (e | e)
    · exact hn (by rw [e])
    · omega)⟩
/-- a drawn prime and two matrices -/
def DMul (w : World) (e : Ending) (w' : World) : Prop :=
  ∃ (p : Nat) (ca cb : Int) (o : Value) (vs : List Value) (L : List (List Int)) (u : Value) (us : List Value) (M : List (List Int)), e = .returned (.tuple #[.int .i64 p, mxV ca o, mxV cb u]) ∧ 2 ≤ p ∧ p ≤ 97 ∧ OwnM w.heap.size w' o vs L ∧ Small 1000 L ∧ OwnM w.heap.size w' u us M ∧ Small 1000 M ∧ w.grownBy w' none
set_option maxRecDepth 100000 in
set_option maxHeartbeats 4000000 in
theorem drawMulMatrices_any (cv : Value) (w : World) (hc : CodeAt w cv) : Calls Tryd.prog 61 #[cv] w (DMul w) := by
  have HS := Lib.hid (Sep.startD2 hc #[.int .i64 0, .slice none 0 0] #[.int .i64 0, .slice none 0 0] 39 39)
  have hs0 : ((w.alloc (.cells #[.int .i64 0, .slice none 0 0] 39)).alloc (.cells #[.int .i64 0, .slice none 0 0] 39)).heap.size = w.heap.size + 1 + 1 := by simp
  have hs00 : (w.alloc (.cells #[.int .i64 0, .slice none 0 0] 39)).heap.size = w.heap.size + 1 := by simp
  obtain ⟨a0, len, cap, rfl, _, _⟩ := hc
  go_enter Tryd.func61, Tryd.ntmps61
  go_wp2_with fail
  generalize ((w.alloc (.cells #[.int .i64 0, .slice none 0 0] 39)).alloc (.cells #[.int .i64 0, .slice none 0 0] 39)).alloc (.cells #[.slice a0 len cap, .int .i64 0, .int .u64 0] 140) = w0 at *
  generalize hN : w.heap.size = N at *
  refine (Bd.prime_any _ _ _ HS.out.hd (by omega)).mono ?_
  rintro e w1 ⟨p, rfl, hp, c1, g1⟩
  obtain ⟨q, rfl, hq2, hq97, hf⟩ := prime_fld hp
  have HS1 := Lib.hid (HS.out.draw c1 g1)
  clear hp c1 g1 hf
  go_wp2_with (first
    | (go_at_call 179
       go_loud (refine (mxSide_any _ _ _ HS1.out.hd (by omega)).mono ?_)
       rintro e w2 ⟨l, rfl, ⟨hl0, hl1⟩, c2, g2⟩
       obtain ⟨l, rfl⟩ := Int.eq_ofNat_of_zero_le hl0
       have hln : l ≤ 24 := by omega
       have HS2 := Lib.hid (HS1.out.draw c2 g2)
       clear c2 g2 hl0 hl1)
    | (go_at_call 179
       go_loud (refine (mxSide_any _ _ _ HS2.out.hd (by omega)).mono ?_)
       rintro e w3 ⟨m, rfl, ⟨hm0, hm1⟩, c2, g2⟩
       obtain ⟨m, rfl⟩ := Int.eq_ofNat_of_zero_le hm0
       have hmn : m ≤ 24 := by omega
       have HS3 := Lib.hid (HS2.out.draw c2 g2)
       clear c2 g2 hm0 hm1)
    | (go_at_call 181
       go_loud (refine (matrix_any q l m _ _ w3 HS3.out.hd (by omega) (by omega) (by omega) (by omega) (by omega) (by omega)).mono ?_)
       rintro e w4 ⟨o, vs, L, rfl, ho, hl, hok, c4, g4⟩
       have hb := HS3.out.hd.lt
       have hsz := g4.size
       have hb1 := mxBend_any q m (N + 1 + 1) w3.heap.size _ o vs L w4 c4 ho (by rw [hl]; exact hln) (fun row hr => by rw [(hok row hr).1]) (by omega) (by omega) hsz (by omega) (by omega) (by omega) (by omega) (by omega) (by omega)
       obtain ⟨oa, oc, hoe, _, _⟩ := own_form ho
       subst hoe
       unfold mxV at hb1 ⊢
       have HB1 := Lib.hid hb1; have HG4 := Lib.hid g4
       clear ho hl hok c4 g4 hb1 hb hsz)
    | (go_at_call 180
       go_loud (with_reducible refine HB1.out.mono ?_)
       rintro e w5 ⟨c5, o5, vs5, L5, rfl, ho5, hl5, hll5, c5', hon⟩
       obtain ⟨oa5, oc5, hoe, _, _⟩ := own_form ho5
       subst hoe
       have HS5 := Lib.hid (HS3.out.drawM c5' (only_grown (((Only.of_grown (S := (· = N + 1 + 1)) HG4.out fun k hk => (Option.some.inj hk).symm).mono fun k hk => Or.inl hk).trans hon)) ho5)
       have HSM5 := Lib.hid (show Small 1000 L5 from ⟨hl5, hll5⟩)
       unfold mxV
       generalize L5.length = l5 at *
       have HS6 := Lib.hid (HS5.out.box #[.int .i64 c5, .slice oa5 l5 oc5] 39).s3
       clear ho5 hl5 hll5 hon c5'))
  generalize hw6 : w5.alloc (.cells #[.int .i64 c5, .slice oa5 l5 oc5] 39) = w6 at *
  clear hw6
  generalize w5.heap.size = ka at *
  have XA := Lib.hid fun W k (lst : List Asrt) (h : Sep W (CA N (N + 1 + 1) k :: BxA ka #[.int .i64 c5, .slice oa5 l5 oc5] 39 :: lst)) => And.intro (bx h.s2.hd).1 (bx h.s2.hd).2.1
  have HD := Lib.hid HS6.out.dr
  have X0 := Lib.hid (XA.out _ _ _ HD.out)
  have HCU := Lib.hid (show Bd.Cur N w6.drew (N + 1 + 1) _ from HD.out.hd)
  go_wp2_with fail
  go_region_held3 (fun w' => w'.cell? ⟨ka, 0, none⟩ = some (.int .i64 c5) ∧ w'.cell? ⟨ka, 1, none⟩ = some (.slice oa5 l5 oc5))
    (first | with_reducible exact X0.out | with_reducible exact X1.out | with_reducible exact X2.out | with_reducible exact X3.out | with_reducible exact X4.out | with_reducible exact X5.out)
    (first
      | (go_at_call 179
         go_loud (with_reducible refine (mxSide_any _ _ _ HCU.out (by omega)).mono ?_)
         rintro e w7 ⟨r, rfl, ⟨hr0, hr1⟩, c2, g2⟩
         obtain ⟨r, rfl⟩ := Int.eq_ofNat_of_zero_le hr0
         have hrn : r ≤ 24 := by omega
         have HS7 := Lib.hid (HD.out.draw c2 g2)
         have X1 := Lib.hid (XA.out _ _ _ HS7.out)
         clear c2 g2 hr0 hr1)
      | (go_at_call 181
         go_loud (refine (matrix_any q m r _ _ w7 HS7.out.hd (by omega) (by omega) (by omega) (by omega) (by omega) (by omega)).mono ?_)
         rintro e w8 ⟨o8, vs8, L8, rfl, ho, hl, hok, c8, g8⟩
         have hb := HS7.out.hd.lt
         have hsz := g8.size
         have hb1 := mxBend_any q r (N + 1 + 1) w7.heap.size _ o8 vs8 L8 w8 c8 ho (by rw [hl]; exact hmn) (fun row hr => by rw [(hok row hr).1]) (by omega) (by omega) hsz (by omega) (by omega) (by omega) (by omega) (by omega) (by omega)
         have X2 := Lib.hid (XA.out _ _ _ (HS7.out.draw c8 g8))
         obtain ⟨oa8, oc8, hoe, _, _⟩ := own_form ho
         subst hoe
         unfold mxV at hb1 ⊢
         have HB2 := Lib.hid hb1; have HG8 := Lib.hid g8
         clear ho hl hok c8 g8 hb1 hb hsz)
      | (go_at_call 180
         go_loud (with_reducible refine HB2.out.mono ?_)
         rintro e w9 ⟨c9, o9, vs9, L9, rfl, ho9, hl9, hll9, c9', hon⟩
         obtain ⟨oa9, oc9, hoe, _, _⟩ := own_form ho9
         subst hoe
         have h9 := HS7.out.drawM c9' (only_grown (((Only.of_grown (S := (· = N + 1 + 1)) HG8.out fun k hk => (Option.some.inj hk).symm).mono fun k hk => Or.inl hk).trans hon)) ho9
         have HSM9 := Lib.hid (show Small 1000 L9 from ⟨hl9, hll9⟩)
         unfold mxV
         generalize L9.length = l9 at *
         have X3 := Lib.hid (XA.out _ _ _ h9.tl)
         obtain ⟨k0, k1, k2, k3⟩ := bx h9.s6.hd
         have h10 := (h9.s6.setB 0 (.int .i64 c5)).setB 1 (.slice oa5 l5 oc5)
         have X4 := Lib.hid (XA.out _ _ _ h10.tl.tl)
         obtain ⟨m0, m1, m2, m3⟩ := bx h10.s6.hd
         have h11 := (h10.s6.setB 0 (.int .i64 c9)).setB 1 (.slice oa9 l9 oc9)
         have X5 := Lib.hid (XA.out _ _ _ h11.tl.tl.tl)
         have HS15 := Lib.hid h11
         clear ho9 hl9 hll9 hon c9' h9 h10 h11))
  all_goals
    obtain ⟨v0, v1, _, _⟩ := bx HS15.out.hd
    obtain ⟨v2, v3, _, _⟩ := bx HS15.out.s2.hd
    have HFI := Lib.hid (And.intro HS15.out.tl.tl.drop2.drop2.drop2.mat (And.intro HS15.out.tl.tl.tl.tl.tl.mat (show w.grownBy _ none from HS15.out.tl.tl.tl.tl.tl.tl.hd)))
    go_wp2_with fail
    refine bodyPost_ret_by (v := .tuple #[.int .i64 q, .agg #[.int .i64 c5, .slice oa5 l5 oc5], .agg #[.int .i64 c9, .slice oa9 l9 oc9]]) ?_ rfl ⟨q, c5, c9, _, vs5, L5, _, vs9, L9, rfl, hq2, hq97, HFI.out.2.1, HSM5.out, HFI.out.1, HSM9.out, HFI.out.2.2⟩
    simp [results, go_sem, *]
end Go.Proofs.YtpeaeminjbjlnaaDoor

/-
  The drawn arguments of the law of row reduction. Conditions: the code reads as bytes.
-/
namespace Go.Proofs.YtpeaeminjbjlnaaDoor
open Go.RowKit
set_option linter.unusedVariables false

set_option maxRecDepth 100000 in
set_option maxHeartbeats 1000000 in
theorem anyMatrix_any {N : Nat} (p : Int) (b : Nat) (n : Int) (w : World) (hc : Bd.Cur N w b n) (hp : 1 ≤ p) (hp2 : p ≤ 1000) (hn0 : 0 ≤ n) (hn : n + 30000 ≤ 1000000000000) :
    Calls Tryd.prog 188 #[.pointer (some ⟨b, 0, none⟩), .int .i64 p] w fun e w' => ∃ (cols : Int) (o : Value) (vs : List Value) (L : List (List Int)), e = .returned (mxV cols o) ∧ OwnM w.heap.size w' o vs L ∧ L.length ≤ 1000 ∧ (∀ row ∈ L, row.length ≤ 1000) ∧ w.grownBy w' (some b) := by
  have hbw := hc.lt
  have hNw := hc.nb
  have HC := Lib.hid (hc.alloc (.cells #[.int .i64 0, .slice none 0 0] 39))
  clear hc
  go_enter Tryd.func188, Tryd.ntmps188
  go_wp2_with fail
  have hr := alloc_heap_new w (.cells #[.int .i64 0, .slice none 0 0] 39)
  have hg0 := grownBy_alloc w (.cells #[.int .i64 0, .slice none 0 0] 39) (some b)
  have hs0 : (w.alloc (.cells #[.int .i64 0, .slice none 0 0] 39)).heap.size = w.heap.size + 1 := by simp
  generalize w.alloc (.cells #[.int .i64 0, .slice none 0 0] 39) = w0 at *
  have HR := Lib.hid hr; have HG0 := Lib.hid hg0
  clear hr hg0
  with_reducible refine (mxSide_any b n _ HC.out (by omega)).mono ?_
  rintro e w1 ⟨rows, rfl, ⟨hr0, hr1⟩, c1, g1⟩
  obtain ⟨rows, rfl⟩ := Int.eq_ofNat_of_zero_le hr0
  have C1 := Lib.hid c1; have G1 := Lib.hid g1
  have s1 := g1.size
  clear c1 g1 hr0
  go_wp2_with fail
  with_reducible refine (mxSide_any b (n + 2) _ C1.out (by omega)).mono ?_
  rintro e w2 ⟨cols, rfl, ⟨hc0, hc1⟩, c2, g2⟩
  obtain ⟨cols, rfl⟩ := Int.eq_ofNat_of_zero_le hc0
  have C2 := Lib.hid c2; have G2 := Lib.hid g2
  have s2 := g2.size
  clear c2 g2 hc0
  go_wp2_with fail
  with_reducible refine (matrix_any p rows cols b (n + 2 + 2) _ C2.out hp hp2 (by omega) (by omega) (by omega) (by omega)).mono ?_
  rintro e w3 ⟨o, vs, L, rfl, ho, hl, hok, c3, g3⟩
  have C3 := Lib.hid c3; have G3 := Lib.hid g3; have HO := Lib.hid ho
  have s3 := g3.size
  have HB := Lib.hid (mxBend_any p (cols : Int) b w2.heap.size (n + 2 + 2 + 10000) o vs L w3 c3 ho (by omega) (fun row hrow => by rw [(hok row hrow).1]) (by omega) (by omega) (by omega) (by omega) (by omega) (by omega) (by omega) (by omega) (by omega))
  obtain ⟨oa, oc, hoe, hx⟩ := ho.read
  clear hx
  subst hoe
  clear c3 g3 ho hl hok
  unfold mxV at HB ⊢
  go_wp2_with fail
  with_reducible refine HB.out.mono ?_
  rintro e w4 ⟨cols4, o4, vs4, L4, rfl, h1, h2, h3, h4, h5⟩
  obtain ⟨oa4, oc4, hoe4, hx⟩ := h1.read
  clear hx
  subst hoe4
  have hrr := (G3.out.block w.heap.size (by omega) (by simp; omega)).trans ((G2.out.block w.heap.size (by omega) (by simp; omega)).trans ((G1.out.block w.heap.size (by omega) (by simp; omega)).trans HR.out))
  have hr4 := (h5.block w.heap.size (by omega) (by omega)).trans hrr
  have b4 := (box_facts hr4).1
  have H1 := Lib.hid h1; have H5 := Lib.hid h5; have H2 := Lib.hid h2; have H3 := Lib.hid h3
  clear h1 h2 h3 h4 h5 hrr hr4
  unfold mxV
  generalize hgl : L4.length = l4 at *
  have HGL := Lib.hid hgl
  clear hgl
  go_wp2
  refine bodyPost_ret_by (v := .agg #[.int .i64 cols4, .slice oa4 l4 oc4]) ?_ rfl ?_
  · simp [results, go_sem, *]
  · have o5 := one_set (w := w4) w.heap.size (.int .i64 cols4) (.slice oa4 l4 oc4)
    refine ⟨cols4, _, vs4, L4, rfl, (H1.out.only o5 fun k hk hk' => by have := (H1.out.lt hk).1; omega).base (by omega), by rw [HGL.out]; exact H2.out, H3.out, ?_⟩
    have g := grownBy_trans (grownBy_trans (grownBy_trans HG0.out G1.out) G2.out) G3.out
    have ho := ((Only.of_grown (S := fun k => k = b ∨ w.heap.size ≤ k) g (fun k hk => Or.inl (Option.some.inj hk).symm)).trans (H5.out.mono (S' := fun k => k = b ∨ w.heap.size ≤ k) fun k hk => by omega)).trans (o5.mono (S' := fun k => k = b ∨ w.heap.size ≤ k) fun k hk => Or.inr (by omega))
    exact ⟨ho.os, ho.tape, ho.output, ho.size, fun k hk hk2 => ho.block k hk (by rintro (h | h); exact hk2 (by rw [h]); omega)⟩

def DMat (w : World) (e : Ending) (w' : World) : Prop :=
  ∃ (p cols : Int) (o : Value) (vs : List Value) (L : List (List Int)), e = .returned (.tuple #[.int .i64 p, mxV cols o]) ∧ anyP p ∧ OwnM w.heap.size w' o vs L ∧ L.length ≤ 1000 ∧ (∀ row ∈ L, row.length ≤ 1000) ∧ w.grownBy w' none

set_option maxRecDepth 100000 in
set_option maxHeartbeats 1000000 in
theorem drawIsMatrix_any (cv : Value) (w : World) (hc : CodeAt w cv) : Calls Tryd.prog 116 #[cv] w (DMat w) := by
  have hs0 : (w.alloc (.cells #[.int .i64 0, .slice none 0 0] 39)).heap.size = w.heap.size + 1 := by simp
  have hn := Bd.Cur.start (hc.carry (grownBy_alloc w (.cells #[.int .i64 0, .slice none 0 0] 39) none))
  obtain ⟨a0, len, cap, rfl, _, _⟩ := hc
  have hr := alloc_heap_new w (.cells #[.int .i64 0, .slice none 0 0] 39)
  have hr2 := (alloc_heap_old (w.alloc (.cells #[.int .i64 0, .slice none 0 0] 39)) (.cells #[.slice a0 len cap, .int .i64 0, .int .u64 0] 140) w.heap.size (by omega)).trans hr
  have hg0 := (grownBy_alloc w (.cells #[.int .i64 0, .slice none 0 0] 39) none).trans (grownBy_alloc (w.alloc (.cells #[.int .i64 0, .slice none 0 0] 39)) (.cells #[.slice a0 len cap, .int .i64 0, .int .u64 0] 140) none)
  rw [hs0] at hn
  have HN := Lib.hid hn; have HR := Lib.hid hr2; have HG0 := Lib.hid hg0
  have hs1 : ((w.alloc (.cells #[.int .i64 0, .slice none 0 0] 39)).alloc (.cells #[.slice a0 len cap, .int .i64 0, .int .u64 0] 140)).heap.size = w.heap.size + 1 + 1 := by simp
  clear hn hr hr2 hg0 hs0
  go_enter Tryd.func116, Tryd.ntmps116
  go_wp2_with fail
  generalize (w.alloc (.cells #[.int .i64 0, .slice none 0 0] 39)).alloc (.cells #[.slice a0 len cap, .int .i64 0, .int .u64 0] 140) = w0 at *
  refine (Bd.anyPrime_any _ _ _ HN.out (by omega)).mono ?_
  rintro e w1 ⟨p, rfl, hp, c1, g1⟩
  have hpb := anyP_bd hp
  have HP := Lib.hid hp; have C1 := Lib.hid c1; have G1 := Lib.hid g1
  have s1 := g1.size
  clear hp c1 g1
  go_wp2_with (first
    | (go_at_call 189; refine (l1Most_any _ _ _).mono ?_; rintro e w' ⟨rfl, rfl⟩)
    | (go_at_call 188
       go_loud (refine (anyMatrix_any _ _ _ _ C1.out (by omega) (by omega) (by omega) (by omega)).mono ?_)
       rintro e w2 ⟨cols, o, vs, L, rfl, ho, hl, hll, g2⟩
       obtain ⟨oa, oc, hoe, hx⟩ := ho.read
       clear hx
       subst hoe
       have q2 := (g2.block w.heap.size (by omega) (by simp)).trans ((G1.out.block w.heap.size (by omega) (by simp)).trans HR.out)
       have b2 := (box_facts q2).1
       have HO := Lib.hid ho; have HL := Lib.hid hl; have HLL := Lib.hid hll; have G2 := Lib.hid g2
       clear ho hl hll g2 q2
       unfold mxV
       generalize hgl : L.length = l at *
       have HGL := Lib.hid hgl
       clear hgl))
  refine bodyPost_ret_by (v := .tuple #[.int .i64 p, .agg #[.int .i64 cols, .slice oa l oc]]) ?_ rfl ?_
  · simp [results, go_sem, *]
  · have o5 := one_set (w := w2) w.heap.size (.int .i64 cols) (.slice oa l oc)
    refine ⟨p, cols, _, vs, L, rfl, HP.out, (HO.out.only o5 fun k hk hk' => by have := (HO.out.lt hk).1; omega).base (by omega), by rw [HGL.out]; exact HL.out, HLL.out, ?_⟩
    have g := grownBy_trans G1.out G2.out
    have ho := ((Only.of_grown (S := fun k => w.heap.size ≤ k) HG0.out (by simp)).trans (Only.of_grown (S := fun k => w.heap.size ≤ k) g (fun k hk => by have := Option.some.inj hk; omega))).trans (o5.mono (S' := fun k => w.heap.size ≤ k) fun k hk => by omega)
    exact ⟨ho.os, ho.tape, ho.output, ho.size, fun k hk _ => ho.block k hk (by omega)⟩

set_option maxRecDepth 100000 in
set_option maxHeartbeats 1000000 in
theorem drawRowReduce_any (cv : Value) (w : World) (hc : CodeAt w cv) : Calls Tryd.prog 25 #[cv] w (DMat w) := by
  have hs0 : (w.alloc (.cells #[.int .i64 0, .slice none 0 0] 39)).heap.size = w.heap.size + 1 := by simp
  have HD := Lib.hid (drawIsMatrix_any cv _ (hc.carry (grownBy_alloc w (.cells #[.int .i64 0, .slice none 0 0] 39) none)))
  obtain ⟨a0, len, cap, rfl, _, _⟩ := hc
  have HR := Lib.hid (alloc_heap_new w (.cells #[.int .i64 0, .slice none 0 0] 39))
  have HG0 := Lib.hid (grownBy_alloc w (.cells #[.int .i64 0, .slice none 0 0] 39) none)
  go_enter Tryd.func25, Tryd.ntmps25
  go_wp2_with fail
  refine HD.out.mono ?_
  rintro e w2 ⟨p, cols, o, vs, L, rfl, hp, ho, hl, hll, g2⟩
  obtain ⟨oa, oc, hoe, hx⟩ := ho.read
  clear hx
  subst hoe
  have q2 := (g2.block w.heap.size (by omega) (by simp)).trans HR.out
  have b2 := (box_facts q2).1
  have HO := Lib.hid ho; have HL := Lib.hid hl; have HLL := Lib.hid hll; have G2 := Lib.hid g2; have HP := Lib.hid hp
  clear ho hl hll g2 q2 hp
  unfold mxV
  generalize hgl : L.length = l at *
  have HGL := Lib.hid hgl
  clear hgl
  go_wp2
  refine bodyPost_ret_by (v := .tuple #[.int .i64 p, .agg #[.int .i64 cols, .slice oa l oc]]) ?_ rfl ?_
  · simp [results, go_sem, *]
  · have o5 := one_set (w := w2) w.heap.size (.int .i64 cols) (.slice oa l oc)
    refine ⟨p, cols, _, vs, L, rfl, HP.out, (HO.out.only o5 fun k hk hk' => by have := (HO.out.lt hk).1; omega).base (by omega), by rw [HGL.out]; exact HL.out, HLL.out, ?_⟩
    have ho := (Only.of_grown (S := fun k => w.heap.size ≤ k) (HG0.out.trans G2.out) (by simp)).trans (o5.mono (S' := fun k => w.heap.size ≤ k) fun k hk => by omega)
    exact ⟨ho.os, ho.tape, ho.output, ho.size, fun k hk _ => ho.block k hk (by omega)⟩

end Go.Proofs.YtpeaeminjbjlnaaDoor

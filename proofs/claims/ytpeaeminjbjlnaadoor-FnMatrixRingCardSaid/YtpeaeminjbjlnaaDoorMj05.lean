/-
  Drawn matrices: the walk of the drawing. Conditions: small sizes.
-/
import Derived.Test.YtpeaeminjbjlnaaDoorMk16
import Derived.Deep.CutRange
import Derived.Test.YtpeaeminjbjlnaaDoorMk18
import Derived.Deep.LoopGhost
namespace Go.Proofs.YtpeaeminjbjlnaaDoor
open Go.RowKit
set_option linter.unusedVariables false

theorem dm_held {w : World} {q g k gi j : Nat} {x y u : Value} (h : w.cell? ⟨q, 1, none⟩ = some x ∧ w.cell? ⟨g, k, none⟩ = some y) (h1 : gi ≠ q) (h2 : gi ≠ g) :
    (w.setCell ⟨gi, j, none⟩ u).cell? ⟨q, 1, none⟩ = some x ∧ (w.setCell ⟨gi, j, none⟩ u).cell? ⟨g, k, none⟩ = some y := by
  have e1 : (w.setCell ⟨gi, j, none⟩ u).heap[q]? = w.heap[q]? := Below.heap_setCell _ _ _ _ (Ne.symm h1)
  have e2 : (w.setCell ⟨gi, j, none⟩ u).heap[g]? = w.heap[g]? := Below.heap_setCell _ _ _ _ (Ne.symm h2)
  exact ⟨(World.cell?_of_block (a := ⟨q, 1, none⟩) e1).trans h.1, (World.cell?_of_block (a := ⟨g, k, none⟩) e2).trans h.2⟩
theorem dm_held2 {w : World} {q g k l gi gl i j : Nat} {x y z t u : Value} (h : w.cell? ⟨q, 1, none⟩ = some x ∧ w.cell? ⟨g, k, none⟩ = some y ∧ w.cell? ⟨g, l, none⟩ = some z ∧ w.cell? ⟨gl, i, none⟩ = some t) (h1 : gi ≠ q) (h2 : gi ≠ g) (h3 : gi ≠ gl) :
    (w.setCell ⟨gi, j, none⟩ u).cell? ⟨q, 1, none⟩ = some x ∧ (w.setCell ⟨gi, j, none⟩ u).cell? ⟨g, k, none⟩ = some y ∧ (w.setCell ⟨gi, j, none⟩ u).cell? ⟨g, l, none⟩ = some z ∧ (w.setCell ⟨gi, j, none⟩ u).cell? ⟨gl, i, none⟩ = some t := by
  have e3 : (w.setCell ⟨gi, j, none⟩ u).heap[gl]? = w.heap[gl]? := Below.heap_setCell _ _ _ _ (Ne.symm h3)
  have a := dm_held (gi := gi) (j := j) (u := u) ⟨h.1, h.2.1⟩ h1 h2
  have b := dm_held (gi := gi) (j := j) (u := u) ⟨h.1, h.2.2.1⟩ h1 h2
  exact ⟨a.1, a.2, b.2, (World.cell?_of_block (a := ⟨gl, i, none⟩) e3).trans h.2.2.2⟩

theorem DM.store {N b q r B : Nat} {p : Int} {rows cols : Nat} {v : Value} {vs : List Value} {w0 : World} {n : Int} {L : List (List Int)} {w : World} (h : DM N b q r B p rows cols v vs w0 n L w) {i j : Nat} (hi : i < rows) (hj : j < cols) :
    ∃ g cap gi ci, v = .slice (some ⟨g, 0, none⟩) rows cap ∧ gi ≠ q ∧ gi ≠ g ∧ (w.cell? ⟨q, 1, none⟩ = some v ∧ w.cell? ⟨g, i, none⟩ = some (.slice (some ⟨gi, 0, none⟩) cols ci)) ∧ (∃ z, w.cell? ⟨gi, j, none⟩ = some (.int .i64 z) ∧ 0 ≤ z ∧ z < p) ∧
      ∀ m w', Bd.Cur N w' b m → w.grownBy w' (some b) → (w'.cell? ⟨q, 1, none⟩ = some v ∧ w'.cell? ⟨g, i, none⟩ = some (.slice (some ⟨gi, 0, none⟩) cols ci)) ∧ (∃ z, w'.cell? ⟨gi, j, none⟩ = some z) ∧ w'.frozen? ⟨gi, j, none⟩ = false ∧
        ∀ x, 0 ≤ x → x < p → ∃ L', DM N b q r B p rows cols v vs w0 m L' (w'.setCell ⟨gi, j, none⟩ (.int .i64 x)) := by
  obtain ⟨g, cap, gi, ci, hv, a1, a2, a3, a4, d0, d1, d2, d3, hval, hh, d4⟩ := h.put hi hj
  refine ⟨g, cap, gi, ci, hv, a2, a1, ⟨d0, d1⟩, ⟨_, d2, hval⟩, fun m w' hc hg => ?_⟩
  have h' := h.draw hc hg
  obtain ⟨g', cap', gi', ci', hv', b1, b2, b3, b4, e0, e1, e2, e3, hval', hh', e4⟩ := h'.put hi hj
  rw [hv] at hv'
  simp only [Value.slice.injEq, Option.some.injEq, Addr.mk.injEq, and_true, true_and] at hv'
  obtain ⟨rfl, rfl⟩ := hv'
  have ht : w'.cell? ⟨g, i, none⟩ = w.cell? ⟨g, i, none⟩ := World.cell?_of_block (a := ⟨g, i, none⟩) (hg.block g (World.block_lt_of_cell? w ⟨g, i, none⟩ d1) (by simpa using a3))
  rw [e1, d1] at ht
  simp only [Option.some.injEq, Value.slice.injEq, Addr.mk.injEq, and_true, true_and] at ht
  obtain ⟨rfl, rfl⟩ := ht
  exact ⟨⟨e0, e1⟩, ⟨_, e2⟩, e3, fun x hx0 hx1 => ⟨_, e4 x hx0 hx1⟩⟩
theorem DM.store2 {N b q r B : Nat} {p : Int} {rows cols : Nat} {v : Value} {vs : List Value} {w0 : World} {n : Int} {L : List (List Int)} {w : World} (h : DM N b q r B p rows cols v vs w0 n L w) {i l j : Nat} (hi : i < rows) (hl : l < rows) (hne : i ≠ l) (hj : j < cols) :
    ∃ g cap gi ci gl cl z, v = .slice (some ⟨g, 0, none⟩) rows cap ∧ gi ≠ q ∧ gi ≠ g ∧ gi ≠ gl ∧ (w.cell? ⟨q, 1, none⟩ = some v ∧ w.cell? ⟨g, i, none⟩ = some (.slice (some ⟨gi, 0, none⟩) cols ci) ∧ w.cell? ⟨g, l, none⟩ = some (.slice (some ⟨gl, 0, none⟩) cols cl) ∧ w.cell? ⟨gl, j, none⟩ = some (.int .i64 z)) ∧ (0 ≤ z ∧ z < p) ∧
      (∃ z, w.cell? ⟨gi, j, none⟩ = some z) ∧ w.frozen? ⟨gi, j, none⟩ = false ∧ ∀ x, 0 ≤ x → x < p → ∃ L', DM N b q r B p rows cols v vs w0 n L' (w.setCell ⟨gi, j, none⟩ (.int .i64 x)) := by
  obtain ⟨g, cap, gi, ci, hv, a1, a2, a3, a4, d0, d1, d2, d3, hval, hh, d4⟩ := h.put hi hj
  obtain ⟨g', cap', gl, cl, hv', b1, b2, b3, b4, e0, e1, e2, e3, hval', hh', e4⟩ := h.put hl hj
  rw [hv] at hv'
  simp only [Value.slice.injEq, Option.some.injEq, Addr.mk.injEq, and_true, true_and] at hv'
  obtain ⟨rfl, rfl⟩ := hv'
  exact ⟨g, cap, gi, ci, gl, cl, _, hv, a2, a1, fun e => h.own.ap i l hne gi hh (e ▸ hh'), ⟨d0, d1, e1, e2⟩, hval', ⟨_, d2⟩, d3, fun x hx0 hx1 => ⟨_, d4 x hx0 hx1⟩⟩

set_option maxRecDepth 100000 in
set_option maxHeartbeats 2000000 in
theorem matrix_any {N : Nat} (p : Int) (rows cols b : Nat) (n : Int) (w : World) (hc : Bd.Cur N w b n) (hp : 1 ≤ p) (hp2 : p ≤ 1000) (hr : rows ≤ 24) (hcl : cols ≤ 24) (hn0 : 0 ≤ n) (hn : n + 10000 ≤ 1000000000000) :
    Calls Tryd.prog 181 #[.pointer (some ⟨b, 0, none⟩), .int .i64 p, .int .i64 rows, .int .i64 cols] w fun e w' =>
      ∃ o vs L, e = .returned (mxV cols o) ∧ OwnM w.heap.size w' o vs L ∧ L.length = rows ∧ RowsOk p cols L ∧ Bd.Cur N w' b (n + 10000) ∧ w.grownBy w' (some b) := by
  have HZ := Lib.hid (mxZero_any rows cols (w.alloc (.cells #[.int .i64 0, .slice none 0 0] 39)) (by omega) (by omega))
  have HC := Lib.hid hc
  have hNw := hc.nb
  have hbw := hc.lt
  clear hc
  unfold mxV at *
  go_enter Tryd.func181, Tryd.ntmps181
  go_wp2_with (
    go_at_call 277
    refine HZ.out.mono ?_
    rintro e w1 ⟨o, vs, rfl, ho, hg⟩
    obtain ⟨oa, oc, hoe, hx⟩ := ho.read
    clear hx
    simp only [List.length_replicate] at hoe
    subst hoe
    have HO := Lib.hid ho; have HG := Lib.hid hg
    clear ho hg)
  have hsz : (w.alloc (.cells #[.int .i64 0, .slice none 0 0] 39)).heap.size = w.heap.size + 1 := by simp
  have hb1 := HG.out.size
  have e0 := (HG.out.block w.heap.size (by simp) (by simp)).trans (alloc_heap_new w _)
  have e0x := (alloc_heap_old w1 (.cells #[.int .i64 cols, .slice oa rows oc] 39) w.heap.size (by omega)).trans e0
  have ecx := alloc_heap_new w1 (.cells #[.int .i64 cols, .slice oa rows oc] 39)
  have hgx : w.grownBy (w1.alloc (.cells #[.int .i64 cols, .slice oa rows oc] 39)) none := ((grownBy_alloc w (.cells #[.int .i64 0, .slice none 0 0] 39) none).trans HG.out).trans (grownBy_alloc w1 (.cells #[.int .i64 cols, .slice oa rows oc] 39) none)
  have ho1 := HO.out.carry (grownBy_alloc w1 (.cells #[.int .i64 cols, .slice oa rows oc] 39) none)
  rw [hsz] at ho1 hb1
  have hok : RowsOk p cols (List.replicate rows (List.replicate cols 0)) := by
    intro row hrow
    rw [List.eq_of_mem_replicate hrow]
    refine ⟨by simp, fun z hz => ?_⟩
    rw [List.eq_of_mem_replicate hz]
    omega
  have hcx : Bd.Cur N (w1.alloc (.cells #[.int .i64 cols, .slice oa rows oc] 39)) b n := HC.out.only (Only.of_grown (S := fun _ => False) hgx (by simp)) (fun h => h) (fun _ h => h.elim)
  have HD := Lib.hid (show DM N b w1.heap.size w.heap.size (w.heap.size + 1) p rows cols (.slice oa rows oc) vs (w1.alloc (.cells #[.int .i64 cols, .slice oa rows oc] 39)) n (List.replicate rows (List.replicate cols 0)) (w1.alloc (.cells #[.int .i64 cols, .slice oa rows oc] 39)) from
    ⟨ho1, by simp, hok, hcx, ecx, e0x, Only.refl _ _, by omega, by omega, by omega, by omega⟩)
  have HGX := Lib.hid hgx
  have hqb : w.heap.size + 1 ≤ w1.heap.size := hb1
  clear ho1 HO HG e0 hsz e0x ecx HZ hgx hok hcx HC
  have hrB := Lib.hid (show w.heap.size = w.heap.size from rfl)
  generalize hwx : w1.alloc (.cells #[.int .i64 cols, .slice oa rows oc] 39) = wx at *
  clear hwx
  generalize hre : w.heap.size = r at *
  have HRE := Lib.hid hre
  clear hre
  generalize w1.heap.size = q at *
  go_wp2_with (
    go_at_call 153
    refine (Bd.one_any 3 b n _ HD.out.cur (by decide) (by omega)).mono ?_
    rintro e w2 ⟨many, rfl, c2, g2⟩
    have HD2 := Lib.hid (HD.out.draw c2 g2)
    have cq := cell_blk HD2.out.box 1
    simp only [List.getElem?_toArray, List.getElem?_cons_zero, List.getElem?_cons_succ] at cq
    clear c2 g2)
  clear cq
  go_loopw [23] (fun i wr => ∃ (k : Nat) (L : List (List Int)), k ≤ rows ∧ i = .int .i64 k ∧ DM N b q r (r + 1) p rows cols (.slice oa rows oc) vs wx (n + 2 + 200 * k) L wr) (fun i _ => rows - (intOf i).toNat)
  case atStart => exact ⟨0, _, by omega, rfl, HD2.out.more (by omega)⟩
  case round =>
    obtain ⟨k, L, hk, rfl, hd⟩ := hrel
    have HK := Lib.hid hd
    clear hd
    by_cases hlt : k < rows
    · obtain ⟨g, cap, a0, c0, hv, d1, d2⟩ := HK.out.row hlt
      simp only [Value.slice.injEq, true_and] at hv
      obtain ⟨rfl, rfl⟩ := hv
      go_wp2_with fail
      go_loopw [32] (fun i wr => ∃ (j : Nat) (L : List (List Int)), j ≤ cols ∧ i = .int .i64 j ∧ DM N b q r (r + 1) p rows cols (.slice (some ⟨g, 0, none⟩) rows oc) vs wx (n + 2 + 200 * k + 4 * j) L wr) (fun i _ => cols - (intOf i).toNat)
      case atStart => exact ⟨0, _, by omega, rfl, HK.out.more (by omega)⟩
      case round =>
        obtain ⟨j, L2, hj, rfl, hd⟩ := hrel
        have HJ := Lib.hid hd
        clear hd d1 d2
        by_cases hlt2 : j < cols
        · cases many
          · go_wp2_with (
              go_at_call 153
              refine (Bd.one_any 2 b _ _ HJ.out.cur (by decide) (by omega)).mono ?_
              rintro e w3 ⟨v3, rfl, c3, g3⟩
              have HD3 := Lib.hid (HJ.out.draw c3 g3)
              clear c3 g3
              cases v3)
            · go_roundw
              case rel => exact ⟨j + 1, _, by omega, by go_num, HD3.out.more (by omega)⟩
              case measure => simp [intOf]; omega
            · obtain ⟨g7, cap7, gi, ci, hv7, hn1, hn2, hS, hz7, hst⟩ := HD3.out.drew.store hlt hlt2
              simp only [Value.slice.injEq, Option.some.injEq, Addr.mk.injEq, and_true, true_and] at hv7
              obtain ⟨rfl, rfl⟩ := hv7
              have XS := Lib.hid hS
              have HST := Lib.hid hst
              have HEL := Lib.hid (Bd.elem_any p b _ w3.drew HD3.out.drew.cur (by omega) (by omega))
              clear hS hz7 hst
              go_wp2_with fail
              go_region_held3 (fun w' => w'.cell? ⟨q, 1, none⟩ = some (.slice (some ⟨g, 0, none⟩) rows oc) ∧ w'.cell? ⟨g, k, none⟩ = some (.slice (some ⟨gi, 0, none⟩) cols ci)) (first | with_reducible exact XS.out | with_reducible exact XT.out | exact dm_held (by assumption) hn1 hn2)
                (first
                  | (go_at_call 274
                     with_reducible refine HEL.out.mono ?_
                     rintro e w4 ⟨x, rfl, hx, c4, g4⟩
                     obtain ⟨t1, ⟨z4, t2⟩, t3, t4⟩ := HST.out _ _ c4 g4
                     obtain ⟨L4, t5⟩ := t4 x hx.1 (by have := hx.2; omega)
                     have XT := Lib.hid t1
                     have HD4 := Lib.hid t5
                     clear t1 t4 t5 c4 g4))
              go_wp2_with fail
              go_roundw
              case rel => exact ⟨j + 1, L4, by omega, by go_num, HD4.out.more (by omega)⟩
              case measure => simp [intOf]; omega
          · obtain ⟨g7, cap7, gi, ci, hv7, hn1, hn2, hS, hz7, hst⟩ := HJ.out.drew.store hlt hlt2
            simp only [Value.slice.injEq, Option.some.injEq, Addr.mk.injEq, and_true, true_and] at hv7
            obtain ⟨rfl, rfl⟩ := hv7
            have XS := Lib.hid hS
            have HST := Lib.hid hst
            have HEL := Lib.hid (Bd.elem_any p b _ wr.drew HJ.out.drew.cur (by omega) (by omega))
            clear hS hz7 hst
            go_wp2_with fail
            go_region_held3 (fun w' => w'.cell? ⟨q, 1, none⟩ = some (.slice (some ⟨g, 0, none⟩) rows oc) ∧ w'.cell? ⟨g, k, none⟩ = some (.slice (some ⟨gi, 0, none⟩) cols ci)) (first | with_reducible exact XS.out | with_reducible exact XT.out | exact dm_held (by assumption) hn1 hn2)
              (first
                | (go_at_call 274
                   with_reducible refine HEL.out.mono ?_
                   rintro e w4 ⟨x, rfl, hx, c4, g4⟩
                   obtain ⟨t1, ⟨z4, t2⟩, t3, t4⟩ := HST.out _ _ c4 g4
                   obtain ⟨L4, t5⟩ := t4 x hx.1 (by have := hx.2; omega)
                   have XT := Lib.hid t1
                   have HD4 := Lib.hid t5
                   clear t1 t4 t5 c4 g4))
            go_wp2_with fail
            go_roundw
            case rel => exact ⟨j + 1, L4, by omega, by go_num, HD4.out.more (by omega)⟩
            case measure => simp [intOf]; omega
        · have hjc : j = cols := by omega
          subst hjc
          by_cases hk0 : 0 < k
          · by_cases hc0 : 0 < j
            · obtain ⟨l, hl⟩ : ∃ l, k = l + 1 := ⟨k - 1, by omega⟩
              have hk1 : (k : Int) - 1 = (l : Int) := by omega
              have hlr : l < rows := by omega
              have hkl : k ≠ l := by omega
              have hl1 : (l : Int) < (rows : Int) := by omega
              have hl2 : IntKind.i64.wrap (l : Int) = (l : Int) := by rw [IntKind.wrap_i64]; omega
              have hl3 : IntKind.i64.wrap ((k : Int) - 1) = (l : Int) := by rw [IntKind.wrap_i64]; omega
              clear hl
              go_wp2_with (
                go_at_call 153
                refine (Bd.one_any 4 b _ _ HJ.out.cur (by decide) (by omega)).mono ?_
                rintro e w3 ⟨v3, rfl, c3, g3⟩
                have HD3 := Lib.hid (HJ.out.draw c3 g3)
                clear c3 g3
                cases v3)
              · go_roundw
                case rel => exact ⟨k + 1, _, by omega, by go_num, HD3.out.more (by omega)⟩
                case measure => simp [intOf]; omega
              · obtain ⟨g7, cap7, a7, c7, hv7, d1, d2⟩ := HD3.out.row hlt
                simp only [Value.slice.injEq, Option.some.injEq, Addr.mk.injEq, and_true, true_and] at hv7
                obtain ⟨rfl, rfl⟩ := hv7
                go_wp2_with (
                  go_at_call 274
                  refine (Bd.elem_any p b _ _ HD3.out.cur (by omega) (by omega)).mono ?_
                  rintro e w4 ⟨kk, rfl, hkk, c4, g4⟩
                  have HD4 := Lib.hid (HD3.out.draw c4 g4)
                  obtain ⟨g8, cap8, a8, c8, hv8, d3, d4⟩ := HD4.out.row hlt
                  simp only [Value.slice.injEq, Option.some.injEq, Addr.mk.injEq, and_true, true_and] at hv8
                  obtain ⟨rfl, rfl⟩ := hv8
                  clear c4 g4)
                clear d1 d2 d3 d4
                have hkk2 : 0 ≤ kk ∧ kk ≤ 1000 := by omega
                go_loopw [70] (fun i wr => ∃ (t : Nat) (L : List (List Int)), t ≤ j ∧ i = .int .i64 t ∧ DM N b q r (r + 1) p rows j (.slice (some ⟨g, 0, none⟩) rows oc) vs wx (n + 2 + 200 * (k : Int) + 4 * j + 2 + 2) L wr) (fun i _ => j - (intOf i).toNat)
                case atStart => exact ⟨0, _, by omega, rfl, HD4.out⟩
                case round =>
                  obtain ⟨t, L5, ht, rfl, hd⟩ := hrel
                  have HT := Lib.hid hd
                  clear hd
                  by_cases hlt3 : t < j
                  · obtain ⟨g9, cap9, gi, ci, gl, cl, z, hv9, hn1, hn2, hn3, hS, hz, ⟨z2, hz2⟩, hfz, hst⟩ := HT.out.drew.store2 hlt hlr hkl hlt3
                    simp only [Value.slice.injEq, Option.some.injEq, Addr.mk.injEq, and_true, true_and] at hv9
                    obtain ⟨rfl, rfl⟩ := hv9
                    have XS := Lib.hid hS
                    have HST := Lib.hid hst
                    have HMU := Lib.hid fun w1 => fdMulS_any p kk z w1 (by omega) (by omega) hkk2.1 hkk2.2 hz.1 (by omega)
                    change wr.cell? _ = _ at hz2
                    change wr.frozen? _ = _ at hfz
                    clear hS hst
                    go_wp2_with fail
                    go_region_held3 (fun w' => w'.cell? ⟨q, 1, none⟩ = some (.slice (some ⟨g, 0, none⟩) rows oc) ∧ w'.cell? ⟨g, k, none⟩ = some (.slice (some ⟨gi, 0, none⟩) j ci) ∧ w'.cell? ⟨g, l, none⟩ = some (.slice (some ⟨gl, 0, none⟩) j cl) ∧ w'.cell? ⟨gl, t, none⟩ = some (.int .i64 z)) (first | with_reducible exact XS.out | exact dm_held2 (by assumption) hn1 hn2 hn3)
                      (first
                        | (go_at_call 199
                           refine (HMU.out _).mono ?_
                           rintro e w' ⟨rfl, rfl⟩))
                    go_wp2_with fail
                    have e0 := Int.emod_nonneg (kk * z) (show p ≠ 0 by omega)
                    have e1 := Int.emod_lt_of_pos (kk * z) (show 0 < p by omega)
                    obtain ⟨L6, h6⟩ := HST.out _ e0 e1
                    have H6 := Lib.hid h6
                    clear h6 e0 e1
                    go_roundw
                    case rel => exact ⟨t + 1, L6, by omega, by go_num, H6.out⟩
                    case measure => simp [intOf]; omega
                  · go_wp2
                    go_roundw
                    case rel => exact ⟨k + 1, _, by omega, by go_num, HT.out.more (by omega)⟩
                    case measure => simp [intOf]; omega
            · have hj0 : j = 0 := by omega
              subst hj0
              go_wp2
              go_roundw
              case rel => exact ⟨k + 1, _, by omega, by go_num, HJ.out.more (by omega)⟩
              case measure => simp [intOf]; omega
          · have hkz : k = 0 := by omega
            subst hkz
            go_wp2
            go_roundw
            case rel => exact ⟨0 + 1, _, by omega, by go_num, HJ.out.more (by omega)⟩
            case measure => simp [intOf]; omega
    · have hkr : k = rows := by omega
      subst hkr
      have r0 := cell_blk HK.out.res 0
      have r1 := cell_blk HK.out.res 1
      have f0 := free_blk HK.out.res 0
      have f1 := free_blk HK.out.res 1
      have c0 := cell_blk HK.out.box 0
      have c1 := cell_blk HK.out.box 1
      simp only [List.getElem?_toArray, List.getElem?_cons_zero, List.getElem?_cons_succ] at r0 r1 c0 c1
      go_wp2
      refine bodyPost_ret_by (v := .agg #[.int .i64 cols, .slice oa k oc]) ?_ rfl ?_
      · simp [results, go_sem, *]
      · have o5 := one_set (w := wr) r (.int .i64 cols) (.slice oa k oc)
        refine ⟨_, vs, L, rfl, ?_, HK.out.len, HK.out.ok, ?_, ?_⟩
        · exact (HK.out.own.only o5 fun q hq hq' => by have := (HK.out.own.lt hq).1; omega).base (by have := HRE.out; omega)
        · refine (HK.out.cur.only o5 (by have := HK.out.br; omega) (fun q hq => ?_)).mono (by omega)
          rw [hq]
          have := hNw
          have := HRE.out
          omega
        · have g1 := HGX.out.size
          have hon := (HK.out.on.mono (S' := fun k => k = b ∨ w.heap.size ≤ k) fun q hq => by rcases hq with h | h; exact Or.inl h; exact Or.inr (by have := HRE.out; omega)).trans (o5.mono (S' := fun k => k = b ∨ w.heap.size ≤ k) fun q hq => Or.inr (by rw [hq, HRE.out]; exact Nat.le_refl _))
          have ho2 := (Only.of_grown (S := fun k => k = b ∨ w.heap.size ≤ k) HGX.out (by simp)).trans hon
          exact ⟨ho2.os, ho2.tape, ho2.output, ho2.size, fun k hk hk2 => ho2.block k hk (by rintro (h | h); exact hk2 (by rw [h]); omega)⟩

end Go.Proofs.YtpeaeminjbjlnaaDoor

/-
  Drawn matrices, seldom changed. Conditions: small sizes.
-/
namespace Go.Proofs.YtpeaeminjbjlnaaDoor
open Go.RowKit
set_option linter.unusedVariables false

/-- a matrix that is being changed: its variable in block x, the result in block y, the cursor in block b -/
structure BM (bd N b x y B : Nat) (cols : Int) (v : Value) (lim : Nat) (w0 : World) (n : Int) (w : World) : Prop where
  ex : ∃ vs L, OwnM B w v vs L ∧ L.length = lim ∧ ∀ row ∈ L, row.length ≤ bd
  cur : Bd.Cur N w b n
  box : w.heap[x]? = some (Bx (.int .i64 cols) v)
  res : w.heap[y]? = some (Bx (.int .i64 0) (.slice none 0 0))
  on : Only (fun k => k = b ∨ B ≤ k) w0 w
  nB : N ≤ B
  bB : b < B
  bx : B ≤ x
  by' : B ≤ y
  xy : x ≠ y
def BPost (N b B : Nat) (w0 : World) (n : Int) (e : Ending) (w' : World) : Prop :=
  ∃ (cols : Int) (o : Value) (vs : List Value) (L : List (List Int)), e = .returned (mxV cols o) ∧ OwnM B w' o vs L ∧ L.length ≤ 1000 ∧ (∀ row ∈ L, row.length ≤ 1000) ∧ Bd.Cur N w' b n ∧ Only (fun k => k = b ∨ B ≤ k) w0 w'
section
variable {bd N b x y B : Nat} {cols : Int} {v : Value} {lim : Nat} {w0 : World} {n : Int} {w : World}
theorem BM.draw (h : BM bd N b x y B cols v lim w0 n w) {m : Int} {w' : World} (hc : Bd.Cur N w' b m) (hg : w.grownBy w' (some b)) : BM bd N b x y B cols v lim w0 m w' := by
  have ho : Only (· = b) w w' := Only.of_grown hg fun k hk => (Option.some.inj hk).symm
  obtain ⟨vs, L, h1, h2, h3⟩ := h.ex
  have hb := h.bB
  refine ⟨⟨vs, L, h1.only ho fun k hk hk' => ?_, h2, h3⟩, hc, (hg.block x (lt_of_blk h.box) (by have := h.bx; simp; omega)).trans h.box, (hg.block y (lt_of_blk h.res) (by have := h.by'; simp; omega)).trans h.res, h.on.trans (ho.mono fun k hk => Or.inl hk), h.nB, h.bB, h.bx, h.by', h.xy⟩
  have h4 := (h1.lt hk).1
  have h5 : k = b := hk'
  omega
theorem BM.more (h : BM bd N b x y B cols v lim w0 n w) {m : Int} (hm : n ≤ m) : BM bd N b x y B cols v lim w0 m w :=
  ⟨h.ex, h.cur.mono hm, h.box, h.res, h.on, h.nB, h.bB, h.bx, h.by', h.xy⟩
theorem BM.fin (h : BM bd N b x y B cols v lim w0 n w) {m : Int} (hm : n ≤ m) (hl : lim ≤ 1000) (hbd : bd ≤ 1000) : BPost N b B w0 m (.returned (.agg #[.int .i64 cols, v])) ((w.setCell ⟨y, 0, none⟩ (.int .i64 cols)).setCell ⟨y, 1, none⟩ v) := by
  obtain ⟨vs, L, h1, h2, h3⟩ := h.ex
  have o5 := one_set (w := w) y (.int .i64 cols) v
  have hb := h.bB
  have hy := h.by'
  have hn := h.nB
  refine ⟨cols, v, vs, L, rfl, h1.only o5 fun k hk hk' => by have e : k = y := hk'; rw [e] at hk; exact foot_ne h.res h1 hk, by omega, fun row hrow => Nat.le_trans (h3 row hrow) hbd, (h.cur.only o5 (by omega) (fun k hk => by omega)).mono hm, h.on.trans (o5.mono fun k hk => Or.inr (by omega))⟩
/-- a number of columns is written -/
theorem BM.setCols (h : BM bd N b x y B cols v lim w0 n w) (c : Int) : BM bd N b x y B c v lim w0 n (w.setCell ⟨x, 0, none⟩ (.int .i64 c)) := by
  obtain ⟨vs, L, h1, h2, h3⟩ := h.ex
  have o5 := set_only w ⟨x, 0, none⟩ (.int .i64 c)
  have hb := h.bB
  have hx := h.bx
  have hn := h.nB
  have hxy := h.xy
  refine ⟨⟨vs, L, h1.only o5 fun k hk hk' => by have e : k = x := hk'; rw [e] at hk; exact foot_ne h.box h1 hk, h2, h3⟩, h.cur.only o5 (by simp; omega) (fun k hk => by simp at hk; omega), ?_, (o5.block y (lt_of_blk h.res) (by simp; omega)).trans h.res, h.on.trans (o5.mono fun k hk => Or.inr (by simp at hk; omega)), h.nB, h.bB, h.bx, h.by', h.xy⟩
  simp only [World.setCell]
  rw [Array.getElem?_modify, if_pos rfl, h.box]
  rfl
theorem BM.drew (h : BM bd N b x y B cols v lim w0 n w) : BM bd N b x y B cols v lim w0 n w.drew :=
  h.draw (h.cur.only (Only.drew (fun _ => False) w) (fun h => h) (fun _ h => h.elim)) ⟨rfl, rfl, rfl, Nat.le_refl _, fun _ _ _ => rfl⟩
theorem BM.shape (h : BM bd N b x y B cols v lim w0 n w) : ∃ a c, v = .slice a lim c := by
  obtain ⟨vs, L, h1, h2, h3⟩ := h.ex
  obtain ⟨a, c, hv, _⟩ := h1.read
  exact ⟨a, c, by rw [hv, h2]⟩
end

/-- a row is appended, and the list stored into the variable -/
theorem BM.push {bd N b x y B : Nat} {cols : Int} {v v' u : Value} {l : Nat} {w0 : World} {n : Int} {w W w6 : World} {vs : List Value} {L : List (List Int)} {zs : List Int} (h : BM bd N b x y B cols v l w0 n w) (hg : w.grownBy W none) (ho : OwnM B W v vs L) (hL : L.length = l) (hll : ∀ row ∈ L, row.length ≤ bd) (hz : zs.length ≤ bd)
    (h6 : OwnM B w6 v' (vs ++ [u]) (L ++ [zs])) (hon : Only (Hits v) W w6) :
    w6.heap[x]? = some (Bx (.int .i64 cols) v) ∧ BM bd N b x y B cols v' (l + 1) w0 n (w6.setCell ⟨x, 1, none⟩ v') := by
  have hB := h.bB
  have hx := h.bx
  have hy := h.by'
  have hn := h.nB
  have hxy := h.xy
  have hit : ∀ k, Hits v k → B ≤ k := fun k hk => (ho.lt (Or.inl hk)).1
  have eW := (hg.block x (lt_of_blk h.box) (by simp)).trans h.box
  have eWy := (hg.block y (lt_of_blk h.res) (by simp)).trans h.res
  have e6 := (hon.block x (lt_of_blk eW) (fun hh => foot_ne eW ho (Or.inl hh))).trans eW
  have e6y := (hon.block y (lt_of_blk eWy) (fun hh => foot_ne eWy ho (Or.inl hh))).trans eWy
  have o5 := set_only w6 ⟨x, 1, none⟩ v'
  have hoff := hon.mono (S' := fun k => B ≤ k) hit
  have h0 : Only (fun k => B ≤ k) w (w6.setCell ⟨x, 1, none⟩ v') := ((Only.of_grown (S := fun k => B ≤ k) hg (by simp)).trans hoff).trans (o5.mono fun k hk => by simp at hk; omega)
  refine ⟨e6, ⟨⟨vs ++ [u], L ++ [zs], h6.only o5 fun k hk hk' => ?_, by simp [hL], fun row hrow => ?_⟩, h.cur.only h0 (by omega) (fun k hk => by omega), ?_, (o5.block y (lt_of_blk e6y) (by simp; omega)).trans e6y, h.on.trans (h0.mono fun k hk => Or.inr hk), h.nB, h.bB, h.bx, h.by', h.xy⟩⟩
  · have e : k = x := hk'
    rw [e] at hk
    exact foot_ne e6 h6 hk
  · rcases List.mem_append.1 hrow with h1 | h1
    · exact hll row h1
    · simp at h1; rw [h1]; exact hz
  · simp only [World.setCell]
    rw [Array.getElem?_modify, if_pos rfl, e6]
    rfl

/-- 'append(row, z)' as an operation of a region. -/
theorem step_app_int {ops : Array Oper} {o : Oper} {a : Act} {K : Act → World → Prop} {Q : Exit → Act → World → Prop} {E : Prop} (hgd : o.guard = none) (s x : Operand)
    (ho : o.op = .call { callee := .builtin .append, args := #[s, x], argTypes := #[24, 24] })
    {B : Nat} {w : World} {v : Value} {zs : List Int} (z : Int) (hs : a.eval s = v) (hx : a.eval x = .slice (some ⟨w.heap.size, 0, none⟩) 1 1)
    (hown : OwnInts B w v zs) (hB : B ≤ w.heap.size) (hl : zs.length ≤ 1000000)
    (h : ∀ g cap w', OwnInts B w' (.slice (some ⟨g, 0, none⟩) (zs.length + 1) cap) (zs ++ [z]) → Only (Hits v) w w' → (Hits v g ∨ w.heap.size ≤ g) → K (a.put o.dst (.slice (some ⟨g, 0, none⟩) (zs.length + 1) cap)) w') :
    if Region.wanted o (yielded ops a.tmps) = true then Oper.wp Tryd.prog o a (w.alloc (.cells #[.int .i64 z] 3)) K Q else E := by
  obtain ⟨i0, hi, hz0, hz1, hz2⟩ := info_parts info_int
  have hgr := grownBy_alloc w (.cells #[.int .i64 z] 3) none
  have hown1 : OwnInts B (w.alloc (.cells #[.int .i64 z] 3)) v zs := hown.alloc _
  refine step_append_lies _ hgd s x 24 ho B 3 i0 (.int .i64 0) 1 8 Tryd.underlying24 hi hz0 hz1 hz2 rfl (by decide) v zs.length (zs.map (Value.int .i64)) hs hown1
    ⟨w.heap.size, 0, none⟩ 1 1 [.int .i64 z] hx rfl ?_ ?_ (by decide) (by unfold maxLen; omega) (by omega) (by simp; omega) _ rfl ?_
  · intro j u' hj
    match j, hj with
    | 0, hj =>
      simp at hj
      subst hj
      simp only [Addr.add, if_true, World.cell?]
      rw [alloc_heap_new]
      rfl
    | j + 1, hj => simp at hj
  · intro u' hu'
    simp at hu'
    subst hu'
    rfl
  · intro g cap w1 hown' hgrow hgg _
    have hon : Only (Hits v) (w.alloc (.cells #[.int .i64 z] 3)) w1 := Only.of_grown hgrow fun k hk => hk
    refine h g cap w1 (by unfold OwnInts; rw [List.length_append, List.map_append]; exact hown') ((Only.of_grown (S := Hits v) hgr (by simp)).trans hon) ?_
    rcases hgg with h1 | h1
    · exact Or.inl h1
    · exact Or.inr (by rw [h1]; simp)
theorem BM.rowGrown {bd N b x y B g cap : Nat} {cols : Int} {l : Nat} {w0 : World} {n : Int} {w W w6 : World} {vs : List Value} {L : List (List Int)} {u : Value} {zs : List Int} {i : Nat} (h : BM bd N b x y B cols (.slice (some ⟨g, 0, none⟩) l cap) l w0 n w) (hg : w.grownBy W none)
    (ho : OwnM B W (.slice (some ⟨g, 0, none⟩) l cap) vs L) (hL : L.length = l) (hll : ∀ row ∈ L, row.length ≤ bd) (hi : i < l) (hz : zs.length ≤ bd + 1) (hu : OwnInts B w6 u zs) (hon : Only (Hits (vs.getD i nilS)) W w6) (hb : ∀ q, Hits u q → Hits (vs.getD i nilS) q ∨ W.heap.size ≤ q) :
    w6.heap[x]? = some (Bx (.int .i64 cols) (.slice (some ⟨g, 0, none⟩) l cap)) ∧ w6.cell? ⟨g, i, none⟩ = some (vs.getD i nilS) ∧ w6.frozen? ⟨g, i, none⟩ = false ∧ BM (bd + 1) N b x y B cols (.slice (some ⟨g, 0, none⟩) l cap) l w0 n (w6.setCell ⟨g, i, none⟩ u) := by
  obtain ⟨c1, c2, c3⟩ := ho.putGrown hL.symm (by omega) hu hon hb
  have hB := h.bB
  have hx := h.bx
  have hy := h.by'
  have hn := h.nB
  have eW := (hg.block x (lt_of_blk h.box) (by simp)).trans h.box
  have eWy := (hg.block y (lt_of_blk h.res) (by simp)).trans h.res
  have e6 := (hon.block x (lt_of_blk eW) (fun hh => foot_ne eW ho (Foot.at hh))).trans eW
  have e6y := (hon.block y (lt_of_blk eWy) (fun hh => foot_ne eWy ho (Foot.at hh))).trans eWy
  have gx : g ≠ x := fun e => foot_ne eW ho (Or.inl (by rw [← e]; rfl))
  have gy : g ≠ y := fun e => foot_ne eWy ho (Or.inl (by rw [← e]; rfl))
  have gB : B ≤ g := (ho.lt (Or.inl rfl)).1
  have o5 := set_only w6 ⟨g, i, none⟩ u
  have h0 : Only (fun k => B ≤ k) w (w6.setCell ⟨g, i, none⟩ u) := ((Only.of_grown (S := fun k => B ≤ k) hg (by simp)).trans (hon.mono fun k hk => (ho.lt (Foot.at hk)).1)).trans (o5.mono fun k hk => by simp at hk; omega)
  refine ⟨e6, c1, c2, ⟨⟨_, _, c3, by rw [List.length_set]; exact hL, fun row hrow => ?_⟩, h.cur.only h0 (by omega) (fun k hk => by omega), (o5.block x (lt_of_blk e6) (by simp; omega)).trans e6, (o5.block y (lt_of_blk e6y) (by simp; omega)).trans e6y, h.on.trans (h0.mono fun k hk => Or.inr hk), h.nB, h.bB, h.bx, h.by', h.xy⟩⟩
  rcases List.mem_or_eq_of_mem_set hrow with h1 | h1
  · have := hll row h1; omega
  · rw [h1]; exact hz

theorem BM.carry {bd N b x y B : Nat} {cols : Int} {v : Value} {lim : Nat} {w0 : World} {n : Int} {w w' : World} (h : BM bd N b x y B cols v lim w0 n w) (hg : w.grownBy w' none) : BM bd N b x y B cols v lim w0 n w' :=
  h.draw (h.cur.only (Only.of_grown (S := fun _ => False) hg (by simp)) (fun h => h) (fun _ h => h.elim)) ⟨hg.os, hg.tape, hg.output, hg.size, fun k hk _ => hg.block k hk (by simp)⟩
/-- an element of a row whose slice is known -/
theorem BM.elemS {bd N b x y B g cap cn gi ci k j : Nat} {cols : Int} {l : Nat} {w0 : World} {n : Int} {w : World} (h : BM bd N b x y B cols (.slice (some ⟨g, 0, none⟩) l cap) l w0 n w) (hS : w.cell? ⟨g, k, none⟩ = some (.slice (some ⟨gi, 0, none⟩) cn ci)) (hk : k < l) (hj : j < cn) :
    (∃ z, w.cell? ⟨gi, j, none⟩ = some z) ∧ w.frozen? ⟨gi, j, none⟩ = false ∧ gi ≠ x ∧ gi ≠ g ∧ ∀ z, BM bd N b x y B cols (.slice (some ⟨g, 0, none⟩) l cap) l w0 n (w.setCell ⟨gi, j, none⟩ (.int .i64 z)) := by
  obtain ⟨vs, L, h1, h2, h3⟩ := h.ex
  have hB := h.bB
  have hx := h.bx
  have hy := h.by'
  have hn := h.nB
  have hc := h1.cell h2.symm (j := k) (by omega)
  rw [hS] at hc
  obtain ⟨a, c, he⟩ := row_slice h1 k
  rw [he] at hc
  simp only [Option.some.injEq, Value.slice.injEq] at hc
  obtain ⟨rfl, hlen, rfl⟩ := hc
  obtain ⟨gi', ci', a1, a2, a3, a4, d1, d2, d3, d4⟩ := h1.elemAt h2.symm (i := k) (j := j) (by omega) (by omega)
  rw [hS] at d1
  simp only [Option.some.injEq, Value.slice.injEq, Addr.mk.injEq, and_true] at d1
  obtain ⟨rfl, _, rfl⟩ := d1
  have gx : gi ≠ x := fun e => foot_ne h.box h1 (Foot.at (e ▸ a4))
  have gy : gi ≠ y := fun e => foot_ne h.res h1 (Foot.at (e ▸ a4))
  refine ⟨⟨_, d2⟩, d3, gx, a2, fun z => ?_⟩
  obtain ⟨e1, e2⟩ := d4 z
  refine ⟨⟨_, _, e1, by rw [List.length_set]; exact h2, fun row hrow => ?_⟩, h.cur.only e2 (by omega) (fun k hk => by omega), (e2.block x (lt_of_blk h.box) (Ne.symm gx)).trans h.box, (e2.block y (lt_of_blk h.res) (Ne.symm gy)).trans h.res, h.on.trans (e2.mono fun k hk => Or.inr (by omega)), h.nB, h.bB, h.bx, h.by', h.xy⟩
  rcases List.mem_or_eq_of_mem_set hrow with h4 | h4
  · exact h3 row h4
  · rw [h4, List.length_set]; exact h3 _ (getD_mem (by omega))
/-- the rows of a list, each a slice of its own -/
theorem rows_of {B g cap n : Nat} {w : World} {vs : List Value} {L : List (List Int)} {cn : Nat} (h : OwnM B w (.slice (some ⟨g, 0, none⟩) n cap) vs L) (hn : n = L.length) (hl : ∀ row ∈ L, row.length = cn) (hc : 0 < cn) :
    ∃ G C : Nat → Nat, ∀ i, i < n → w.cell? ⟨g, i, none⟩ = some (.slice (some ⟨G i, 0, none⟩) cn (C i)) := by
  have : ∀ i, ∃ gi ci : Nat, i < n → w.cell? ⟨g, i, none⟩ = some (.slice (some ⟨gi, 0, none⟩) cn ci) := by
    intro i
    by_cases hi : i < n
    · have hrow := hl _ (getD_mem (show i < L.length by omega))
      obtain ⟨gi, ci, _, _, _, _, d1, _⟩ := h.elemAt hn (i := i) (j := 0) (by omega) (by omega)
      rw [hrow] at d1
      exact ⟨gi, ci, fun _ => d1⟩
    · exact ⟨0, 0, fun h => absurd h hi⟩
  refine ⟨fun i => Classical.choose (this i), fun i => Classical.choose (Classical.choose_spec (this i)), fun i hi => ?_⟩
  exact Classical.choose_spec (Classical.choose_spec (this i)) hi
abbrev SRow (x g lim cn oc : Nat) (G C : Nat → Nat) (w : World) : Prop :=
  w.cell? ⟨x, 0, none⟩ = some (.int .i64 cn) ∧ w.cell? ⟨x, 1, none⟩ = some (.slice (some ⟨g, 0, none⟩) lim oc) ∧ ∀ i, i < lim → w.cell? ⟨g, i, none⟩ = some (.slice (some ⟨G i, 0, none⟩) cn (C i))
theorem srow_grown {x g lim cn oc b : Nat} {G C : Nat → Nat} {w w' : World} (h : SRow x g lim cn oc G C w) (hg : w.grownBy w' (some b)) (h1 : x ≠ b) (h2 : g ≠ b) : SRow x g lim cn oc G C w' := by
  have ex : w'.heap[x]? = w.heap[x]? := hg.block x (World.block_lt_of_cell? w ⟨x, 0, none⟩ h.1) (by simpa using h1)
  refine ⟨(World.cell?_of_block (a := ⟨x, 0, none⟩) ex).trans h.1, (World.cell?_of_block (a := ⟨x, 1, none⟩) ex).trans h.2.1, fun i hi => ?_⟩
  have hc := h.2.2 i hi
  exact (World.cell?_of_block (a := ⟨g, i, none⟩) (hg.block g (World.block_lt_of_cell? w ⟨g, i, none⟩ hc) (by simpa using h2))).trans hc
theorem srow_set {x g lim cn oc gi j : Nat} {G C : Nat → Nat} {w : World} {u : Value} (h : SRow x g lim cn oc G C w) (h1 : gi ≠ x) (h2 : gi ≠ g) : SRow x g lim cn oc G C (w.setCell ⟨gi, j, none⟩ u) := by
  have ex : (w.setCell ⟨gi, j, none⟩ u).heap[x]? = w.heap[x]? := Below.heap_setCell _ _ _ _ (Ne.symm h1)
  have eg : (w.setCell ⟨gi, j, none⟩ u).heap[g]? = w.heap[g]? := Below.heap_setCell _ _ _ _ (Ne.symm h2)
  exact ⟨(World.cell?_of_block (a := ⟨x, 0, none⟩) ex).trans h.1, (World.cell?_of_block (a := ⟨x, 1, none⟩) ex).trans h.2.1, fun i hi => (World.cell?_of_block (a := ⟨g, i, none⟩) eg).trans (h.2.2 i hi)⟩

end Go.Proofs.YtpeaeminjbjlnaaDoor

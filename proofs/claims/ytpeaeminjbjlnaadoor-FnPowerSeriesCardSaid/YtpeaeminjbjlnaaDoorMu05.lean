/-
  Drawn fractions that are seldom invalid. Conditions: small sizes.
-/
import Derived.Test.YtpeaeminjbjlnaaDoorMu04
import Derived.Test.YtpeaeminjbjlnaaDoorMp02
import Derived.Test.YtpeaeminjbjlnaaDoorMk13
import Derived.Deep.CutBlock
namespace Go.Proofs.YtpeaeminjbjlnaaDoor
open Go.RowKit
set_option linter.unusedVariables false

theorem Sep.litI3 {w : World} {l : List Asrt} (h : Sep w l) (x y z : Int) : Sep (w.alloc (.cells #[.int .i64 x, .int .i64 y, .int .i64 z] 3)) (OI (.slice (some ⟨w.heap.size, 0, none⟩) 3 3) [x, y, z] :: l) :=
  h.newI (grownBy_alloc w _ none) (heap_own (zs := [x, y, z]) (alloc_heap_new w _) rfl (Nat.le_refl _) (by omega))
theorem bx2 {w : World} {k : Nat} {x y : Value} {t : TypeId} (h : w.heap[k]? = some (.cells #[x, y] t (0, 0))) : w.cell? ⟨k, 0, none⟩ = some x ∧ w.cell? ⟨k, 1, none⟩ = some y := ⟨(bx h).1, (bx h).2.1⟩
theorem asz (W : World) (o : Obj) : (W.alloc o).heap.size = W.heap.size + 1 := by simp
theorem Sep.mk20 {w : World} {l : List Asrt} (h : Sep w l) : Sep (w.alloc (.cells (zeroCells 20) 3)) (OI (.slice (some ⟨w.heap.size, 0, none⟩) 20 20) (List.replicate 20 0) :: l) :=
  h.newI (grownBy_alloc w _ none) (row_made 20 (by omega) w (Nat.le_refl _))
theorem cut22 {w : World} {l : List Asrt} {zs : List Int} {g c m : Nat} (h : Sep w (OI (.slice (some ⟨g, 0, none⟩) 22 c) zs :: l)) (hz : zs.length = 22) (hm : m ≤ 22) : ∃ L : List Int, L.length = m ∧ Sep w (OI (.slice (some ⟨g, 0, none⟩) m c) L :: l) :=
  ⟨zs.take m, by rw [List.length_take]; omega, h.cutI hz hm⟩
def AnyF (f g : List Int) : Prop := f.length ≤ 60 ∧ g.length ≤ 60
set_option maxRecDepth 100000 in
set_option maxHeartbeats 40000000 in
theorem anyFraction_any {N : Nat} {lst : List Asrt} (p : Int) (b : Nat) (n : Int) (w : World) (h : Sep w (CA N b n :: lst)) (hp0 : -1000 ≤ p) (hp1 : p ≤ 1000) (hn0 : 0 ≤ n) (hn : n + 100000 ≤ 1000000000000) :
    Calls Tryd.prog 129 #[.pointer (some ⟨b, 0, none⟩), .int .i64 p] w (DFr AnyF N b (n + 10000) lst) := by
  have hs0 := h.box #[.slice none 0 0, .slice none 0 0] 53
  have HS0 := Lib.hid hs0.s2
  have hfd := fun W => fdGood_any p W hp0 hp1
  clear h hs0
  cases hf : fldB p
  · rw [hf] at hfd
    have HFD := Lib.hid hfd
    have hfo := fun W => frOne_any W
    unfold frV at hfo
    have HFO := Lib.hid hfo
    clear hfd hf hfo
    go_enter Tryd.func129, Tryd.ntmps129
    go_wp2_with (first
      | (go_at_call 206; with_reducible refine (HFD.out _).mono ?_; rintro e w' ⟨rfl, rfl⟩)
      | (go_at_call 259
         with_reducible refine (HFO.out _).mono ?_
         rintro e w1 ⟨o1, o2, rfl, hk⟩
         obtain ⟨a1, c1, rfl, _⟩ := own_cap' hk.hd
         obtain ⟨a2, c2, rfl, _⟩ := own_cap' hk.tl.hd
         have h4 := (HS0.out.graft2 hk (fun _ h => h) (fun _ h => h)).s4
         obtain ⟨y0, y1, y2, y3⟩ := bx h4.hd
         have h2 := (h4.setB 0 (.slice a1 1 c1)).setB 1 (.slice a2 1 c2)
         obtain ⟨k0, k1, _, _⟩ := bx h2.hd
         have HSF := Lib.hid h2.tl
         clear hk h4 h2))
    refine bodyPost_ret_by (v := .agg #[.slice a1 1 c1, .slice a2 1 c2]) ?_ rfl ⟨_, _, [1], [1], rfl, ⟨by simp, by simp⟩, (HSF.out.s3.more (by omega)).s3.s3⟩
    simp [results, go_sem, *]
  · rw [hf] at hfd
    obtain ⟨h2p, h97⟩ := fldB_bd hf
    obtain ⟨q, rfl⟩ := Int.eq_ofNat_of_zero_le (show 0 ≤ p by omega)
    rw [fldB_nat] at hf
    have nz : NeZero q := ⟨by omega⟩
    have HFD := Lib.hid hfd
    have HFL := Lib.hid hf
    have hfr := fraction_any q b n _ HS0.out hf (by omega) hn0 (by omega)
    unfold DFr frV at hfr
    have HFR := Lib.hid hfr
    clear hfd hf hfr
    go_enter Tryd.func129, Tryd.ntmps129
    go_wp2_with (first
      | (go_at_call 206; with_reducible refine (HFD.out _).mono ?_; rintro e w' ⟨rfl, rfl⟩)
      | (go_at_call 260
         with_reducible refine HFR.out.mono ?_
         rintro e wf ⟨o1, o2, f, g, rfl, ⟨hI, hl1, hl2⟩, hs⟩
         obtain ⟨a1, c1, rfl, hc1⟩ := own_cap' (show OwnInts 0 wf o1 f from hs.hd)
         obtain ⟨a2, c2, rfl, hc2⟩ := own_cap' (show OwnInts 0 wf o2 g from hs.tl.hd)
         have HI := Lib.hid hI
         have HS2 := Lib.hid (hs.box #[.slice a1 f.length c1, .slice a2 g.length c2] 53).s4
         clear hI hs))
    refine (Bd.pick_any 24 b _ _ HS2.out.hd (by omega) (by omega)).mono ?_
    rintro e w2 ⟨x, rfl, ⟨x0, x1⟩, c3, g3⟩
    have HS3 := Lib.hid (HS2.out.draw c3 g3)
    clear c3 g3 HS2 HFR HS0
    go_upto_block 0 with fail
    go_cut [] from 15 to 65 (fun wx => ∃ (f g : List Int) (a1 : Option Addr) (c1 : Nat) (a2 : Option Addr) (c2 : Nat), f.length ≤ 60 ∧ g.length ≤ 60 ∧ Sep wx (CA N b (n + 8000 + 2 + 2 + 2) :: BxA wf.heap.size #[.slice a1 f.length c1, .slice a2 g.length c2] 53 :: OI (.slice a1 f.length c1) f :: OI (.slice a2 g.length c2) g :: BxA w.heap.size #[.slice none 0 0, .slice none 0 0] 53 :: lst))
    case first =>
      by_cases h0 : x = 0
      · subst h0
        go_wp2_with fail
        obtain ⟨k0, k1⟩ := bx2 HS3.out.tl.hd
        have k2 := fun o => cell_alloc k0 o
        go_region_law (first
            | (try go_simp
               go_at_call 130
               refine (among_S [0, 1, (q : Int)] (HS3.out.litI3 0 1 q).dr rfl (by omega) (by omega) (by omega)).mono ?_
               rintro e w3 ⟨v, rfl, hv, hs⟩
               have HS4 := Lib.hid hs.tl
               obtain ⟨j0, j1⟩ := bx2 hs.tl.tl.hd
               have j2 := fun o => cell_alloc j0 o
               clear hs hv)
            | (go_loud (refine step_app_intS rfl (.tmp 18) (.tmp 23) rfl rfl rfl HS4.out.s3 (by omega) ?_)
               intro g5 c5 w5 h5
               obtain ⟨t0, t1, t2, t3⟩ := bx h5.s3.hd
               have h6 := h5.s3.setB 0 (.slice (some ⟨g5, 0, none⟩) (f.length + 1) c5)
               have HF5 := Lib.hid (h6.s3.more (m := n + 8000 + 2 + 2 + 2) (by omega))
               clear h5 h6))
        all_goals
          go_wp2
          go_meet
          exact ⟨f ++ [v], g, some ⟨g5, 0, none⟩, c5, a2, c2, by simp; omega, by omega, by rw [List.length_append]; exact HF5.out⟩
      · by_cases h1 : x = 1
        · subst h1
          go_wp2_with fail
          obtain ⟨k0, k1⟩ := bx2 HS3.out.tl.hd
          have k2 := fun o => cell_alloc k1 o
          go_region_law (first
              | (try go_simp
                 go_at_call 130
                 refine (among_S [0, 1, 2] (HS3.out.litI3 0 1 2).dr rfl (by omega) (by omega) (by omega)).mono ?_
                 rintro e w3 ⟨v, rfl, hv, hs⟩
                 have HS4 := Lib.hid hs.tl
                 obtain ⟨j0, j1⟩ := bx2 hs.tl.tl.hd
                 have j2 := fun o => cell_alloc j1 o
                 clear hs hv)
              | (go_loud (refine step_app_intS rfl (.tmp 29) (.tmp 33) rfl rfl rfl HS4.out.s4 (by omega) ?_)
                 intro g5 c5 w5 h5
                 obtain ⟨t0, t1, t2, t3⟩ := bx h5.s3.hd
                 have h6 := h5.s3.setB 1 (.slice (some ⟨g5, 0, none⟩) (g.length + 1) c5)
                 have HF5 := Lib.hid ((h6.s3.under (fun h => h.under (fun h => h.s2) (by simp +contextual)) (by simp +contextual)).more (m := n + 8000 + 2 + 2 + 2) (by omega))
                 clear h5 h6))
          all_goals
            go_wp2
            go_meet
            exact ⟨f, g ++ [v], a1, c1, some ⟨g5, 0, none⟩, c5, by omega, by simp; omega, by rw [List.length_append]; exact HF5.out⟩
        · by_cases h2 : x = 2
          · subst h2
            go_wp2_with fail
            have hmk : ∀ W : World, (Instr.makeSlice 24 (.int .i64 20) (.int .i64 20)).run Tryd.prog W = .ok (.slice (some ⟨W.heap.size, 0, none⟩) 20 20) (W.alloc (.cells (zeroCells 20) 3)) := fun W => make_row 20 (by omega) W
            go_region_law (first
                | (try go_simp
                   go_at_call 130
                   first
                | (have h0 := (((HS3.out.mk20).litI2 1 0).litI2 21 22).dr
                   try simp only [asz] at h0
                   with_reducible refine (among_S [1, 0] h0.s4.s3 rfl (by omega) (by omega) (by omega)).mono ?_
                   rintro e wSABFC ⟨v, rfl, hv, hs⟩
                   have SABFC := Lib.hid hs.tl
                   clear hs hv h0)
                | (have h0 := (SABFC.out.litI2 v 1)
                   try simp only [asz] at h0
                   with_reducible refine (among_S [21, 22] h0.s2.s3 rfl (by omega) (by omega) (by omega)).mono ?_
                   rintro e wSABFCDG ⟨m, rfl, hv, hs⟩
                   have hm2 : 0 ≤ m ∧ m ≤ 22 := by simp at hv; omega
                   obtain ⟨m, rfl⟩ := Int.eq_ofNat_of_zero_le hm2.1
                   have hm3 : m ≤ 22 := by omega
                   have SABFCDG := Lib.hid hs.tl
                   clear hs hv h0)
                | (have h0 := SABFCDE.out
                   try simp only [asz] at h0
                   with_reducible refine (among_S [21, 22] h0.s3.s4 rfl (by omega) (by omega) (by omega)).mono ?_
                   rintro e wSABFCDEG ⟨m, rfl, hv, hs⟩
                   have hm2 : 0 ≤ m ∧ m ≤ 22 := by simp at hv; omega
                   obtain ⟨m, rfl⟩ := Int.eq_ofNat_of_zero_le hm2.1
                   have hm3 : m ≤ 22 := by omega
                   have SABFCDEG := Lib.hid hs.tl
                   clear hs hv h0
                   obtain ⟨L, hL, h7⟩ := cut22 SABFCDEG.out.s2 rfl hm3
                   have hmc : (m : Int) ≤ (c5 : Int) := by omega
                   obtain ⟨t0, t1, t2, t3⟩ := bx h7.s4.hd
                   have h8 := (h7.s4.setB 0 (.slice (some ⟨g5, 0, none⟩) m c5)).s7.s7.s4.s4.s5
                   have HF5 := Lib.hid ((h8.under (fun h => h.under (fun h => h.under (fun h => h.under (fun h => h.under (fun h => h.tl.tl) (by simp +contextual)) (by simp +contextual)) (by simp +contextual)) (by simp +contextual)) (by simp +contextual)).more (m := n + 8000 + 2 + 2 + 2) (by omega))
                   clear h7 h8)
                | (have h0 := SABFC.out
                   try simp only [asz] at h0
                   with_reducible refine (among_S [21, 22] h0.s2 rfl (by omega) (by omega) (by omega)).mono ?_
                   rintro e wSABFCG ⟨m, rfl, hv, hs⟩
                   have hm2 : 0 ≤ m ∧ m ≤ 22 := by simp at hv; omega
                   obtain ⟨m, rfl⟩ := Int.eq_ofNat_of_zero_le hm2.1
                   have hm3 : m ≤ 22 := by omega
                   have SABFCG := Lib.hid hs.tl
                   clear hs hv h0)
                | (have h0 := ((HS3.out.mk20).litI2 1 0).dr
                   try simp only [asz] at h0
                   with_reducible refine (among_S [1, 0] h0.s3.s2 rfl (by omega) (by omega) (by omega)).mono ?_
                   rintro e wSABC ⟨v, rfl, hv, hs⟩
                   have SABC := Lib.hid hs.tl
                   clear hs hv h0)
                | (have h0 := ((SABC.out.litI2 21 22).litI2 v 1)
                   try simp only [asz] at h0
                   with_reducible refine (among_S [21, 22] h0.s3.s3 rfl (by omega) (by omega) (by omega)).mono ?_
                   rintro e wSABCFDG ⟨m, rfl, hv, hs⟩
                   have hm2 : 0 ≤ m ∧ m ≤ 22 := by simp at hv; omega
                   obtain ⟨m, rfl⟩ := Int.eq_ofNat_of_zero_le hm2.1
                   have hm3 : m ≤ 22 := by omega
                   have SABCFDG := Lib.hid hs.tl
                   clear hs hv h0)
                | (have h0 := SABCFDE.out
                   try simp only [asz] at h0
                   with_reducible refine (among_S [21, 22] h0.s4.s4 rfl (by omega) (by omega) (by omega)).mono ?_
                   rintro e wSABCFDEG ⟨m, rfl, hv, hs⟩
                   have hm2 : 0 ≤ m ∧ m ≤ 22 := by simp at hv; omega
                   obtain ⟨m, rfl⟩ := Int.eq_ofNat_of_zero_le hm2.1
                   have hm3 : m ≤ 22 := by omega
                   have SABCFDEG := Lib.hid hs.tl
                   clear hs hv h0
                   obtain ⟨L, hL, h7⟩ := cut22 SABCFDEG.out.s2 rfl hm3
                   have hmc : (m : Int) ≤ (c5 : Int) := by omega
                   obtain ⟨t0, t1, t2, t3⟩ := bx h7.s4.hd
                   have h8 := (h7.s4.setB 0 (.slice (some ⟨g5, 0, none⟩) m c5)).s7.s7.s4.s4.s5
                   have HF5 := Lib.hid ((h8.under (fun h => h.under (fun h => h.under (fun h => h.under (fun h => h.under (fun h => h.tl.tl) (by simp +contextual)) (by simp +contextual)) (by simp +contextual)) (by simp +contextual)) (by simp +contextual)).more (m := n + 8000 + 2 + 2 + 2) (by omega))
                   clear h7 h8)
                | (have h0 := (SABC.out.litI2 21 22)
                   try simp only [asz] at h0
                   with_reducible refine (among_S [21, 22] h0.s2.s2 rfl (by omega) (by omega) (by omega)).mono ?_
                   rintro e wSABCFG ⟨m, rfl, hv, hs⟩
                   have hm2 : 0 ≤ m ∧ m ≤ 22 := by simp at hv; omega
                   obtain ⟨m, rfl⟩ := Int.eq_ofNat_of_zero_le hm2.1
                   have hm3 : m ≤ 22 := by omega
                   have SABCFG := Lib.hid hs.tl
                   clear hs hv h0)
                | (have h0 := ((SABC.out.litI2 v 1).litI2 21 22)
                   try simp only [asz] at h0
                   with_reducible refine (among_S [21, 22] h0.s3.s2 rfl (by omega) (by omega) (by omega)).mono ?_
                   rintro e wSABCDFG ⟨m, rfl, hv, hs⟩
                   have hm2 : 0 ≤ m ∧ m ≤ 22 := by simp at hv; omega
                   obtain ⟨m, rfl⟩ := Int.eq_ofNat_of_zero_le hm2.1
                   have hm3 : m ≤ 22 := by omega
                   have SABCDFG := Lib.hid hs.tl
                   clear hs hv h0)
                | (have h0 := SABCDFE.out
                   try simp only [asz] at h0
                   with_reducible refine (among_S [21, 22] h0.s4.s3 rfl (by omega) (by omega) (by omega)).mono ?_
                   rintro e wSABCDFEG ⟨m, rfl, hv, hs⟩
                   have hm2 : 0 ≤ m ∧ m ≤ 22 := by simp at hv; omega
                   obtain ⟨m, rfl⟩ := Int.eq_ofNat_of_zero_le hm2.1
                   have hm3 : m ≤ 22 := by omega
                   have SABCDFEG := Lib.hid hs.tl
                   clear hs hv h0
                   obtain ⟨L, hL, h7⟩ := cut22 SABCDFEG.out.s2 rfl hm3
                   have hmc : (m : Int) ≤ (c5 : Int) := by omega
                   obtain ⟨t0, t1, t2, t3⟩ := bx h7.s4.hd
                   have h8 := (h7.s4.setB 0 (.slice (some ⟨g5, 0, none⟩) m c5)).s7.s7.s4.s4.s5
                   have HF5 := Lib.hid ((h8.under (fun h => h.under (fun h => h.under (fun h => h.under (fun h => h.under (fun h => h.tl.tl) (by simp +contextual)) (by simp +contextual)) (by simp +contextual)) (by simp +contextual)) (by simp +contextual)).more (m := n + 8000 + 2 + 2 + 2) (by omega))
                   clear h7 h8)
                | (have h0 := (SABCDE.out.litI2 21 22)
                   try simp only [asz] at h0
                   with_reducible refine (among_S [21, 22] h0.s4.s2 rfl (by omega) (by omega) (by omega)).mono ?_
                   rintro e wSABCDEFG ⟨m, rfl, hv, hs⟩
                   have hm2 : 0 ≤ m ∧ m ≤ 22 := by simp at hv; omega
                   obtain ⟨m, rfl⟩ := Int.eq_ofNat_of_zero_le hm2.1
                   have hm3 : m ≤ 22 := by omega
                   have SABCDEFG := Lib.hid hs.tl
                   clear hs hv h0
                   obtain ⟨L, hL, h7⟩ := cut22 SABCDEFG.out.s2 rfl hm3
                   have hmc : (m : Int) ≤ (c5 : Int) := by omega
                   obtain ⟨t0, t1, t2, t3⟩ := bx h7.s4.hd
                   have h8 := (h7.s4.setB 0 (.slice (some ⟨g5, 0, none⟩) m c5)).s7.s7.s4.s4.s5
                   have HF5 := Lib.hid ((h8.under (fun h => h.under (fun h => h.under (fun h => h.under (fun h => h.under (fun h => h.tl.tl) (by simp +contextual)) (by simp +contextual)) (by simp +contextual)) (by simp +contextual)) (by simp +contextual)).more (m := n + 8000 + 2 + 2 + 2) (by omega))
                   clear h7 h8)
                | (have h0 := (((HS3.out.mk20).litI2 21 22).litI2 1 0).dr
                   try simp only [asz] at h0
                   with_reducible refine (among_S [1, 0] h0.s4.s2 rfl (by omega) (by omega) (by omega)).mono ?_
                   rintro e wSAFBC ⟨v, rfl, hv, hs⟩
                   have SAFBC := Lib.hid hs.tl
                   clear hs hv h0)
                | (have h0 := (SAFBC.out.litI2 v 1)
                   try simp only [asz] at h0
                   with_reducible refine (among_S [21, 22] h0.s2.s3 rfl (by omega) (by omega) (by omega)).mono ?_
                   rintro e wSAFBCDG ⟨m, rfl, hv, hs⟩
                   have hm2 : 0 ≤ m ∧ m ≤ 22 := by simp at hv; omega
                   obtain ⟨m, rfl⟩ := Int.eq_ofNat_of_zero_le hm2.1
                   have hm3 : m ≤ 22 := by omega
                   have SAFBCDG := Lib.hid hs.tl
                   clear hs hv h0)
                | (have h0 := SAFBCDE.out
                   try simp only [asz] at h0
                   with_reducible refine (among_S [21, 22] h0.s3.s4 rfl (by omega) (by omega) (by omega)).mono ?_
                   rintro e wSAFBCDEG ⟨m, rfl, hv, hs⟩
                   have hm2 : 0 ≤ m ∧ m ≤ 22 := by simp at hv; omega
                   obtain ⟨m, rfl⟩ := Int.eq_ofNat_of_zero_le hm2.1
                   have hm3 : m ≤ 22 := by omega
                   have SAFBCDEG := Lib.hid hs.tl
                   clear hs hv h0
                   obtain ⟨L, hL, h7⟩ := cut22 SAFBCDEG.out.s2 rfl hm3
                   have hmc : (m : Int) ≤ (c5 : Int) := by omega
                   obtain ⟨t0, t1, t2, t3⟩ := bx h7.s4.hd
                   have h8 := (h7.s4.setB 0 (.slice (some ⟨g5, 0, none⟩) m c5)).s7.s7.s4.s4.s5
                   have HF5 := Lib.hid ((h8.under (fun h => h.under (fun h => h.under (fun h => h.under (fun h => h.under (fun h => h.tl.tl) (by simp +contextual)) (by simp +contextual)) (by simp +contextual)) (by simp +contextual)) (by simp +contextual)).more (m := n + 8000 + 2 + 2 + 2) (by omega))
                   clear h7 h8)
                | (have h0 := SAFBC.out
                   try simp only [asz] at h0
                   with_reducible refine (among_S [21, 22] h0.s2 rfl (by omega) (by omega) (by omega)).mono ?_
                   rintro e wSAFBCG ⟨m, rfl, hv, hs⟩
                   have hm2 : 0 ≤ m ∧ m ≤ 22 := by simp at hv; omega
                   obtain ⟨m, rfl⟩ := Int.eq_ofNat_of_zero_le hm2.1
                   have hm3 : m ≤ 22 := by omega
                   have SAFBCG := Lib.hid hs.tl
                   clear hs hv h0)
                | (have h0 := (((HS3.out.litI2 1 0).mk20).litI2 21 22).dr
                   try simp only [asz] at h0
                   with_reducible refine (among_S [1, 0] h0.s4.s4 rfl (by omega) (by omega) (by omega)).mono ?_
                   rintro e wSBAFC ⟨v, rfl, hv, hs⟩
                   have SBAFC := Lib.hid hs.tl
                   clear hs hv h0)
                | (have h0 := (SBAFC.out.litI2 v 1)
                   try simp only [asz] at h0
                   with_reducible refine (among_S [21, 22] h0.s2.s3 rfl (by omega) (by omega) (by omega)).mono ?_
                   rintro e wSBAFCDG ⟨m, rfl, hv, hs⟩
                   have hm2 : 0 ≤ m ∧ m ≤ 22 := by simp at hv; omega
                   obtain ⟨m, rfl⟩ := Int.eq_ofNat_of_zero_le hm2.1
                   have hm3 : m ≤ 22 := by omega
                   have SBAFCDG := Lib.hid hs.tl
                   clear hs hv h0)
                | (have h0 := SBAFCDE.out
                   try simp only [asz] at h0
                   with_reducible refine (among_S [21, 22] h0.s3.s4 rfl (by omega) (by omega) (by omega)).mono ?_
                   rintro e wSBAFCDEG ⟨m, rfl, hv, hs⟩
                   have hm2 : 0 ≤ m ∧ m ≤ 22 := by simp at hv; omega
                   obtain ⟨m, rfl⟩ := Int.eq_ofNat_of_zero_le hm2.1
                   have hm3 : m ≤ 22 := by omega
                   have SBAFCDEG := Lib.hid hs.tl
                   clear hs hv h0
                   obtain ⟨L, hL, h7⟩ := cut22 SBAFCDEG.out.s2 rfl hm3
                   have hmc : (m : Int) ≤ (c5 : Int) := by omega
                   obtain ⟨t0, t1, t2, t3⟩ := bx h7.s4.hd
                   have h8 := (h7.s4.setB 0 (.slice (some ⟨g5, 0, none⟩) m c5)).s7.s7.s4.s4.s5
                   have HF5 := Lib.hid ((h8.under (fun h => h.under (fun h => h.under (fun h => h.under (fun h => h.under (fun h => h.tl.tl) (by simp +contextual)) (by simp +contextual)) (by simp +contextual)) (by simp +contextual)) (by simp +contextual)).more (m := n + 8000 + 2 + 2 + 2) (by omega))
                   clear h7 h8)
                | (have h0 := SBAFC.out
                   try simp only [asz] at h0
                   with_reducible refine (among_S [21, 22] h0.s2 rfl (by omega) (by omega) (by omega)).mono ?_
                   rintro e wSBAFCG ⟨m, rfl, hv, hs⟩
                   have hm2 : 0 ≤ m ∧ m ≤ 22 := by simp at hv; omega
                   obtain ⟨m, rfl⟩ := Int.eq_ofNat_of_zero_le hm2.1
                   have hm3 : m ≤ 22 := by omega
                   have SBAFCG := Lib.hid hs.tl
                   clear hs hv h0)
                | (have h0 := ((HS3.out.litI2 1 0).mk20).dr
                   try simp only [asz] at h0
                   with_reducible refine (among_S [1, 0] h0.s3.s3 rfl (by omega) (by omega) (by omega)).mono ?_
                   rintro e wSBAC ⟨v, rfl, hv, hs⟩
                   have SBAC := Lib.hid hs.tl
                   clear hs hv h0)
                | (have h0 := ((SBAC.out.litI2 21 22).litI2 v 1)
                   try simp only [asz] at h0
                   with_reducible refine (among_S [21, 22] h0.s3.s3 rfl (by omega) (by omega) (by omega)).mono ?_
                   rintro e wSBACFDG ⟨m, rfl, hv, hs⟩
                   have hm2 : 0 ≤ m ∧ m ≤ 22 := by simp at hv; omega
                   obtain ⟨m, rfl⟩ := Int.eq_ofNat_of_zero_le hm2.1
                   have hm3 : m ≤ 22 := by omega
                   have SBACFDG := Lib.hid hs.tl
                   clear hs hv h0)
                | (have h0 := SBACFDE.out
                   try simp only [asz] at h0
                   with_reducible refine (among_S [21, 22] h0.s4.s4 rfl (by omega) (by omega) (by omega)).mono ?_
                   rintro e wSBACFDEG ⟨m, rfl, hv, hs⟩
                   have hm2 : 0 ≤ m ∧ m ≤ 22 := by simp at hv; omega
                   obtain ⟨m, rfl⟩ := Int.eq_ofNat_of_zero_le hm2.1
                   have hm3 : m ≤ 22 := by omega
                   have SBACFDEG := Lib.hid hs.tl
                   clear hs hv h0
                   obtain ⟨L, hL, h7⟩ := cut22 SBACFDEG.out.s2 rfl hm3
                   have hmc : (m : Int) ≤ (c5 : Int) := by omega
                   obtain ⟨t0, t1, t2, t3⟩ := bx h7.s4.hd
                   have h8 := (h7.s4.setB 0 (.slice (some ⟨g5, 0, none⟩) m c5)).s7.s7.s4.s4.s5
                   have HF5 := Lib.hid ((h8.under (fun h => h.under (fun h => h.under (fun h => h.under (fun h => h.under (fun h => h.tl.tl) (by simp +contextual)) (by simp +contextual)) (by simp +contextual)) (by simp +contextual)) (by simp +contextual)).more (m := n + 8000 + 2 + 2 + 2) (by omega))
                   clear h7 h8)
                | (have h0 := (SBAC.out.litI2 21 22)
                   try simp only [asz] at h0
                   with_reducible refine (among_S [21, 22] h0.s2.s2 rfl (by omega) (by omega) (by omega)).mono ?_
                   rintro e wSBACFG ⟨m, rfl, hv, hs⟩
                   have hm2 : 0 ≤ m ∧ m ≤ 22 := by simp at hv; omega
                   obtain ⟨m, rfl⟩ := Int.eq_ofNat_of_zero_le hm2.1
                   have hm3 : m ≤ 22 := by omega
                   have SBACFG := Lib.hid hs.tl
                   clear hs hv h0)
                | (have h0 := ((SBAC.out.litI2 v 1).litI2 21 22)
                   try simp only [asz] at h0
                   with_reducible refine (among_S [21, 22] h0.s3.s2 rfl (by omega) (by omega) (by omega)).mono ?_
                   rintro e wSBACDFG ⟨m, rfl, hv, hs⟩
                   have hm2 : 0 ≤ m ∧ m ≤ 22 := by simp at hv; omega
                   obtain ⟨m, rfl⟩ := Int.eq_ofNat_of_zero_le hm2.1
                   have hm3 : m ≤ 22 := by omega
                   have SBACDFG := Lib.hid hs.tl
                   clear hs hv h0)
                | (have h0 := SBACDFE.out
                   try simp only [asz] at h0
                   with_reducible refine (among_S [21, 22] h0.s4.s3 rfl (by omega) (by omega) (by omega)).mono ?_
                   rintro e wSBACDFEG ⟨m, rfl, hv, hs⟩
                   have hm2 : 0 ≤ m ∧ m ≤ 22 := by simp at hv; omega
                   obtain ⟨m, rfl⟩ := Int.eq_ofNat_of_zero_le hm2.1
                   have hm3 : m ≤ 22 := by omega
                   have SBACDFEG := Lib.hid hs.tl
                   clear hs hv h0
                   obtain ⟨L, hL, h7⟩ := cut22 SBACDFEG.out.s2 rfl hm3
                   have hmc : (m : Int) ≤ (c5 : Int) := by omega
                   obtain ⟨t0, t1, t2, t3⟩ := bx h7.s4.hd
                   have h8 := (h7.s4.setB 0 (.slice (some ⟨g5, 0, none⟩) m c5)).s7.s7.s4.s4.s5
                   have HF5 := Lib.hid ((h8.under (fun h => h.under (fun h => h.under (fun h => h.under (fun h => h.under (fun h => h.tl.tl) (by simp +contextual)) (by simp +contextual)) (by simp +contextual)) (by simp +contextual)) (by simp +contextual)).more (m := n + 8000 + 2 + 2 + 2) (by omega))
                   clear h7 h8)
                | (have h0 := (SBACDE.out.litI2 21 22)
                   try simp only [asz] at h0
                   with_reducible refine (among_S [21, 22] h0.s4.s2 rfl (by omega) (by omega) (by omega)).mono ?_
                   rintro e wSBACDEFG ⟨m, rfl, hv, hs⟩
                   have hm2 : 0 ≤ m ∧ m ≤ 22 := by simp at hv; omega
                   obtain ⟨m, rfl⟩ := Int.eq_ofNat_of_zero_le hm2.1
                   have hm3 : m ≤ 22 := by omega
                   have SBACDEFG := Lib.hid hs.tl
                   clear hs hv h0
                   obtain ⟨L, hL, h7⟩ := cut22 SBACDEFG.out.s2 rfl hm3
                   have hmc : (m : Int) ≤ (c5 : Int) := by omega
                   obtain ⟨t0, t1, t2, t3⟩ := bx h7.s4.hd
                   have h8 := (h7.s4.setB 0 (.slice (some ⟨g5, 0, none⟩) m c5)).s7.s7.s4.s4.s5
                   have HF5 := Lib.hid ((h8.under (fun h => h.under (fun h => h.under (fun h => h.under (fun h => h.under (fun h => h.tl.tl) (by simp +contextual)) (by simp +contextual)) (by simp +contextual)) (by simp +contextual)) (by simp +contextual)).more (m := n + 8000 + 2 + 2 + 2) (by omega))
                   clear h7 h8)
                | (have h0 := (((HS3.out.litI2 1 0).litI2 21 22).mk20).dr
                   try simp only [asz] at h0
                   with_reducible refine (among_S [1, 0] h0.s4.s4 rfl (by omega) (by omega) (by omega)).mono ?_
                   rintro e wSBFAC ⟨v, rfl, hv, hs⟩
                   have SBFAC := Lib.hid hs.tl
                   clear hs hv h0)
                | (have h0 := (SBFAC.out.litI2 v 1)
                   try simp only [asz] at h0
                   with_reducible refine (among_S [21, 22] h0.s2.s4 rfl (by omega) (by omega) (by omega)).mono ?_
                   rintro e wSBFACDG ⟨m, rfl, hv, hs⟩
                   have hm2 : 0 ≤ m ∧ m ≤ 22 := by simp at hv; omega
                   obtain ⟨m, rfl⟩ := Int.eq_ofNat_of_zero_le hm2.1
                   have hm3 : m ≤ 22 := by omega
                   have SBFACDG := Lib.hid hs.tl
                   clear hs hv h0)
                | (have h0 := SBFACDE.out
                   try simp only [asz] at h0
                   with_reducible refine (among_S [21, 22] h0.s3.s4 rfl (by omega) (by omega) (by omega)).mono ?_
                   rintro e wSBFACDEG ⟨m, rfl, hv, hs⟩
                   have hm2 : 0 ≤ m ∧ m ≤ 22 := by simp at hv; omega
                   obtain ⟨m, rfl⟩ := Int.eq_ofNat_of_zero_le hm2.1
                   have hm3 : m ≤ 22 := by omega
                   have SBFACDEG := Lib.hid hs.tl
                   clear hs hv h0
                   obtain ⟨L, hL, h7⟩ := cut22 SBFACDEG.out.s2 rfl hm3
                   have hmc : (m : Int) ≤ (c5 : Int) := by omega
                   obtain ⟨t0, t1, t2, t3⟩ := bx h7.s4.hd
                   have h8 := (h7.s4.setB 0 (.slice (some ⟨g5, 0, none⟩) m c5)).s7.s7.s4.s4.s5
                   have HF5 := Lib.hid ((h8.under (fun h => h.under (fun h => h.under (fun h => h.under (fun h => h.under (fun h => h.tl.tl) (by simp +contextual)) (by simp +contextual)) (by simp +contextual)) (by simp +contextual)) (by simp +contextual)).more (m := n + 8000 + 2 + 2 + 2) (by omega))
                   clear h7 h8)
                | (have h0 := SBFAC.out
                   try simp only [asz] at h0
                   with_reducible refine (among_S [21, 22] h0.s3 rfl (by omega) (by omega) (by omega)).mono ?_
                   rintro e wSBFACG ⟨m, rfl, hv, hs⟩
                   have hm2 : 0 ≤ m ∧ m ≤ 22 := by simp at hv; omega
                   obtain ⟨m, rfl⟩ := Int.eq_ofNat_of_zero_le hm2.1
                   have hm3 : m ≤ 22 := by omega
                   have SBFACG := Lib.hid hs.tl
                   clear hs hv h0)
                | (have h0 := ((HS3.out.litI2 1 0).litI2 21 22).dr
                   try simp only [asz] at h0
                   with_reducible refine (among_S [1, 0] h0.s3.s3 rfl (by omega) (by omega) (by omega)).mono ?_
                   rintro e wSBFC ⟨v, rfl, hv, hs⟩
                   have SBFC := Lib.hid hs.tl
                   clear hs hv h0)
                | (have h0 := ((SBFC.out.mk20).litI2 v 1)
                   try simp only [asz] at h0
                   with_reducible refine (among_S [21, 22] h0.s3.s4 rfl (by omega) (by omega) (by omega)).mono ?_
                   rintro e wSBFCADG ⟨m, rfl, hv, hs⟩
                   have hm2 : 0 ≤ m ∧ m ≤ 22 := by simp at hv; omega
                   obtain ⟨m, rfl⟩ := Int.eq_ofNat_of_zero_le hm2.1
                   have hm3 : m ≤ 22 := by omega
                   have SBFCADG := Lib.hid hs.tl
                   clear hs hv h0)
                | (have h0 := SBFCADE.out
                   try simp only [asz] at h0
                   with_reducible refine (among_S [21, 22] h0.s3.s4 rfl (by omega) (by omega) (by omega)).mono ?_
                   rintro e wSBFCADEG ⟨m, rfl, hv, hs⟩
                   have hm2 : 0 ≤ m ∧ m ≤ 22 := by simp at hv; omega
                   obtain ⟨m, rfl⟩ := Int.eq_ofNat_of_zero_le hm2.1
                   have hm3 : m ≤ 22 := by omega
                   have SBFCADEG := Lib.hid hs.tl
                   clear hs hv h0
                   obtain ⟨L, hL, h7⟩ := cut22 SBFCADEG.out.s2 rfl hm3
                   have hmc : (m : Int) ≤ (c5 : Int) := by omega
                   obtain ⟨t0, t1, t2, t3⟩ := bx h7.s4.hd
                   have h8 := (h7.s4.setB 0 (.slice (some ⟨g5, 0, none⟩) m c5)).s7.s7.s4.s4.s5
                   have HF5 := Lib.hid ((h8.under (fun h => h.under (fun h => h.under (fun h => h.under (fun h => h.under (fun h => h.tl.tl) (by simp +contextual)) (by simp +contextual)) (by simp +contextual)) (by simp +contextual)) (by simp +contextual)).more (m := n + 8000 + 2 + 2 + 2) (by omega))
                   clear h7 h8)
                | (have h0 := (SBFC.out.mk20)
                   try simp only [asz] at h0
                   with_reducible refine (among_S [21, 22] h0.s2.s3 rfl (by omega) (by omega) (by omega)).mono ?_
                   rintro e wSBFCAG ⟨m, rfl, hv, hs⟩
                   have hm2 : 0 ≤ m ∧ m ≤ 22 := by simp at hv; omega
                   obtain ⟨m, rfl⟩ := Int.eq_ofNat_of_zero_le hm2.1
                   have hm3 : m ≤ 22 := by omega
                   have SBFCAG := Lib.hid hs.tl
                   clear hs hv h0)
                | (have h0 := ((SBFC.out.litI2 v 1).mk20)
                   try simp only [asz] at h0
                   with_reducible refine (among_S [21, 22] h0.s3.s4 rfl (by omega) (by omega) (by omega)).mono ?_
                   rintro e wSBFCDAG ⟨m, rfl, hv, hs⟩
                   have hm2 : 0 ≤ m ∧ m ≤ 22 := by simp at hv; omega
                   obtain ⟨m, rfl⟩ := Int.eq_ofNat_of_zero_le hm2.1
                   have hm3 : m ≤ 22 := by omega
                   have SBFCDAG := Lib.hid hs.tl
                   clear hs hv h0)
                | (have h0 := SBFCDAE.out
                   try simp only [asz] at h0
                   with_reducible refine (among_S [21, 22] h0.s3.s4 rfl (by omega) (by omega) (by omega)).mono ?_
                   rintro e wSBFCDAEG ⟨m, rfl, hv, hs⟩
                   have hm2 : 0 ≤ m ∧ m ≤ 22 := by simp at hv; omega
                   obtain ⟨m, rfl⟩ := Int.eq_ofNat_of_zero_le hm2.1
                   have hm3 : m ≤ 22 := by omega
                   have SBFCDAEG := Lib.hid hs.tl
                   clear hs hv h0
                   obtain ⟨L, hL, h7⟩ := cut22 SBFCDAEG.out.s2 rfl hm3
                   have hmc : (m : Int) ≤ (c5 : Int) := by omega
                   obtain ⟨t0, t1, t2, t3⟩ := bx h7.s4.hd
                   have h8 := (h7.s4.setB 0 (.slice (some ⟨g5, 0, none⟩) m c5)).s7.s7.s4.s4.s5
                   have HF5 := Lib.hid ((h8.under (fun h => h.under (fun h => h.under (fun h => h.under (fun h => h.under (fun h => h.tl.tl) (by simp +contextual)) (by simp +contextual)) (by simp +contextual)) (by simp +contextual)) (by simp +contextual)).more (m := n + 8000 + 2 + 2 + 2) (by omega))
                   clear h7 h8)
                | (have h0 := (SBFC.out.litI2 v 1)
                   try simp only [asz] at h0
                   with_reducible refine (among_S [21, 22] h0.s2.s3 rfl (by omega) (by omega) (by omega)).mono ?_
                   rintro e wSBFCDG ⟨m, rfl, hv, hs⟩
                   have hm2 : 0 ≤ m ∧ m ≤ 22 := by simp at hv; omega
                   obtain ⟨m, rfl⟩ := Int.eq_ofNat_of_zero_le hm2.1
                   have hm3 : m ≤ 22 := by omega
                   have SBFCDG := Lib.hid hs.tl
                   clear hs hv h0)
                | (have h0 := SBFC.out
                   try simp only [asz] at h0
                   with_reducible refine (among_S [21, 22] h0.s2 rfl (by omega) (by omega) (by omega)).mono ?_
                   rintro e wSBFCG ⟨m, rfl, hv, hs⟩
                   have hm2 : 0 ≤ m ∧ m ≤ 22 := by simp at hv; omega
                   obtain ⟨m, rfl⟩ := Int.eq_ofNat_of_zero_le hm2.1
                   have hm3 : m ≤ 22 := by omega
                   have SBFCG := Lib.hid hs.tl
                   clear hs hv h0)
                | (have h0 := (HS3.out.litI2 1 0).dr
                   try simp only [asz] at h0
                   with_reducible refine (among_S [1, 0] h0.s2.s2 rfl (by omega) (by omega) (by omega)).mono ?_
                   rintro e wSBC ⟨v, rfl, hv, hs⟩
                   have SBC := Lib.hid hs.tl
                   clear hs hv h0)
                | (have h0 := (((SBC.out.mk20).litI2 21 22).litI2 v 1)
                   try simp only [asz] at h0
                   with_reducible refine (among_S [21, 22] h0.s4.s3 rfl (by omega) (by omega) (by omega)).mono ?_
                   rintro e wSBCAFDG ⟨m, rfl, hv, hs⟩
                   have hm2 : 0 ≤ m ∧ m ≤ 22 := by simp at hv; omega
                   obtain ⟨m, rfl⟩ := Int.eq_ofNat_of_zero_le hm2.1
                   have hm3 : m ≤ 22 := by omega
                   have SBCAFDG := Lib.hid hs.tl
                   clear hs hv h0)
                | (have h0 := SBCAFDE.out
                   try simp only [asz] at h0
                   with_reducible refine (among_S [21, 22] h0.s4.s4 rfl (by omega) (by omega) (by omega)).mono ?_
                   rintro e wSBCAFDEG ⟨m, rfl, hv, hs⟩
                   have hm2 : 0 ≤ m ∧ m ≤ 22 := by simp at hv; omega
                   obtain ⟨m, rfl⟩ := Int.eq_ofNat_of_zero_le hm2.1
                   have hm3 : m ≤ 22 := by omega
                   have SBCAFDEG := Lib.hid hs.tl
                   clear hs hv h0
                   obtain ⟨L, hL, h7⟩ := cut22 SBCAFDEG.out.s2 rfl hm3
                   have hmc : (m : Int) ≤ (c5 : Int) := by omega
                   obtain ⟨t0, t1, t2, t3⟩ := bx h7.s4.hd
                   have h8 := (h7.s4.setB 0 (.slice (some ⟨g5, 0, none⟩) m c5)).s7.s7.s4.s4.s5
                   have HF5 := Lib.hid ((h8.under (fun h => h.under (fun h => h.under (fun h => h.under (fun h => h.under (fun h => h.tl.tl) (by simp +contextual)) (by simp +contextual)) (by simp +contextual)) (by simp +contextual)) (by simp +contextual)).more (m := n + 8000 + 2 + 2 + 2) (by omega))
                   clear h7 h8)
                | (have h0 := ((SBC.out.mk20).litI2 21 22)
                   try simp only [asz] at h0
                   with_reducible refine (among_S [21, 22] h0.s3.s2 rfl (by omega) (by omega) (by omega)).mono ?_
                   rintro e wSBCAFG ⟨m, rfl, hv, hs⟩
                   have hm2 : 0 ≤ m ∧ m ≤ 22 := by simp at hv; omega
                   obtain ⟨m, rfl⟩ := Int.eq_ofNat_of_zero_le hm2.1
                   have hm3 : m ≤ 22 := by omega
                   have SBCAFG := Lib.hid hs.tl
                   clear hs hv h0)
                | (have h0 := (((SBC.out.mk20).litI2 v 1).litI2 21 22)
                   try simp only [asz] at h0
                   with_reducible refine (among_S [21, 22] h0.s4.s2 rfl (by omega) (by omega) (by omega)).mono ?_
                   rintro e wSBCADFG ⟨m, rfl, hv, hs⟩
                   have hm2 : 0 ≤ m ∧ m ≤ 22 := by simp at hv; omega
                   obtain ⟨m, rfl⟩ := Int.eq_ofNat_of_zero_le hm2.1
                   have hm3 : m ≤ 22 := by omega
                   have SBCADFG := Lib.hid hs.tl
                   clear hs hv h0)
                | (have h0 := SBCADFE.out
                   try simp only [asz] at h0
                   with_reducible refine (among_S [21, 22] h0.s4.s3 rfl (by omega) (by omega) (by omega)).mono ?_
                   rintro e wSBCADFEG ⟨m, rfl, hv, hs⟩
                   have hm2 : 0 ≤ m ∧ m ≤ 22 := by simp at hv; omega
                   obtain ⟨m, rfl⟩ := Int.eq_ofNat_of_zero_le hm2.1
                   have hm3 : m ≤ 22 := by omega
                   have SBCADFEG := Lib.hid hs.tl
                   clear hs hv h0
                   obtain ⟨L, hL, h7⟩ := cut22 SBCADFEG.out.s2 rfl hm3
                   have hmc : (m : Int) ≤ (c5 : Int) := by omega
                   obtain ⟨t0, t1, t2, t3⟩ := bx h7.s4.hd
                   have h8 := (h7.s4.setB 0 (.slice (some ⟨g5, 0, none⟩) m c5)).s7.s7.s4.s4.s5
                   have HF5 := Lib.hid ((h8.under (fun h => h.under (fun h => h.under (fun h => h.under (fun h => h.under (fun h => h.tl.tl) (by simp +contextual)) (by simp +contextual)) (by simp +contextual)) (by simp +contextual)) (by simp +contextual)).more (m := n + 8000 + 2 + 2 + 2) (by omega))
                   clear h7 h8)
                | (have h0 := (SBCADE.out.litI2 21 22)
                   try simp only [asz] at h0
                   with_reducible refine (among_S [21, 22] h0.s4.s2 rfl (by omega) (by omega) (by omega)).mono ?_
                   rintro e wSBCADEFG ⟨m, rfl, hv, hs⟩
                   have hm2 : 0 ≤ m ∧ m ≤ 22 := by simp at hv; omega
                   obtain ⟨m, rfl⟩ := Int.eq_ofNat_of_zero_le hm2.1
                   have hm3 : m ≤ 22 := by omega
                   have SBCADEFG := Lib.hid hs.tl
                   clear hs hv h0
                   obtain ⟨L, hL, h7⟩ := cut22 SBCADEFG.out.s2 rfl hm3
                   have hmc : (m : Int) ≤ (c5 : Int) := by omega
                   obtain ⟨t0, t1, t2, t3⟩ := bx h7.s4.hd
                   have h8 := (h7.s4.setB 0 (.slice (some ⟨g5, 0, none⟩) m c5)).s7.s7.s4.s4.s5
                   have HF5 := Lib.hid ((h8.under (fun h => h.under (fun h => h.under (fun h => h.under (fun h => h.under (fun h => h.tl.tl) (by simp +contextual)) (by simp +contextual)) (by simp +contextual)) (by simp +contextual)) (by simp +contextual)).more (m := n + 8000 + 2 + 2 + 2) (by omega))
                   clear h7 h8)
                | (have h0 := (((SBC.out.litI2 21 22).mk20).litI2 v 1)
                   try simp only [asz] at h0
                   with_reducible refine (among_S [21, 22] h0.s4.s4 rfl (by omega) (by omega) (by omega)).mono ?_
                   rintro e wSBCFADG ⟨m, rfl, hv, hs⟩
                   have hm2 : 0 ≤ m ∧ m ≤ 22 := by simp at hv; omega
                   obtain ⟨m, rfl⟩ := Int.eq_ofNat_of_zero_le hm2.1
                   have hm3 : m ≤ 22 := by omega
                   have SBCFADG := Lib.hid hs.tl
                   clear hs hv h0)
                | (have h0 := SBCFADE.out
                   try simp only [asz] at h0
                   with_reducible refine (among_S [21, 22] h0.s4.s4 rfl (by omega) (by omega) (by omega)).mono ?_
                   rintro e wSBCFADEG ⟨m, rfl, hv, hs⟩
                   have hm2 : 0 ≤ m ∧ m ≤ 22 := by simp at hv; omega
                   obtain ⟨m, rfl⟩ := Int.eq_ofNat_of_zero_le hm2.1
                   have hm3 : m ≤ 22 := by omega
                   have SBCFADEG := Lib.hid hs.tl
                   clear hs hv h0
                   obtain ⟨L, hL, h7⟩ := cut22 SBCFADEG.out.s2 rfl hm3
                   have hmc : (m : Int) ≤ (c5 : Int) := by omega
                   obtain ⟨t0, t1, t2, t3⟩ := bx h7.s4.hd
                   have h8 := (h7.s4.setB 0 (.slice (some ⟨g5, 0, none⟩) m c5)).s7.s7.s4.s4.s5
                   have HF5 := Lib.hid ((h8.under (fun h => h.under (fun h => h.under (fun h => h.under (fun h => h.under (fun h => h.tl.tl) (by simp +contextual)) (by simp +contextual)) (by simp +contextual)) (by simp +contextual)) (by simp +contextual)).more (m := n + 8000 + 2 + 2 + 2) (by omega))
                   clear h7 h8)
                | (have h0 := ((SBC.out.litI2 21 22).mk20)
                   try simp only [asz] at h0
                   with_reducible refine (among_S [21, 22] h0.s3.s3 rfl (by omega) (by omega) (by omega)).mono ?_
                   rintro e wSBCFAG ⟨m, rfl, hv, hs⟩
                   have hm2 : 0 ≤ m ∧ m ≤ 22 := by simp at hv; omega
                   obtain ⟨m, rfl⟩ := Int.eq_ofNat_of_zero_le hm2.1
                   have hm3 : m ≤ 22 := by omega
                   have SBCFAG := Lib.hid hs.tl
                   clear hs hv h0)
                | (have h0 := (((SBC.out.litI2 21 22).litI2 v 1).mk20)
                   try simp only [asz] at h0
                   with_reducible refine (among_S [21, 22] h0.s4.s4 rfl (by omega) (by omega) (by omega)).mono ?_
                   rintro e wSBCFDAG ⟨m, rfl, hv, hs⟩
                   have hm2 : 0 ≤ m ∧ m ≤ 22 := by simp at hv; omega
                   obtain ⟨m, rfl⟩ := Int.eq_ofNat_of_zero_le hm2.1
                   have hm3 : m ≤ 22 := by omega
                   have SBCFDAG := Lib.hid hs.tl
                   clear hs hv h0)
                | (have h0 := SBCFDAE.out
                   try simp only [asz] at h0
                   with_reducible refine (among_S [21, 22] h0.s4.s4 rfl (by omega) (by omega) (by omega)).mono ?_
                   rintro e wSBCFDAEG ⟨m, rfl, hv, hs⟩
                   have hm2 : 0 ≤ m ∧ m ≤ 22 := by simp at hv; omega
                   obtain ⟨m, rfl⟩ := Int.eq_ofNat_of_zero_le hm2.1
                   have hm3 : m ≤ 22 := by omega
                   have SBCFDAEG := Lib.hid hs.tl
                   clear hs hv h0
                   obtain ⟨L, hL, h7⟩ := cut22 SBCFDAEG.out.s2 rfl hm3
                   have hmc : (m : Int) ≤ (c5 : Int) := by omega
                   obtain ⟨t0, t1, t2, t3⟩ := bx h7.s4.hd
                   have h8 := (h7.s4.setB 0 (.slice (some ⟨g5, 0, none⟩) m c5)).s7.s7.s4.s4.s5
                   have HF5 := Lib.hid ((h8.under (fun h => h.under (fun h => h.under (fun h => h.under (fun h => h.under (fun h => h.tl.tl) (by simp +contextual)) (by simp +contextual)) (by simp +contextual)) (by simp +contextual)) (by simp +contextual)).more (m := n + 8000 + 2 + 2 + 2) (by omega))
                   clear h7 h8)
                | (have h0 := ((SBC.out.litI2 21 22).litI2 v 1)
                   try simp only [asz] at h0
                   with_reducible refine (among_S [21, 22] h0.s3.s3 rfl (by omega) (by omega) (by omega)).mono ?_
                   rintro e wSBCFDG ⟨m, rfl, hv, hs⟩
                   have hm2 : 0 ≤ m ∧ m ≤ 22 := by simp at hv; omega
                   obtain ⟨m, rfl⟩ := Int.eq_ofNat_of_zero_le hm2.1
                   have hm3 : m ≤ 22 := by omega
                   have SBCFDG := Lib.hid hs.tl
                   clear hs hv h0)
                | (have h0 := (SBC.out.litI2 21 22)
                   try simp only [asz] at h0
                   with_reducible refine (among_S [21, 22] h0.s2.s2 rfl (by omega) (by omega) (by omega)).mono ?_
                   rintro e wSBCFG ⟨m, rfl, hv, hs⟩
                   have hm2 : 0 ≤ m ∧ m ≤ 22 := by simp at hv; omega
                   obtain ⟨m, rfl⟩ := Int.eq_ofNat_of_zero_le hm2.1
                   have hm3 : m ≤ 22 := by omega
                   have SBCFG := Lib.hid hs.tl
                   clear hs hv h0)
                | (have h0 := (((SBC.out.litI2 v 1).mk20).litI2 21 22)
                   try simp only [asz] at h0
                   with_reducible refine (among_S [21, 22] h0.s4.s2 rfl (by omega) (by omega) (by omega)).mono ?_
                   rintro e wSBCDAFG ⟨m, rfl, hv, hs⟩
                   have hm2 : 0 ≤ m ∧ m ≤ 22 := by simp at hv; omega
                   obtain ⟨m, rfl⟩ := Int.eq_ofNat_of_zero_le hm2.1
                   have hm3 : m ≤ 22 := by omega
                   have SBCDAFG := Lib.hid hs.tl
                   clear hs hv h0)
                | (have h0 := SBCDAFE.out
                   try simp only [asz] at h0
                   with_reducible refine (among_S [21, 22] h0.s4.s3 rfl (by omega) (by omega) (by omega)).mono ?_
                   rintro e wSBCDAFEG ⟨m, rfl, hv, hs⟩
                   have hm2 : 0 ≤ m ∧ m ≤ 22 := by simp at hv; omega
                   obtain ⟨m, rfl⟩ := Int.eq_ofNat_of_zero_le hm2.1
                   have hm3 : m ≤ 22 := by omega
                   have SBCDAFEG := Lib.hid hs.tl
                   clear hs hv h0
                   obtain ⟨L, hL, h7⟩ := cut22 SBCDAFEG.out.s2 rfl hm3
                   have hmc : (m : Int) ≤ (c5 : Int) := by omega
                   obtain ⟨t0, t1, t2, t3⟩ := bx h7.s4.hd
                   have h8 := (h7.s4.setB 0 (.slice (some ⟨g5, 0, none⟩) m c5)).s7.s7.s4.s4.s5
                   have HF5 := Lib.hid ((h8.under (fun h => h.under (fun h => h.under (fun h => h.under (fun h => h.under (fun h => h.tl.tl) (by simp +contextual)) (by simp +contextual)) (by simp +contextual)) (by simp +contextual)) (by simp +contextual)).more (m := n + 8000 + 2 + 2 + 2) (by omega))
                   clear h7 h8)
                | (have h0 := (SBCDAE.out.litI2 21 22)
                   try simp only [asz] at h0
                   with_reducible refine (among_S [21, 22] h0.s4.s2 rfl (by omega) (by omega) (by omega)).mono ?_
                   rintro e wSBCDAEFG ⟨m, rfl, hv, hs⟩
                   have hm2 : 0 ≤ m ∧ m ≤ 22 := by simp at hv; omega
                   obtain ⟨m, rfl⟩ := Int.eq_ofNat_of_zero_le hm2.1
                   have hm3 : m ≤ 22 := by omega
                   have SBCDAEFG := Lib.hid hs.tl
                   clear hs hv h0
                   obtain ⟨L, hL, h7⟩ := cut22 SBCDAEFG.out.s2 rfl hm3
                   have hmc : (m : Int) ≤ (c5 : Int) := by omega
                   obtain ⟨t0, t1, t2, t3⟩ := bx h7.s4.hd
                   have h8 := (h7.s4.setB 0 (.slice (some ⟨g5, 0, none⟩) m c5)).s7.s7.s4.s4.s5
                   have HF5 := Lib.hid ((h8.under (fun h => h.under (fun h => h.under (fun h => h.under (fun h => h.under (fun h => h.tl.tl) (by simp +contextual)) (by simp +contextual)) (by simp +contextual)) (by simp +contextual)) (by simp +contextual)).more (m := n + 8000 + 2 + 2 + 2) (by omega))
                   clear h7 h8)
                | (have h0 := (((SBC.out.litI2 v 1).litI2 21 22).mk20)
                   try simp only [asz] at h0
                   with_reducible refine (among_S [21, 22] h0.s4.s3 rfl (by omega) (by omega) (by omega)).mono ?_
                   rintro e wSBCDFAG ⟨m, rfl, hv, hs⟩
                   have hm2 : 0 ≤ m ∧ m ≤ 22 := by simp at hv; omega
                   obtain ⟨m, rfl⟩ := Int.eq_ofNat_of_zero_le hm2.1
                   have hm3 : m ≤ 22 := by omega
                   have SBCDFAG := Lib.hid hs.tl
                   clear hs hv h0)
                | (have h0 := SBCDFAE.out
                   try simp only [asz] at h0
                   with_reducible refine (among_S [21, 22] h0.s4.s3 rfl (by omega) (by omega) (by omega)).mono ?_
                   rintro e wSBCDFAEG ⟨m, rfl, hv, hs⟩
                   have hm2 : 0 ≤ m ∧ m ≤ 22 := by simp at hv; omega
                   obtain ⟨m, rfl⟩ := Int.eq_ofNat_of_zero_le hm2.1
                   have hm3 : m ≤ 22 := by omega
                   have SBCDFAEG := Lib.hid hs.tl
                   clear hs hv h0
                   obtain ⟨L, hL, h7⟩ := cut22 SBCDFAEG.out.s2 rfl hm3
                   have hmc : (m : Int) ≤ (c5 : Int) := by omega
                   obtain ⟨t0, t1, t2, t3⟩ := bx h7.s4.hd
                   have h8 := (h7.s4.setB 0 (.slice (some ⟨g5, 0, none⟩) m c5)).s7.s7.s4.s4.s5
                   have HF5 := Lib.hid ((h8.under (fun h => h.under (fun h => h.under (fun h => h.under (fun h => h.under (fun h => h.tl.tl) (by simp +contextual)) (by simp +contextual)) (by simp +contextual)) (by simp +contextual)) (by simp +contextual)).more (m := n + 8000 + 2 + 2 + 2) (by omega))
                   clear h7 h8)
                | (have h0 := ((SBC.out.litI2 v 1).litI2 21 22)
                   try simp only [asz] at h0
                   with_reducible refine (among_S [21, 22] h0.s3.s2 rfl (by omega) (by omega) (by omega)).mono ?_
                   rintro e wSBCDFG ⟨m, rfl, hv, hs⟩
                   have hm2 : 0 ≤ m ∧ m ≤ 22 := by simp at hv; omega
                   obtain ⟨m, rfl⟩ := Int.eq_ofNat_of_zero_le hm2.1
                   have hm3 : m ≤ 22 := by omega
                   have SBCDFG := Lib.hid hs.tl
                   clear hs hv h0)
                | (have h0 := (((HS3.out.litI2 21 22).mk20).litI2 1 0).dr
                   try simp only [asz] at h0
                   with_reducible refine (among_S [1, 0] h0.s4.s2 rfl (by omega) (by omega) (by omega)).mono ?_
                   rintro e wSFABC ⟨v, rfl, hv, hs⟩
                   have SFABC := Lib.hid hs.tl
                   clear hs hv h0)
                | (have h0 := (SFABC.out.litI2 v 1)
                   try simp only [asz] at h0
                   with_reducible refine (among_S [21, 22] h0.s2.s4 rfl (by omega) (by omega) (by omega)).mono ?_
                   rintro e wSFABCDG ⟨m, rfl, hv, hs⟩
                   have hm2 : 0 ≤ m ∧ m ≤ 22 := by simp at hv; omega
                   obtain ⟨m, rfl⟩ := Int.eq_ofNat_of_zero_le hm2.1
                   have hm3 : m ≤ 22 := by omega
                   have SFABCDG := Lib.hid hs.tl
                   clear hs hv h0)
                | (have h0 := SFABCDE.out
                   try simp only [asz] at h0
                   with_reducible refine (among_S [21, 22] h0.s3.s4 rfl (by omega) (by omega) (by omega)).mono ?_
                   rintro e wSFABCDEG ⟨m, rfl, hv, hs⟩
                   have hm2 : 0 ≤ m ∧ m ≤ 22 := by simp at hv; omega
                   obtain ⟨m, rfl⟩ := Int.eq_ofNat_of_zero_le hm2.1
                   have hm3 : m ≤ 22 := by omega
                   have SFABCDEG := Lib.hid hs.tl
                   clear hs hv h0
                   obtain ⟨L, hL, h7⟩ := cut22 SFABCDEG.out.s2 rfl hm3
                   have hmc : (m : Int) ≤ (c5 : Int) := by omega
                   obtain ⟨t0, t1, t2, t3⟩ := bx h7.s4.hd
                   have h8 := (h7.s4.setB 0 (.slice (some ⟨g5, 0, none⟩) m c5)).s7.s7.s4.s4.s5
                   have HF5 := Lib.hid ((h8.under (fun h => h.under (fun h => h.under (fun h => h.under (fun h => h.under (fun h => h.tl.tl) (by simp +contextual)) (by simp +contextual)) (by simp +contextual)) (by simp +contextual)) (by simp +contextual)).more (m := n + 8000 + 2 + 2 + 2) (by omega))
                   clear h7 h8)
                | (have h0 := SFABC.out
                   try simp only [asz] at h0
                   with_reducible refine (among_S [21, 22] h0.s3 rfl (by omega) (by omega) (by omega)).mono ?_
                   rintro e wSFABCG ⟨m, rfl, hv, hs⟩
                   have hm2 : 0 ≤ m ∧ m ≤ 22 := by simp at hv; omega
                   obtain ⟨m, rfl⟩ := Int.eq_ofNat_of_zero_le hm2.1
                   have hm3 : m ≤ 22 := by omega
                   have SFABCG := Lib.hid hs.tl
                   clear hs hv h0)
                | (have h0 := (((HS3.out.litI2 21 22).litI2 1 0).mk20).dr
                   try simp only [asz] at h0
                   with_reducible refine (among_S [1, 0] h0.s4.s3 rfl (by omega) (by omega) (by omega)).mono ?_
                   rintro e wSFBAC ⟨v, rfl, hv, hs⟩
                   have SFBAC := Lib.hid hs.tl
                   clear hs hv h0)
                | (have h0 := (SFBAC.out.litI2 v 1)
                   try simp only [asz] at h0
                   with_reducible refine (among_S [21, 22] h0.s2.s4 rfl (by omega) (by omega) (by omega)).mono ?_
                   rintro e wSFBACDG ⟨m, rfl, hv, hs⟩
                   have hm2 : 0 ≤ m ∧ m ≤ 22 := by simp at hv; omega
                   obtain ⟨m, rfl⟩ := Int.eq_ofNat_of_zero_le hm2.1
                   have hm3 : m ≤ 22 := by omega
                   have SFBACDG := Lib.hid hs.tl
                   clear hs hv h0)
                | (have h0 := SFBACDE.out
                   try simp only [asz] at h0
                   with_reducible refine (among_S [21, 22] h0.s3.s4 rfl (by omega) (by omega) (by omega)).mono ?_
                   rintro e wSFBACDEG ⟨m, rfl, hv, hs⟩
                   have hm2 : 0 ≤ m ∧ m ≤ 22 := by simp at hv; omega
                   obtain ⟨m, rfl⟩ := Int.eq_ofNat_of_zero_le hm2.1
                   have hm3 : m ≤ 22 := by omega
                   have SFBACDEG := Lib.hid hs.tl
                   clear hs hv h0
                   obtain ⟨L, hL, h7⟩ := cut22 SFBACDEG.out.s2 rfl hm3
                   have hmc : (m : Int) ≤ (c5 : Int) := by omega
                   obtain ⟨t0, t1, t2, t3⟩ := bx h7.s4.hd
                   have h8 := (h7.s4.setB 0 (.slice (some ⟨g5, 0, none⟩) m c5)).s7.s7.s4.s4.s5
                   have HF5 := Lib.hid ((h8.under (fun h => h.under (fun h => h.under (fun h => h.under (fun h => h.under (fun h => h.tl.tl) (by simp +contextual)) (by simp +contextual)) (by simp +contextual)) (by simp +contextual)) (by simp +contextual)).more (m := n + 8000 + 2 + 2 + 2) (by omega))
                   clear h7 h8)
                | (have h0 := SFBAC.out
                   try simp only [asz] at h0
                   with_reducible refine (among_S [21, 22] h0.s3 rfl (by omega) (by omega) (by omega)).mono ?_
                   rintro e wSFBACG ⟨m, rfl, hv, hs⟩
                   have hm2 : 0 ≤ m ∧ m ≤ 22 := by simp at hv; omega
                   obtain ⟨m, rfl⟩ := Int.eq_ofNat_of_zero_le hm2.1
                   have hm3 : m ≤ 22 := by omega
                   have SFBACG := Lib.hid hs.tl
                   clear hs hv h0)
                | (have h0 := ((HS3.out.litI2 21 22).litI2 1 0).dr
                   try simp only [asz] at h0
                   with_reducible refine (among_S [1, 0] h0.s3.s2 rfl (by omega) (by omega) (by omega)).mono ?_
                   rintro e wSFBC ⟨v, rfl, hv, hs⟩
                   have SFBC := Lib.hid hs.tl
                   clear hs hv h0)
                | (have h0 := ((SFBC.out.mk20).litI2 v 1)
                   try simp only [asz] at h0
                   with_reducible refine (among_S [21, 22] h0.s3.s4 rfl (by omega) (by omega) (by omega)).mono ?_
                   rintro e wSFBCADG ⟨m, rfl, hv, hs⟩
                   have hm2 : 0 ≤ m ∧ m ≤ 22 := by simp at hv; omega
                   obtain ⟨m, rfl⟩ := Int.eq_ofNat_of_zero_le hm2.1
                   have hm3 : m ≤ 22 := by omega
                   have SFBCADG := Lib.hid hs.tl
                   clear hs hv h0)
                | (have h0 := SFBCADE.out
                   try simp only [asz] at h0
                   with_reducible refine (among_S [21, 22] h0.s3.s4 rfl (by omega) (by omega) (by omega)).mono ?_
                   rintro e wSFBCADEG ⟨m, rfl, hv, hs⟩
                   have hm2 : 0 ≤ m ∧ m ≤ 22 := by simp at hv; omega
                   obtain ⟨m, rfl⟩ := Int.eq_ofNat_of_zero_le hm2.1
                   have hm3 : m ≤ 22 := by omega
                   have SFBCADEG := Lib.hid hs.tl
                   clear hs hv h0
                   obtain ⟨L, hL, h7⟩ := cut22 SFBCADEG.out.s2 rfl hm3
                   have hmc : (m : Int) ≤ (c5 : Int) := by omega
                   obtain ⟨t0, t1, t2, t3⟩ := bx h7.s4.hd
                   have h8 := (h7.s4.setB 0 (.slice (some ⟨g5, 0, none⟩) m c5)).s7.s7.s4.s4.s5
                   have HF5 := Lib.hid ((h8.under (fun h => h.under (fun h => h.under (fun h => h.under (fun h => h.under (fun h => h.tl.tl) (by simp +contextual)) (by simp +contextual)) (by simp +contextual)) (by simp +contextual)) (by simp +contextual)).more (m := n + 8000 + 2 + 2 + 2) (by omega))
                   clear h7 h8)
                | (have h0 := (SFBC.out.mk20)
                   try simp only [asz] at h0
                   with_reducible refine (among_S [21, 22] h0.s2.s3 rfl (by omega) (by omega) (by omega)).mono ?_
                   rintro e wSFBCAG ⟨m, rfl, hv, hs⟩
                   have hm2 : 0 ≤ m ∧ m ≤ 22 := by simp at hv; omega
                   obtain ⟨m, rfl⟩ := Int.eq_ofNat_of_zero_le hm2.1
                   have hm3 : m ≤ 22 := by omega
                   have SFBCAG := Lib.hid hs.tl
                   clear hs hv h0)
                | (have h0 := ((SFBC.out.litI2 v 1).mk20)
                   try simp only [asz] at h0
                   with_reducible refine (among_S [21, 22] h0.s3.s4 rfl (by omega) (by omega) (by omega)).mono ?_
                   rintro e wSFBCDAG ⟨m, rfl, hv, hs⟩
                   have hm2 : 0 ≤ m ∧ m ≤ 22 := by simp at hv; omega
                   obtain ⟨m, rfl⟩ := Int.eq_ofNat_of_zero_le hm2.1
                   have hm3 : m ≤ 22 := by omega
                   have SFBCDAG := Lib.hid hs.tl
                   clear hs hv h0)
                | (have h0 := SFBCDAE.out
                   try simp only [asz] at h0
                   with_reducible refine (among_S [21, 22] h0.s3.s4 rfl (by omega) (by omega) (by omega)).mono ?_
                   rintro e wSFBCDAEG ⟨m, rfl, hv, hs⟩
                   have hm2 : 0 ≤ m ∧ m ≤ 22 := by simp at hv; omega
                   obtain ⟨m, rfl⟩ := Int.eq_ofNat_of_zero_le hm2.1
                   have hm3 : m ≤ 22 := by omega
                   have SFBCDAEG := Lib.hid hs.tl
                   clear hs hv h0
                   obtain ⟨L, hL, h7⟩ := cut22 SFBCDAEG.out.s2 rfl hm3
                   have hmc : (m : Int) ≤ (c5 : Int) := by omega
                   obtain ⟨t0, t1, t2, t3⟩ := bx h7.s4.hd
                   have h8 := (h7.s4.setB 0 (.slice (some ⟨g5, 0, none⟩) m c5)).s7.s7.s4.s4.s5
                   have HF5 := Lib.hid ((h8.under (fun h => h.under (fun h => h.under (fun h => h.under (fun h => h.under (fun h => h.tl.tl) (by simp +contextual)) (by simp +contextual)) (by simp +contextual)) (by simp +contextual)) (by simp +contextual)).more (m := n + 8000 + 2 + 2 + 2) (by omega))
                   clear h7 h8)
                | (have h0 := (SFBC.out.litI2 v 1)
                   try simp only [asz] at h0
                   with_reducible refine (among_S [21, 22] h0.s2.s3 rfl (by omega) (by omega) (by omega)).mono ?_
                   rintro e wSFBCDG ⟨m, rfl, hv, hs⟩
                   have hm2 : 0 ≤ m ∧ m ≤ 22 := by simp at hv; omega
                   obtain ⟨m, rfl⟩ := Int.eq_ofNat_of_zero_le hm2.1
                   have hm3 : m ≤ 22 := by omega
                   have SFBCDG := Lib.hid hs.tl
                   clear hs hv h0)
                | (have h0 := SFBC.out
                   try simp only [asz] at h0
                   with_reducible refine (among_S [21, 22] h0.s2 rfl (by omega) (by omega) (by omega)).mono ?_
                   rintro e wSFBCG ⟨m, rfl, hv, hs⟩
                   have hm2 : 0 ≤ m ∧ m ≤ 22 := by simp at hv; omega
                   obtain ⟨m, rfl⟩ := Int.eq_ofNat_of_zero_le hm2.1
                   have hm3 : m ≤ 22 := by omega
                   have SFBCG := Lib.hid hs.tl
                   clear hs hv h0))
                | (have h0 := SABFCDG.out
                   try simp only [asz] at h0
                   refine step_app_intsS rfl (.tmp 38) (.tmp 42) rfl rfl rfl h0.s3 h0.s2.hd.read (by simp) ?_
                   intro a5 c5 wSABFCDGE h5 hc5
                   have h6 : Sep wSABFCDGE (OI (.slice a5 22 c5) (List.replicate 20 0 ++ [v, 1]) :: _) := h5
                   have hc6 : 22 ≤ c5 := hc5
                   obtain ⟨g5, _, hge, _⟩ := (show OwnInts 0 wSABFCDGE (.slice a5 22 c5) _ from h6.hd).parts (by simp)
                   obtain rfl : a5 = some ⟨g5, 0, none⟩ := by injection hge
                   have SABFCDGE := Lib.hid h6
                   clear h0 h5 h6 hc5 hge
                   obtain ⟨L, hL, h7⟩ := cut22 SABFCDGE.out rfl hm3
                   have hmc : (m : Int) ≤ (c5 : Int) := by omega
                   obtain ⟨t0, t1, t2, t3⟩ := bx h7.s4.hd
                   have h8 := (h7.s4.setB 0 (.slice (some ⟨g5, 0, none⟩) m c5)).s7.s7.s4.s4.s5
                   have HF5 := Lib.hid ((h8.under (fun h => h.under (fun h => h.under (fun h => h.under (fun h => h.under (fun h => h.tl.tl) (by simp +contextual)) (by simp +contextual)) (by simp +contextual)) (by simp +contextual)) (by simp +contextual)).more (m := n + 8000 + 2 + 2 + 2) (by omega))
                   clear h7 h8)
                | (have h0 := (SABFC.out.litI2 v 1)
                   try simp only [asz] at h0
                   refine step_app_intsS rfl (.tmp 38) (.tmp 42) rfl rfl rfl h0.s4 h0.hd.read (by simp) ?_
                   intro a5 c5 wSABFCDE h5 hc5
                   have h6 : Sep wSABFCDE (OI (.slice a5 22 c5) (List.replicate 20 0 ++ [v, 1]) :: _) := h5
                   have hc6 : 22 ≤ c5 := hc5
                   obtain ⟨g5, _, hge, _⟩ := (show OwnInts 0 wSABFCDE (.slice a5 22 c5) _ from h6.hd).parts (by simp)
                   obtain rfl : a5 = some ⟨g5, 0, none⟩ := by injection hge
                   have SABFCDE := Lib.hid h6
                   clear h0 h5 h6 hc5 hge)
                | (have h0 := (SABFCG.out.litI2 v 1)
                   try simp only [asz] at h0
                   refine step_app_intsS rfl (.tmp 38) (.tmp 42) rfl rfl rfl h0.s3 h0.hd.read (by simp) ?_
                   intro a5 c5 wSABFCGDE h5 hc5
                   have h6 : Sep wSABFCGDE (OI (.slice a5 22 c5) (List.replicate 20 0 ++ [v, 1]) :: _) := h5
                   have hc6 : 22 ≤ c5 := hc5
                   obtain ⟨g5, _, hge, _⟩ := (show OwnInts 0 wSABFCGDE (.slice a5 22 c5) _ from h6.hd).parts (by simp)
                   obtain rfl : a5 = some ⟨g5, 0, none⟩ := by injection hge
                   have SABFCGDE := Lib.hid h6
                   clear h0 h5 h6 hc5 hge
                   obtain ⟨L, hL, h7⟩ := cut22 SABFCGDE.out rfl hm3
                   have hmc : (m : Int) ≤ (c5 : Int) := by omega
                   obtain ⟨t0, t1, t2, t3⟩ := bx h7.s4.hd
                   have h8 := (h7.s4.setB 0 (.slice (some ⟨g5, 0, none⟩) m c5)).s7.s7.s4.s4.s6
                   have HF5 := Lib.hid ((h8.under (fun h => h.under (fun h => h.under (fun h => h.under (fun h => h.under (fun h => h.tl.tl) (by simp +contextual)) (by simp +contextual)) (by simp +contextual)) (by simp +contextual)) (by simp +contextual)).more (m := n + 8000 + 2 + 2 + 2) (by omega))
                   clear h7 h8)
                | (have h0 := SABCFDG.out
                   try simp only [asz] at h0
                   refine step_app_intsS rfl (.tmp 38) (.tmp 42) rfl rfl rfl h0.s3 h0.s2.hd.read (by simp) ?_
                   intro a5 c5 wSABCFDGE h5 hc5
                   have h6 : Sep wSABCFDGE (OI (.slice a5 22 c5) (List.replicate 20 0 ++ [v, 1]) :: _) := h5
                   have hc6 : 22 ≤ c5 := hc5
                   obtain ⟨g5, _, hge, _⟩ := (show OwnInts 0 wSABCFDGE (.slice a5 22 c5) _ from h6.hd).parts (by simp)
                   obtain rfl : a5 = some ⟨g5, 0, none⟩ := by injection hge
                   have SABCFDGE := Lib.hid h6
                   clear h0 h5 h6 hc5 hge
                   obtain ⟨L, hL, h7⟩ := cut22 SABCFDGE.out rfl hm3
                   have hmc : (m : Int) ≤ (c5 : Int) := by omega
                   obtain ⟨t0, t1, t2, t3⟩ := bx h7.s4.hd
                   have h8 := (h7.s4.setB 0 (.slice (some ⟨g5, 0, none⟩) m c5)).s7.s7.s4.s4.s5
                   have HF5 := Lib.hid ((h8.under (fun h => h.under (fun h => h.under (fun h => h.under (fun h => h.under (fun h => h.tl.tl) (by simp +contextual)) (by simp +contextual)) (by simp +contextual)) (by simp +contextual)) (by simp +contextual)).more (m := n + 8000 + 2 + 2 + 2) (by omega))
                   clear h7 h8)
                | (have h0 := ((SABC.out.litI2 21 22).litI2 v 1)
                   try simp only [asz] at h0
                   refine step_app_intsS rfl (.tmp 38) (.tmp 42) rfl rfl rfl h0.s4 h0.hd.read (by simp) ?_
                   intro a5 c5 wSABCFDE h5 hc5
                   have h6 : Sep wSABCFDE (OI (.slice a5 22 c5) (List.replicate 20 0 ++ [v, 1]) :: _) := h5
                   have hc6 : 22 ≤ c5 := hc5
                   obtain ⟨g5, _, hge, _⟩ := (show OwnInts 0 wSABCFDE (.slice a5 22 c5) _ from h6.hd).parts (by simp)
                   obtain rfl : a5 = some ⟨g5, 0, none⟩ := by injection hge
                   have SABCFDE := Lib.hid h6
                   clear h0 h5 h6 hc5 hge)
                | (have h0 := (SABCFG.out.litI2 v 1)
                   try simp only [asz] at h0
                   refine step_app_intsS rfl (.tmp 38) (.tmp 42) rfl rfl rfl h0.s3 h0.hd.read (by simp) ?_
                   intro a5 c5 wSABCFGDE h5 hc5
                   have h6 : Sep wSABCFGDE (OI (.slice a5 22 c5) (List.replicate 20 0 ++ [v, 1]) :: _) := h5
                   have hc6 : 22 ≤ c5 := hc5
                   obtain ⟨g5, _, hge, _⟩ := (show OwnInts 0 wSABCFGDE (.slice a5 22 c5) _ from h6.hd).parts (by simp)
                   obtain rfl : a5 = some ⟨g5, 0, none⟩ := by injection hge
                   have SABCFGDE := Lib.hid h6
                   clear h0 h5 h6 hc5 hge
                   obtain ⟨L, hL, h7⟩ := cut22 SABCFGDE.out rfl hm3
                   have hmc : (m : Int) ≤ (c5 : Int) := by omega
                   obtain ⟨t0, t1, t2, t3⟩ := bx h7.s4.hd
                   have h8 := (h7.s4.setB 0 (.slice (some ⟨g5, 0, none⟩) m c5)).s7.s7.s4.s4.s6
                   have HF5 := Lib.hid ((h8.under (fun h => h.under (fun h => h.under (fun h => h.under (fun h => h.under (fun h => h.tl.tl) (by simp +contextual)) (by simp +contextual)) (by simp +contextual)) (by simp +contextual)) (by simp +contextual)).more (m := n + 8000 + 2 + 2 + 2) (by omega))
                   clear h7 h8)
                | (have h0 := SABCDFG.out
                   try simp only [asz] at h0
                   refine step_app_intsS rfl (.tmp 38) (.tmp 42) rfl rfl rfl h0.s3 h0.s2.hd.read (by simp) ?_
                   intro a5 c5 wSABCDFGE h5 hc5
                   have h6 : Sep wSABCDFGE (OI (.slice a5 22 c5) (List.replicate 20 0 ++ [v, 1]) :: _) := h5
                   have hc6 : 22 ≤ c5 := hc5
                   obtain ⟨g5, _, hge, _⟩ := (show OwnInts 0 wSABCDFGE (.slice a5 22 c5) _ from h6.hd).parts (by simp)
                   obtain rfl : a5 = some ⟨g5, 0, none⟩ := by injection hge
                   have SABCDFGE := Lib.hid h6
                   clear h0 h5 h6 hc5 hge
                   obtain ⟨L, hL, h7⟩ := cut22 SABCDFGE.out rfl hm3
                   have hmc : (m : Int) ≤ (c5 : Int) := by omega
                   obtain ⟨t0, t1, t2, t3⟩ := bx h7.s4.hd
                   have h8 := (h7.s4.setB 0 (.slice (some ⟨g5, 0, none⟩) m c5)).s7.s7.s4.s4.s5
                   have HF5 := Lib.hid ((h8.under (fun h => h.under (fun h => h.under (fun h => h.under (fun h => h.under (fun h => h.tl.tl) (by simp +contextual)) (by simp +contextual)) (by simp +contextual)) (by simp +contextual)) (by simp +contextual)).more (m := n + 8000 + 2 + 2 + 2) (by omega))
                   clear h7 h8)
                | (have h0 := ((SABC.out.litI2 v 1).litI2 21 22)
                   try simp only [asz] at h0
                   refine step_app_intsS rfl (.tmp 38) (.tmp 42) rfl rfl rfl h0.s4 h0.s2.hd.read (by simp) ?_
                   intro a5 c5 wSABCDFE h5 hc5
                   have h6 : Sep wSABCDFE (OI (.slice a5 22 c5) (List.replicate 20 0 ++ [v, 1]) :: _) := h5
                   have hc6 : 22 ≤ c5 := hc5
                   obtain ⟨g5, _, hge, _⟩ := (show OwnInts 0 wSABCDFE (.slice a5 22 c5) _ from h6.hd).parts (by simp)
                   obtain rfl : a5 = some ⟨g5, 0, none⟩ := by injection hge
                   have SABCDFE := Lib.hid h6
                   clear h0 h5 h6 hc5 hge)
                | (have h0 := (SABC.out.litI2 v 1)
                   try simp only [asz] at h0
                   refine step_app_intsS rfl (.tmp 38) (.tmp 42) rfl rfl rfl h0.s3 h0.hd.read (by simp) ?_
                   intro a5 c5 wSABCDE h5 hc5
                   have h6 : Sep wSABCDE (OI (.slice a5 22 c5) (List.replicate 20 0 ++ [v, 1]) :: _) := h5
                   have hc6 : 22 ≤ c5 := hc5
                   obtain ⟨g5, _, hge, _⟩ := (show OwnInts 0 wSABCDE (.slice a5 22 c5) _ from h6.hd).parts (by simp)
                   obtain rfl : a5 = some ⟨g5, 0, none⟩ := by injection hge
                   have SABCDE := Lib.hid h6
                   clear h0 h5 h6 hc5 hge)
                | (have h0 := SAFBCDG.out
                   try simp only [asz] at h0
                   refine step_app_intsS rfl (.tmp 38) (.tmp 42) rfl rfl rfl h0.s3 h0.s2.hd.read (by simp) ?_
                   intro a5 c5 wSAFBCDGE h5 hc5
                   have h6 : Sep wSAFBCDGE (OI (.slice a5 22 c5) (List.replicate 20 0 ++ [v, 1]) :: _) := h5
                   have hc6 : 22 ≤ c5 := hc5
                   obtain ⟨g5, _, hge, _⟩ := (show OwnInts 0 wSAFBCDGE (.slice a5 22 c5) _ from h6.hd).parts (by simp)
                   obtain rfl : a5 = some ⟨g5, 0, none⟩ := by injection hge
                   have SAFBCDGE := Lib.hid h6
                   clear h0 h5 h6 hc5 hge
                   obtain ⟨L, hL, h7⟩ := cut22 SAFBCDGE.out rfl hm3
                   have hmc : (m : Int) ≤ (c5 : Int) := by omega
                   obtain ⟨t0, t1, t2, t3⟩ := bx h7.s4.hd
                   have h8 := (h7.s4.setB 0 (.slice (some ⟨g5, 0, none⟩) m c5)).s7.s7.s4.s4.s5
                   have HF5 := Lib.hid ((h8.under (fun h => h.under (fun h => h.under (fun h => h.under (fun h => h.under (fun h => h.tl.tl) (by simp +contextual)) (by simp +contextual)) (by simp +contextual)) (by simp +contextual)) (by simp +contextual)).more (m := n + 8000 + 2 + 2 + 2) (by omega))
                   clear h7 h8)
                | (have h0 := (SAFBC.out.litI2 v 1)
                   try simp only [asz] at h0
                   refine step_app_intsS rfl (.tmp 38) (.tmp 42) rfl rfl rfl h0.s4 h0.hd.read (by simp) ?_
                   intro a5 c5 wSAFBCDE h5 hc5
                   have h6 : Sep wSAFBCDE (OI (.slice a5 22 c5) (List.replicate 20 0 ++ [v, 1]) :: _) := h5
                   have hc6 : 22 ≤ c5 := hc5
                   obtain ⟨g5, _, hge, _⟩ := (show OwnInts 0 wSAFBCDE (.slice a5 22 c5) _ from h6.hd).parts (by simp)
                   obtain rfl : a5 = some ⟨g5, 0, none⟩ := by injection hge
                   have SAFBCDE := Lib.hid h6
                   clear h0 h5 h6 hc5 hge)
                | (have h0 := (SAFBCG.out.litI2 v 1)
                   try simp only [asz] at h0
                   refine step_app_intsS rfl (.tmp 38) (.tmp 42) rfl rfl rfl h0.s3 h0.hd.read (by simp) ?_
                   intro a5 c5 wSAFBCGDE h5 hc5
                   have h6 : Sep wSAFBCGDE (OI (.slice a5 22 c5) (List.replicate 20 0 ++ [v, 1]) :: _) := h5
                   have hc6 : 22 ≤ c5 := hc5
                   obtain ⟨g5, _, hge, _⟩ := (show OwnInts 0 wSAFBCGDE (.slice a5 22 c5) _ from h6.hd).parts (by simp)
                   obtain rfl : a5 = some ⟨g5, 0, none⟩ := by injection hge
                   have SAFBCGDE := Lib.hid h6
                   clear h0 h5 h6 hc5 hge
                   obtain ⟨L, hL, h7⟩ := cut22 SAFBCGDE.out rfl hm3
                   have hmc : (m : Int) ≤ (c5 : Int) := by omega
                   obtain ⟨t0, t1, t2, t3⟩ := bx h7.s4.hd
                   have h8 := (h7.s4.setB 0 (.slice (some ⟨g5, 0, none⟩) m c5)).s7.s7.s4.s4.s6
                   have HF5 := Lib.hid ((h8.under (fun h => h.under (fun h => h.under (fun h => h.under (fun h => h.under (fun h => h.tl.tl) (by simp +contextual)) (by simp +contextual)) (by simp +contextual)) (by simp +contextual)) (by simp +contextual)).more (m := n + 8000 + 2 + 2 + 2) (by omega))
                   clear h7 h8)
                | (have h0 := SBAFCDG.out
                   try simp only [asz] at h0
                   refine step_app_intsS rfl (.tmp 38) (.tmp 42) rfl rfl rfl h0.s3 h0.s2.hd.read (by simp) ?_
                   intro a5 c5 wSBAFCDGE h5 hc5
                   have h6 : Sep wSBAFCDGE (OI (.slice a5 22 c5) (List.replicate 20 0 ++ [v, 1]) :: _) := h5
                   have hc6 : 22 ≤ c5 := hc5
                   obtain ⟨g5, _, hge, _⟩ := (show OwnInts 0 wSBAFCDGE (.slice a5 22 c5) _ from h6.hd).parts (by simp)
                   obtain rfl : a5 = some ⟨g5, 0, none⟩ := by injection hge
                   have SBAFCDGE := Lib.hid h6
                   clear h0 h5 h6 hc5 hge
                   obtain ⟨L, hL, h7⟩ := cut22 SBAFCDGE.out rfl hm3
                   have hmc : (m : Int) ≤ (c5 : Int) := by omega
                   obtain ⟨t0, t1, t2, t3⟩ := bx h7.s4.hd
                   have h8 := (h7.s4.setB 0 (.slice (some ⟨g5, 0, none⟩) m c5)).s7.s7.s4.s4.s5
                   have HF5 := Lib.hid ((h8.under (fun h => h.under (fun h => h.under (fun h => h.under (fun h => h.under (fun h => h.tl.tl) (by simp +contextual)) (by simp +contextual)) (by simp +contextual)) (by simp +contextual)) (by simp +contextual)).more (m := n + 8000 + 2 + 2 + 2) (by omega))
                   clear h7 h8)
                | (have h0 := (SBAFC.out.litI2 v 1)
                   try simp only [asz] at h0
                   refine step_app_intsS rfl (.tmp 38) (.tmp 42) rfl rfl rfl h0.s4 h0.hd.read (by simp) ?_
                   intro a5 c5 wSBAFCDE h5 hc5
                   have h6 : Sep wSBAFCDE (OI (.slice a5 22 c5) (List.replicate 20 0 ++ [v, 1]) :: _) := h5
                   have hc6 : 22 ≤ c5 := hc5
                   obtain ⟨g5, _, hge, _⟩ := (show OwnInts 0 wSBAFCDE (.slice a5 22 c5) _ from h6.hd).parts (by simp)
                   obtain rfl : a5 = some ⟨g5, 0, none⟩ := by injection hge
                   have SBAFCDE := Lib.hid h6
                   clear h0 h5 h6 hc5 hge)
                | (have h0 := (SBAFCG.out.litI2 v 1)
                   try simp only [asz] at h0
                   refine step_app_intsS rfl (.tmp 38) (.tmp 42) rfl rfl rfl h0.s3 h0.hd.read (by simp) ?_
                   intro a5 c5 wSBAFCGDE h5 hc5
                   have h6 : Sep wSBAFCGDE (OI (.slice a5 22 c5) (List.replicate 20 0 ++ [v, 1]) :: _) := h5
                   have hc6 : 22 ≤ c5 := hc5
                   obtain ⟨g5, _, hge, _⟩ := (show OwnInts 0 wSBAFCGDE (.slice a5 22 c5) _ from h6.hd).parts (by simp)
                   obtain rfl : a5 = some ⟨g5, 0, none⟩ := by injection hge
                   have SBAFCGDE := Lib.hid h6
                   clear h0 h5 h6 hc5 hge
                   obtain ⟨L, hL, h7⟩ := cut22 SBAFCGDE.out rfl hm3
                   have hmc : (m : Int) ≤ (c5 : Int) := by omega
                   obtain ⟨t0, t1, t2, t3⟩ := bx h7.s4.hd
                   have h8 := (h7.s4.setB 0 (.slice (some ⟨g5, 0, none⟩) m c5)).s7.s7.s4.s4.s6
                   have HF5 := Lib.hid ((h8.under (fun h => h.under (fun h => h.under (fun h => h.under (fun h => h.under (fun h => h.tl.tl) (by simp +contextual)) (by simp +contextual)) (by simp +contextual)) (by simp +contextual)) (by simp +contextual)).more (m := n + 8000 + 2 + 2 + 2) (by omega))
                   clear h7 h8)
                | (have h0 := SBACFDG.out
                   try simp only [asz] at h0
                   refine step_app_intsS rfl (.tmp 38) (.tmp 42) rfl rfl rfl h0.s3 h0.s2.hd.read (by simp) ?_
                   intro a5 c5 wSBACFDGE h5 hc5
                   have h6 : Sep wSBACFDGE (OI (.slice a5 22 c5) (List.replicate 20 0 ++ [v, 1]) :: _) := h5
                   have hc6 : 22 ≤ c5 := hc5
                   obtain ⟨g5, _, hge, _⟩ := (show OwnInts 0 wSBACFDGE (.slice a5 22 c5) _ from h6.hd).parts (by simp)
                   obtain rfl : a5 = some ⟨g5, 0, none⟩ := by injection hge
                   have SBACFDGE := Lib.hid h6
                   clear h0 h5 h6 hc5 hge
                   obtain ⟨L, hL, h7⟩ := cut22 SBACFDGE.out rfl hm3
                   have hmc : (m : Int) ≤ (c5 : Int) := by omega
                   obtain ⟨t0, t1, t2, t3⟩ := bx h7.s4.hd
                   have h8 := (h7.s4.setB 0 (.slice (some ⟨g5, 0, none⟩) m c5)).s7.s7.s4.s4.s5
                   have HF5 := Lib.hid ((h8.under (fun h => h.under (fun h => h.under (fun h => h.under (fun h => h.under (fun h => h.tl.tl) (by simp +contextual)) (by simp +contextual)) (by simp +contextual)) (by simp +contextual)) (by simp +contextual)).more (m := n + 8000 + 2 + 2 + 2) (by omega))
                   clear h7 h8)
                | (have h0 := ((SBAC.out.litI2 21 22).litI2 v 1)
                   try simp only [asz] at h0
                   refine step_app_intsS rfl (.tmp 38) (.tmp 42) rfl rfl rfl h0.s4 h0.hd.read (by simp) ?_
                   intro a5 c5 wSBACFDE h5 hc5
                   have h6 : Sep wSBACFDE (OI (.slice a5 22 c5) (List.replicate 20 0 ++ [v, 1]) :: _) := h5
                   have hc6 : 22 ≤ c5 := hc5
                   obtain ⟨g5, _, hge, _⟩ := (show OwnInts 0 wSBACFDE (.slice a5 22 c5) _ from h6.hd).parts (by simp)
                   obtain rfl : a5 = some ⟨g5, 0, none⟩ := by injection hge
                   have SBACFDE := Lib.hid h6
                   clear h0 h5 h6 hc5 hge)
                | (have h0 := (SBACFG.out.litI2 v 1)
                   try simp only [asz] at h0
                   refine step_app_intsS rfl (.tmp 38) (.tmp 42) rfl rfl rfl h0.s3 h0.hd.read (by simp) ?_
                   intro a5 c5 wSBACFGDE h5 hc5
                   have h6 : Sep wSBACFGDE (OI (.slice a5 22 c5) (List.replicate 20 0 ++ [v, 1]) :: _) := h5
                   have hc6 : 22 ≤ c5 := hc5
                   obtain ⟨g5, _, hge, _⟩ := (show OwnInts 0 wSBACFGDE (.slice a5 22 c5) _ from h6.hd).parts (by simp)
                   obtain rfl : a5 = some ⟨g5, 0, none⟩ := by injection hge
                   have SBACFGDE := Lib.hid h6
                   clear h0 h5 h6 hc5 hge
                   obtain ⟨L, hL, h7⟩ := cut22 SBACFGDE.out rfl hm3
                   have hmc : (m : Int) ≤ (c5 : Int) := by omega
                   obtain ⟨t0, t1, t2, t3⟩ := bx h7.s4.hd
                   have h8 := (h7.s4.setB 0 (.slice (some ⟨g5, 0, none⟩) m c5)).s7.s7.s4.s4.s6
                   have HF5 := Lib.hid ((h8.under (fun h => h.under (fun h => h.under (fun h => h.under (fun h => h.under (fun h => h.tl.tl) (by simp +contextual)) (by simp +contextual)) (by simp +contextual)) (by simp +contextual)) (by simp +contextual)).more (m := n + 8000 + 2 + 2 + 2) (by omega))
                   clear h7 h8)
                | (have h0 := SBACDFG.out
                   try simp only [asz] at h0
                   refine step_app_intsS rfl (.tmp 38) (.tmp 42) rfl rfl rfl h0.s3 h0.s2.hd.read (by simp) ?_
                   intro a5 c5 wSBACDFGE h5 hc5
                   have h6 : Sep wSBACDFGE (OI (.slice a5 22 c5) (List.replicate 20 0 ++ [v, 1]) :: _) := h5
                   have hc6 : 22 ≤ c5 := hc5
                   obtain ⟨g5, _, hge, _⟩ := (show OwnInts 0 wSBACDFGE (.slice a5 22 c5) _ from h6.hd).parts (by simp)
                   obtain rfl : a5 = some ⟨g5, 0, none⟩ := by injection hge
                   have SBACDFGE := Lib.hid h6
                   clear h0 h5 h6 hc5 hge
                   obtain ⟨L, hL, h7⟩ := cut22 SBACDFGE.out rfl hm3
                   have hmc : (m : Int) ≤ (c5 : Int) := by omega
                   obtain ⟨t0, t1, t2, t3⟩ := bx h7.s4.hd
                   have h8 := (h7.s4.setB 0 (.slice (some ⟨g5, 0, none⟩) m c5)).s7.s7.s4.s4.s5
                   have HF5 := Lib.hid ((h8.under (fun h => h.under (fun h => h.under (fun h => h.under (fun h => h.under (fun h => h.tl.tl) (by simp +contextual)) (by simp +contextual)) (by simp +contextual)) (by simp +contextual)) (by simp +contextual)).more (m := n + 8000 + 2 + 2 + 2) (by omega))
                   clear h7 h8)
                | (have h0 := ((SBAC.out.litI2 v 1).litI2 21 22)
                   try simp only [asz] at h0
                   refine step_app_intsS rfl (.tmp 38) (.tmp 42) rfl rfl rfl h0.s4 h0.s2.hd.read (by simp) ?_
                   intro a5 c5 wSBACDFE h5 hc5
                   have h6 : Sep wSBACDFE (OI (.slice a5 22 c5) (List.replicate 20 0 ++ [v, 1]) :: _) := h5
                   have hc6 : 22 ≤ c5 := hc5
                   obtain ⟨g5, _, hge, _⟩ := (show OwnInts 0 wSBACDFE (.slice a5 22 c5) _ from h6.hd).parts (by simp)
                   obtain rfl : a5 = some ⟨g5, 0, none⟩ := by injection hge
                   have SBACDFE := Lib.hid h6
                   clear h0 h5 h6 hc5 hge)
                | (have h0 := (SBAC.out.litI2 v 1)
                   try simp only [asz] at h0
                   refine step_app_intsS rfl (.tmp 38) (.tmp 42) rfl rfl rfl h0.s3 h0.hd.read (by simp) ?_
                   intro a5 c5 wSBACDE h5 hc5
                   have h6 : Sep wSBACDE (OI (.slice a5 22 c5) (List.replicate 20 0 ++ [v, 1]) :: _) := h5
                   have hc6 : 22 ≤ c5 := hc5
                   obtain ⟨g5, _, hge, _⟩ := (show OwnInts 0 wSBACDE (.slice a5 22 c5) _ from h6.hd).parts (by simp)
                   obtain rfl : a5 = some ⟨g5, 0, none⟩ := by injection hge
                   have SBACDE := Lib.hid h6
                   clear h0 h5 h6 hc5 hge)
                | (have h0 := SBFACDG.out
                   try simp only [asz] at h0
                   refine step_app_intsS rfl (.tmp 38) (.tmp 42) rfl rfl rfl h0.s3 h0.s2.hd.read (by simp) ?_
                   intro a5 c5 wSBFACDGE h5 hc5
                   have h6 : Sep wSBFACDGE (OI (.slice a5 22 c5) (List.replicate 20 0 ++ [v, 1]) :: _) := h5
                   have hc6 : 22 ≤ c5 := hc5
                   obtain ⟨g5, _, hge, _⟩ := (show OwnInts 0 wSBFACDGE (.slice a5 22 c5) _ from h6.hd).parts (by simp)
                   obtain rfl : a5 = some ⟨g5, 0, none⟩ := by injection hge
                   have SBFACDGE := Lib.hid h6
                   clear h0 h5 h6 hc5 hge
                   obtain ⟨L, hL, h7⟩ := cut22 SBFACDGE.out rfl hm3
                   have hmc : (m : Int) ≤ (c5 : Int) := by omega
                   obtain ⟨t0, t1, t2, t3⟩ := bx h7.s4.hd
                   have h8 := (h7.s4.setB 0 (.slice (some ⟨g5, 0, none⟩) m c5)).s7.s7.s4.s4.s5
                   have HF5 := Lib.hid ((h8.under (fun h => h.under (fun h => h.under (fun h => h.under (fun h => h.under (fun h => h.tl.tl) (by simp +contextual)) (by simp +contextual)) (by simp +contextual)) (by simp +contextual)) (by simp +contextual)).more (m := n + 8000 + 2 + 2 + 2) (by omega))
                   clear h7 h8)
                | (have h0 := (SBFAC.out.litI2 v 1)
                   try simp only [asz] at h0
                   refine step_app_intsS rfl (.tmp 38) (.tmp 42) rfl rfl rfl h0.s3 h0.hd.read (by simp) ?_
                   intro a5 c5 wSBFACDE h5 hc5
                   have h6 : Sep wSBFACDE (OI (.slice a5 22 c5) (List.replicate 20 0 ++ [v, 1]) :: _) := h5
                   have hc6 : 22 ≤ c5 := hc5
                   obtain ⟨g5, _, hge, _⟩ := (show OwnInts 0 wSBFACDE (.slice a5 22 c5) _ from h6.hd).parts (by simp)
                   obtain rfl : a5 = some ⟨g5, 0, none⟩ := by injection hge
                   have SBFACDE := Lib.hid h6
                   clear h0 h5 h6 hc5 hge)
                | (have h0 := (SBFACG.out.litI2 v 1)
                   try simp only [asz] at h0
                   refine step_app_intsS rfl (.tmp 38) (.tmp 42) rfl rfl rfl h0.s3 h0.hd.read (by simp) ?_
                   intro a5 c5 wSBFACGDE h5 hc5
                   have h6 : Sep wSBFACGDE (OI (.slice a5 22 c5) (List.replicate 20 0 ++ [v, 1]) :: _) := h5
                   have hc6 : 22 ≤ c5 := hc5
                   obtain ⟨g5, _, hge, _⟩ := (show OwnInts 0 wSBFACGDE (.slice a5 22 c5) _ from h6.hd).parts (by simp)
                   obtain rfl : a5 = some ⟨g5, 0, none⟩ := by injection hge
                   have SBFACGDE := Lib.hid h6
                   clear h0 h5 h6 hc5 hge
                   obtain ⟨L, hL, h7⟩ := cut22 SBFACGDE.out rfl hm3
                   have hmc : (m : Int) ≤ (c5 : Int) := by omega
                   obtain ⟨t0, t1, t2, t3⟩ := bx h7.s4.hd
                   have h8 := (h7.s4.setB 0 (.slice (some ⟨g5, 0, none⟩) m c5)).s7.s7.s4.s4.s6
                   have HF5 := Lib.hid ((h8.under (fun h => h.under (fun h => h.under (fun h => h.under (fun h => h.under (fun h => h.tl.tl) (by simp +contextual)) (by simp +contextual)) (by simp +contextual)) (by simp +contextual)) (by simp +contextual)).more (m := n + 8000 + 2 + 2 + 2) (by omega))
                   clear h7 h8)
                | (have h0 := SBFCADG.out
                   try simp only [asz] at h0
                   refine step_app_intsS rfl (.tmp 38) (.tmp 42) rfl rfl rfl h0.s3 h0.s2.hd.read (by simp) ?_
                   intro a5 c5 wSBFCADGE h5 hc5
                   have h6 : Sep wSBFCADGE (OI (.slice a5 22 c5) (List.replicate 20 0 ++ [v, 1]) :: _) := h5
                   have hc6 : 22 ≤ c5 := hc5
                   obtain ⟨g5, _, hge, _⟩ := (show OwnInts 0 wSBFCADGE (.slice a5 22 c5) _ from h6.hd).parts (by simp)
                   obtain rfl : a5 = some ⟨g5, 0, none⟩ := by injection hge
                   have SBFCADGE := Lib.hid h6
                   clear h0 h5 h6 hc5 hge
                   obtain ⟨L, hL, h7⟩ := cut22 SBFCADGE.out rfl hm3
                   have hmc : (m : Int) ≤ (c5 : Int) := by omega
                   obtain ⟨t0, t1, t2, t3⟩ := bx h7.s4.hd
                   have h8 := (h7.s4.setB 0 (.slice (some ⟨g5, 0, none⟩) m c5)).s7.s7.s4.s4.s5
                   have HF5 := Lib.hid ((h8.under (fun h => h.under (fun h => h.under (fun h => h.under (fun h => h.under (fun h => h.tl.tl) (by simp +contextual)) (by simp +contextual)) (by simp +contextual)) (by simp +contextual)) (by simp +contextual)).more (m := n + 8000 + 2 + 2 + 2) (by omega))
                   clear h7 h8)
                | (have h0 := ((SBFC.out.mk20).litI2 v 1)
                   try simp only [asz] at h0
                   refine step_app_intsS rfl (.tmp 38) (.tmp 42) rfl rfl rfl h0.s2 h0.hd.read (by simp) ?_
                   intro a5 c5 wSBFCADE h5 hc5
                   have h6 : Sep wSBFCADE (OI (.slice a5 22 c5) (List.replicate 20 0 ++ [v, 1]) :: _) := h5
                   have hc6 : 22 ≤ c5 := hc5
                   obtain ⟨g5, _, hge, _⟩ := (show OwnInts 0 wSBFCADE (.slice a5 22 c5) _ from h6.hd).parts (by simp)
                   obtain rfl : a5 = some ⟨g5, 0, none⟩ := by injection hge
                   have SBFCADE := Lib.hid h6
                   clear h0 h5 h6 hc5 hge)
                | (have h0 := (SBFCAG.out.litI2 v 1)
                   try simp only [asz] at h0
                   refine step_app_intsS rfl (.tmp 38) (.tmp 42) rfl rfl rfl h0.s3 h0.hd.read (by simp) ?_
                   intro a5 c5 wSBFCAGDE h5 hc5
                   have h6 : Sep wSBFCAGDE (OI (.slice a5 22 c5) (List.replicate 20 0 ++ [v, 1]) :: _) := h5
                   have hc6 : 22 ≤ c5 := hc5
                   obtain ⟨g5, _, hge, _⟩ := (show OwnInts 0 wSBFCAGDE (.slice a5 22 c5) _ from h6.hd).parts (by simp)
                   obtain rfl : a5 = some ⟨g5, 0, none⟩ := by injection hge
                   have SBFCAGDE := Lib.hid h6
                   clear h0 h5 h6 hc5 hge
                   obtain ⟨L, hL, h7⟩ := cut22 SBFCAGDE.out rfl hm3
                   have hmc : (m : Int) ≤ (c5 : Int) := by omega
                   obtain ⟨t0, t1, t2, t3⟩ := bx h7.s4.hd
                   have h8 := (h7.s4.setB 0 (.slice (some ⟨g5, 0, none⟩) m c5)).s7.s7.s4.s4.s6
                   have HF5 := Lib.hid ((h8.under (fun h => h.under (fun h => h.under (fun h => h.under (fun h => h.under (fun h => h.tl.tl) (by simp +contextual)) (by simp +contextual)) (by simp +contextual)) (by simp +contextual)) (by simp +contextual)).more (m := n + 8000 + 2 + 2 + 2) (by omega))
                   clear h7 h8)
                | (have h0 := SBFCDAG.out
                   try simp only [asz] at h0
                   refine step_app_intsS rfl (.tmp 38) (.tmp 42) rfl rfl rfl h0.s2 h0.s3.hd.read (by simp) ?_
                   intro a5 c5 wSBFCDAGE h5 hc5
                   have h6 : Sep wSBFCDAGE (OI (.slice a5 22 c5) (List.replicate 20 0 ++ [v, 1]) :: _) := h5
                   have hc6 : 22 ≤ c5 := hc5
                   obtain ⟨g5, _, hge, _⟩ := (show OwnInts 0 wSBFCDAGE (.slice a5 22 c5) _ from h6.hd).parts (by simp)
                   obtain rfl : a5 = some ⟨g5, 0, none⟩ := by injection hge
                   have SBFCDAGE := Lib.hid h6
                   clear h0 h5 h6 hc5 hge
                   obtain ⟨L, hL, h7⟩ := cut22 SBFCDAGE.out rfl hm3
                   have hmc : (m : Int) ≤ (c5 : Int) := by omega
                   obtain ⟨t0, t1, t2, t3⟩ := bx h7.s4.hd
                   have h8 := (h7.s4.setB 0 (.slice (some ⟨g5, 0, none⟩) m c5)).s7.s7.s4.s4.s5
                   have HF5 := Lib.hid ((h8.under (fun h => h.under (fun h => h.under (fun h => h.under (fun h => h.under (fun h => h.tl.tl) (by simp +contextual)) (by simp +contextual)) (by simp +contextual)) (by simp +contextual)) (by simp +contextual)).more (m := n + 8000 + 2 + 2 + 2) (by omega))
                   clear h7 h8)
                | (have h0 := ((SBFC.out.litI2 v 1).mk20)
                   try simp only [asz] at h0
                   refine step_app_intsS rfl (.tmp 38) (.tmp 42) rfl rfl rfl h0 h0.s2.hd.read (by simp) ?_
                   intro a5 c5 wSBFCDAE h5 hc5
                   have h6 : Sep wSBFCDAE (OI (.slice a5 22 c5) (List.replicate 20 0 ++ [v, 1]) :: _) := h5
                   have hc6 : 22 ≤ c5 := hc5
                   obtain ⟨g5, _, hge, _⟩ := (show OwnInts 0 wSBFCDAE (.slice a5 22 c5) _ from h6.hd).parts (by simp)
                   obtain rfl : a5 = some ⟨g5, 0, none⟩ := by injection hge
                   have SBFCDAE := Lib.hid h6
                   clear h0 h5 h6 hc5 hge)
                | (have h0 := (SBFCDG.out.mk20)
                   try simp only [asz] at h0
                   refine step_app_intsS rfl (.tmp 38) (.tmp 42) rfl rfl rfl h0 h0.s3.hd.read (by simp) ?_
                   intro a5 c5 wSBFCDGAE h5 hc5
                   have h6 : Sep wSBFCDGAE (OI (.slice a5 22 c5) (List.replicate 20 0 ++ [v, 1]) :: _) := h5
                   have hc6 : 22 ≤ c5 := hc5
                   obtain ⟨g5, _, hge, _⟩ := (show OwnInts 0 wSBFCDGAE (.slice a5 22 c5) _ from h6.hd).parts (by simp)
                   obtain rfl : a5 = some ⟨g5, 0, none⟩ := by injection hge
                   have SBFCDGAE := Lib.hid h6
                   clear h0 h5 h6 hc5 hge
                   obtain ⟨L, hL, h7⟩ := cut22 SBFCDGAE.out rfl hm3
                   have hmc : (m : Int) ≤ (c5 : Int) := by omega
                   obtain ⟨t0, t1, t2, t3⟩ := bx h7.s4.hd
                   have h8 := (h7.s4.setB 0 (.slice (some ⟨g5, 0, none⟩) m c5)).s7.s7.s4.s4.s5
                   have HF5 := Lib.hid ((h8.under (fun h => h.under (fun h => h.under (fun h => h.under (fun h => h.under (fun h => h.tl.tl) (by simp +contextual)) (by simp +contextual)) (by simp +contextual)) (by simp +contextual)) (by simp +contextual)).more (m := n + 8000 + 2 + 2 + 2) (by omega))
                   clear h7 h8)
                | (have h0 := ((SBFCG.out.mk20).litI2 v 1)
                   try simp only [asz] at h0
                   refine step_app_intsS rfl (.tmp 38) (.tmp 42) rfl rfl rfl h0.s2 h0.hd.read (by simp) ?_
                   intro a5 c5 wSBFCGADE h5 hc5
                   have h6 : Sep wSBFCGADE (OI (.slice a5 22 c5) (List.replicate 20 0 ++ [v, 1]) :: _) := h5
                   have hc6 : 22 ≤ c5 := hc5
                   obtain ⟨g5, _, hge, _⟩ := (show OwnInts 0 wSBFCGADE (.slice a5 22 c5) _ from h6.hd).parts (by simp)
                   obtain rfl : a5 = some ⟨g5, 0, none⟩ := by injection hge
                   have SBFCGADE := Lib.hid h6
                   clear h0 h5 h6 hc5 hge
                   obtain ⟨L, hL, h7⟩ := cut22 SBFCGADE.out rfl hm3
                   have hmc : (m : Int) ≤ (c5 : Int) := by omega
                   obtain ⟨t0, t1, t2, t3⟩ := bx h7.s4.hd
                   have h8 := (h7.s4.setB 0 (.slice (some ⟨g5, 0, none⟩) m c5)).s7.s7.s4.s4.s6
                   have HF5 := Lib.hid ((h8.under (fun h => h.under (fun h => h.under (fun h => h.under (fun h => h.under (fun h => h.tl.tl) (by simp +contextual)) (by simp +contextual)) (by simp +contextual)) (by simp +contextual)) (by simp +contextual)).more (m := n + 8000 + 2 + 2 + 2) (by omega))
                   clear h7 h8)
                | (have h0 := ((SBFCG.out.litI2 v 1).mk20)
                   try simp only [asz] at h0
                   refine step_app_intsS rfl (.tmp 38) (.tmp 42) rfl rfl rfl h0 h0.s2.hd.read (by simp) ?_
                   intro a5 c5 wSBFCGDAE h5 hc5
                   have h6 : Sep wSBFCGDAE (OI (.slice a5 22 c5) (List.replicate 20 0 ++ [v, 1]) :: _) := h5
                   have hc6 : 22 ≤ c5 := hc5
                   obtain ⟨g5, _, hge, _⟩ := (show OwnInts 0 wSBFCGDAE (.slice a5 22 c5) _ from h6.hd).parts (by simp)
                   obtain rfl : a5 = some ⟨g5, 0, none⟩ := by injection hge
                   have SBFCGDAE := Lib.hid h6
                   clear h0 h5 h6 hc5 hge
                   obtain ⟨L, hL, h7⟩ := cut22 SBFCGDAE.out rfl hm3
                   have hmc : (m : Int) ≤ (c5 : Int) := by omega
                   obtain ⟨t0, t1, t2, t3⟩ := bx h7.s4.hd
                   have h8 := (h7.s4.setB 0 (.slice (some ⟨g5, 0, none⟩) m c5)).s7.s7.s4.s4.s6
                   have HF5 := Lib.hid ((h8.under (fun h => h.under (fun h => h.under (fun h => h.under (fun h => h.under (fun h => h.tl.tl) (by simp +contextual)) (by simp +contextual)) (by simp +contextual)) (by simp +contextual)) (by simp +contextual)).more (m := n + 8000 + 2 + 2 + 2) (by omega))
                   clear h7 h8)
                | (have h0 := SBCAFDG.out
                   try simp only [asz] at h0
                   refine step_app_intsS rfl (.tmp 38) (.tmp 42) rfl rfl rfl h0.s3 h0.s2.hd.read (by simp) ?_
                   intro a5 c5 wSBCAFDGE h5 hc5
                   have h6 : Sep wSBCAFDGE (OI (.slice a5 22 c5) (List.replicate 20 0 ++ [v, 1]) :: _) := h5
                   have hc6 : 22 ≤ c5 := hc5
                   obtain ⟨g5, _, hge, _⟩ := (show OwnInts 0 wSBCAFDGE (.slice a5 22 c5) _ from h6.hd).parts (by simp)
                   obtain rfl : a5 = some ⟨g5, 0, none⟩ := by injection hge
                   have SBCAFDGE := Lib.hid h6
                   clear h0 h5 h6 hc5 hge
                   obtain ⟨L, hL, h7⟩ := cut22 SBCAFDGE.out rfl hm3
                   have hmc : (m : Int) ≤ (c5 : Int) := by omega
                   obtain ⟨t0, t1, t2, t3⟩ := bx h7.s4.hd
                   have h8 := (h7.s4.setB 0 (.slice (some ⟨g5, 0, none⟩) m c5)).s7.s7.s4.s4.s5
                   have HF5 := Lib.hid ((h8.under (fun h => h.under (fun h => h.under (fun h => h.under (fun h => h.under (fun h => h.tl.tl) (by simp +contextual)) (by simp +contextual)) (by simp +contextual)) (by simp +contextual)) (by simp +contextual)).more (m := n + 8000 + 2 + 2 + 2) (by omega))
                   clear h7 h8)
                | (have h0 := (((SBC.out.mk20).litI2 21 22).litI2 v 1)
                   try simp only [asz] at h0
                   refine step_app_intsS rfl (.tmp 38) (.tmp 42) rfl rfl rfl h0.s3 h0.hd.read (by simp) ?_
                   intro a5 c5 wSBCAFDE h5 hc5
                   have h6 : Sep wSBCAFDE (OI (.slice a5 22 c5) (List.replicate 20 0 ++ [v, 1]) :: _) := h5
                   have hc6 : 22 ≤ c5 := hc5
                   obtain ⟨g5, _, hge, _⟩ := (show OwnInts 0 wSBCAFDE (.slice a5 22 c5) _ from h6.hd).parts (by simp)
                   obtain rfl : a5 = some ⟨g5, 0, none⟩ := by injection hge
                   have SBCAFDE := Lib.hid h6
                   clear h0 h5 h6 hc5 hge)
                | (have h0 := (SBCAFG.out.litI2 v 1)
                   try simp only [asz] at h0
                   refine step_app_intsS rfl (.tmp 38) (.tmp 42) rfl rfl rfl h0.s3 h0.hd.read (by simp) ?_
                   intro a5 c5 wSBCAFGDE h5 hc5
                   have h6 : Sep wSBCAFGDE (OI (.slice a5 22 c5) (List.replicate 20 0 ++ [v, 1]) :: _) := h5
                   have hc6 : 22 ≤ c5 := hc5
                   obtain ⟨g5, _, hge, _⟩ := (show OwnInts 0 wSBCAFGDE (.slice a5 22 c5) _ from h6.hd).parts (by simp)
                   obtain rfl : a5 = some ⟨g5, 0, none⟩ := by injection hge
                   have SBCAFGDE := Lib.hid h6
                   clear h0 h5 h6 hc5 hge
                   obtain ⟨L, hL, h7⟩ := cut22 SBCAFGDE.out rfl hm3
                   have hmc : (m : Int) ≤ (c5 : Int) := by omega
                   obtain ⟨t0, t1, t2, t3⟩ := bx h7.s4.hd
                   have h8 := (h7.s4.setB 0 (.slice (some ⟨g5, 0, none⟩) m c5)).s7.s7.s4.s4.s6
                   have HF5 := Lib.hid ((h8.under (fun h => h.under (fun h => h.under (fun h => h.under (fun h => h.under (fun h => h.tl.tl) (by simp +contextual)) (by simp +contextual)) (by simp +contextual)) (by simp +contextual)) (by simp +contextual)).more (m := n + 8000 + 2 + 2 + 2) (by omega))
                   clear h7 h8)
                | (have h0 := SBCADFG.out
                   try simp only [asz] at h0
                   refine step_app_intsS rfl (.tmp 38) (.tmp 42) rfl rfl rfl h0.s3 h0.s2.hd.read (by simp) ?_
                   intro a5 c5 wSBCADFGE h5 hc5
                   have h6 : Sep wSBCADFGE (OI (.slice a5 22 c5) (List.replicate 20 0 ++ [v, 1]) :: _) := h5
                   have hc6 : 22 ≤ c5 := hc5
                   obtain ⟨g5, _, hge, _⟩ := (show OwnInts 0 wSBCADFGE (.slice a5 22 c5) _ from h6.hd).parts (by simp)
                   obtain rfl : a5 = some ⟨g5, 0, none⟩ := by injection hge
                   have SBCADFGE := Lib.hid h6
                   clear h0 h5 h6 hc5 hge
                   obtain ⟨L, hL, h7⟩ := cut22 SBCADFGE.out rfl hm3
                   have hmc : (m : Int) ≤ (c5 : Int) := by omega
                   obtain ⟨t0, t1, t2, t3⟩ := bx h7.s4.hd
                   have h8 := (h7.s4.setB 0 (.slice (some ⟨g5, 0, none⟩) m c5)).s7.s7.s4.s4.s5
                   have HF5 := Lib.hid ((h8.under (fun h => h.under (fun h => h.under (fun h => h.under (fun h => h.under (fun h => h.tl.tl) (by simp +contextual)) (by simp +contextual)) (by simp +contextual)) (by simp +contextual)) (by simp +contextual)).more (m := n + 8000 + 2 + 2 + 2) (by omega))
                   clear h7 h8)
                | (have h0 := (((SBC.out.mk20).litI2 v 1).litI2 21 22)
                   try simp only [asz] at h0
                   refine step_app_intsS rfl (.tmp 38) (.tmp 42) rfl rfl rfl h0.s3 h0.s2.hd.read (by simp) ?_
                   intro a5 c5 wSBCADFE h5 hc5
                   have h6 : Sep wSBCADFE (OI (.slice a5 22 c5) (List.replicate 20 0 ++ [v, 1]) :: _) := h5
                   have hc6 : 22 ≤ c5 := hc5
                   obtain ⟨g5, _, hge, _⟩ := (show OwnInts 0 wSBCADFE (.slice a5 22 c5) _ from h6.hd).parts (by simp)
                   obtain rfl : a5 = some ⟨g5, 0, none⟩ := by injection hge
                   have SBCADFE := Lib.hid h6
                   clear h0 h5 h6 hc5 hge)
                | (have h0 := ((SBC.out.mk20).litI2 v 1)
                   try simp only [asz] at h0
                   refine step_app_intsS rfl (.tmp 38) (.tmp 42) rfl rfl rfl h0.s2 h0.hd.read (by simp) ?_
                   intro a5 c5 wSBCADE h5 hc5
                   have h6 : Sep wSBCADE (OI (.slice a5 22 c5) (List.replicate 20 0 ++ [v, 1]) :: _) := h5
                   have hc6 : 22 ≤ c5 := hc5
                   obtain ⟨g5, _, hge, _⟩ := (show OwnInts 0 wSBCADE (.slice a5 22 c5) _ from h6.hd).parts (by simp)
                   obtain rfl : a5 = some ⟨g5, 0, none⟩ := by injection hge
                   have SBCADE := Lib.hid h6
                   clear h0 h5 h6 hc5 hge)
                | (have h0 := SBCFADG.out
                   try simp only [asz] at h0
                   refine step_app_intsS rfl (.tmp 38) (.tmp 42) rfl rfl rfl h0.s3 h0.s2.hd.read (by simp) ?_
                   intro a5 c5 wSBCFADGE h5 hc5
                   have h6 : Sep wSBCFADGE (OI (.slice a5 22 c5) (List.replicate 20 0 ++ [v, 1]) :: _) := h5
                   have hc6 : 22 ≤ c5 := hc5
                   obtain ⟨g5, _, hge, _⟩ := (show OwnInts 0 wSBCFADGE (.slice a5 22 c5) _ from h6.hd).parts (by simp)
                   obtain rfl : a5 = some ⟨g5, 0, none⟩ := by injection hge
                   have SBCFADGE := Lib.hid h6
                   clear h0 h5 h6 hc5 hge
                   obtain ⟨L, hL, h7⟩ := cut22 SBCFADGE.out rfl hm3
                   have hmc : (m : Int) ≤ (c5 : Int) := by omega
                   obtain ⟨t0, t1, t2, t3⟩ := bx h7.s4.hd
                   have h8 := (h7.s4.setB 0 (.slice (some ⟨g5, 0, none⟩) m c5)).s7.s7.s4.s4.s5
                   have HF5 := Lib.hid ((h8.under (fun h => h.under (fun h => h.under (fun h => h.under (fun h => h.under (fun h => h.tl.tl) (by simp +contextual)) (by simp +contextual)) (by simp +contextual)) (by simp +contextual)) (by simp +contextual)).more (m := n + 8000 + 2 + 2 + 2) (by omega))
                   clear h7 h8)
                | (have h0 := (((SBC.out.litI2 21 22).mk20).litI2 v 1)
                   try simp only [asz] at h0
                   refine step_app_intsS rfl (.tmp 38) (.tmp 42) rfl rfl rfl h0.s2 h0.hd.read (by simp) ?_
                   intro a5 c5 wSBCFADE h5 hc5
                   have h6 : Sep wSBCFADE (OI (.slice a5 22 c5) (List.replicate 20 0 ++ [v, 1]) :: _) := h5
                   have hc6 : 22 ≤ c5 := hc5
                   obtain ⟨g5, _, hge, _⟩ := (show OwnInts 0 wSBCFADE (.slice a5 22 c5) _ from h6.hd).parts (by simp)
                   obtain rfl : a5 = some ⟨g5, 0, none⟩ := by injection hge
                   have SBCFADE := Lib.hid h6
                   clear h0 h5 h6 hc5 hge)
                | (have h0 := (SBCFAG.out.litI2 v 1)
                   try simp only [asz] at h0
                   refine step_app_intsS rfl (.tmp 38) (.tmp 42) rfl rfl rfl h0.s3 h0.hd.read (by simp) ?_
                   intro a5 c5 wSBCFAGDE h5 hc5
                   have h6 : Sep wSBCFAGDE (OI (.slice a5 22 c5) (List.replicate 20 0 ++ [v, 1]) :: _) := h5
                   have hc6 : 22 ≤ c5 := hc5
                   obtain ⟨g5, _, hge, _⟩ := (show OwnInts 0 wSBCFAGDE (.slice a5 22 c5) _ from h6.hd).parts (by simp)
                   obtain rfl : a5 = some ⟨g5, 0, none⟩ := by injection hge
                   have SBCFAGDE := Lib.hid h6
                   clear h0 h5 h6 hc5 hge
                   obtain ⟨L, hL, h7⟩ := cut22 SBCFAGDE.out rfl hm3
                   have hmc : (m : Int) ≤ (c5 : Int) := by omega
                   obtain ⟨t0, t1, t2, t3⟩ := bx h7.s4.hd
                   have h8 := (h7.s4.setB 0 (.slice (some ⟨g5, 0, none⟩) m c5)).s7.s7.s4.s4.s6
                   have HF5 := Lib.hid ((h8.under (fun h => h.under (fun h => h.under (fun h => h.under (fun h => h.under (fun h => h.tl.tl) (by simp +contextual)) (by simp +contextual)) (by simp +contextual)) (by simp +contextual)) (by simp +contextual)).more (m := n + 8000 + 2 + 2 + 2) (by omega))
                   clear h7 h8)
                | (have h0 := SBCFDAG.out
                   try simp only [asz] at h0
                   refine step_app_intsS rfl (.tmp 38) (.tmp 42) rfl rfl rfl h0.s2 h0.s3.hd.read (by simp) ?_
                   intro a5 c5 wSBCFDAGE h5 hc5
                   have h6 : Sep wSBCFDAGE (OI (.slice a5 22 c5) (List.replicate 20 0 ++ [v, 1]) :: _) := h5
                   have hc6 : 22 ≤ c5 := hc5
                   obtain ⟨g5, _, hge, _⟩ := (show OwnInts 0 wSBCFDAGE (.slice a5 22 c5) _ from h6.hd).parts (by simp)
                   obtain rfl : a5 = some ⟨g5, 0, none⟩ := by injection hge
                   have SBCFDAGE := Lib.hid h6
                   clear h0 h5 h6 hc5 hge
                   obtain ⟨L, hL, h7⟩ := cut22 SBCFDAGE.out rfl hm3
                   have hmc : (m : Int) ≤ (c5 : Int) := by omega
                   obtain ⟨t0, t1, t2, t3⟩ := bx h7.s4.hd
                   have h8 := (h7.s4.setB 0 (.slice (some ⟨g5, 0, none⟩) m c5)).s7.s7.s4.s4.s5
                   have HF5 := Lib.hid ((h8.under (fun h => h.under (fun h => h.under (fun h => h.under (fun h => h.under (fun h => h.tl.tl) (by simp +contextual)) (by simp +contextual)) (by simp +contextual)) (by simp +contextual)) (by simp +contextual)).more (m := n + 8000 + 2 + 2 + 2) (by omega))
                   clear h7 h8)
                | (have h0 := (((SBC.out.litI2 21 22).litI2 v 1).mk20)
                   try simp only [asz] at h0
                   refine step_app_intsS rfl (.tmp 38) (.tmp 42) rfl rfl rfl h0 h0.s2.hd.read (by simp) ?_
                   intro a5 c5 wSBCFDAE h5 hc5
                   have h6 : Sep wSBCFDAE (OI (.slice a5 22 c5) (List.replicate 20 0 ++ [v, 1]) :: _) := h5
                   have hc6 : 22 ≤ c5 := hc5
                   obtain ⟨g5, _, hge, _⟩ := (show OwnInts 0 wSBCFDAE (.slice a5 22 c5) _ from h6.hd).parts (by simp)
                   obtain rfl : a5 = some ⟨g5, 0, none⟩ := by injection hge
                   have SBCFDAE := Lib.hid h6
                   clear h0 h5 h6 hc5 hge)
                | (have h0 := (SBCFDG.out.mk20)
                   try simp only [asz] at h0
                   refine step_app_intsS rfl (.tmp 38) (.tmp 42) rfl rfl rfl h0 h0.s3.hd.read (by simp) ?_
                   intro a5 c5 wSBCFDGAE h5 hc5
                   have h6 : Sep wSBCFDGAE (OI (.slice a5 22 c5) (List.replicate 20 0 ++ [v, 1]) :: _) := h5
                   have hc6 : 22 ≤ c5 := hc5
                   obtain ⟨g5, _, hge, _⟩ := (show OwnInts 0 wSBCFDGAE (.slice a5 22 c5) _ from h6.hd).parts (by simp)
                   obtain rfl : a5 = some ⟨g5, 0, none⟩ := by injection hge
                   have SBCFDGAE := Lib.hid h6
                   clear h0 h5 h6 hc5 hge
                   obtain ⟨L, hL, h7⟩ := cut22 SBCFDGAE.out rfl hm3
                   have hmc : (m : Int) ≤ (c5 : Int) := by omega
                   obtain ⟨t0, t1, t2, t3⟩ := bx h7.s4.hd
                   have h8 := (h7.s4.setB 0 (.slice (some ⟨g5, 0, none⟩) m c5)).s7.s7.s4.s4.s5
                   have HF5 := Lib.hid ((h8.under (fun h => h.under (fun h => h.under (fun h => h.under (fun h => h.under (fun h => h.tl.tl) (by simp +contextual)) (by simp +contextual)) (by simp +contextual)) (by simp +contextual)) (by simp +contextual)).more (m := n + 8000 + 2 + 2 + 2) (by omega))
                   clear h7 h8)
                | (have h0 := ((SBCFG.out.mk20).litI2 v 1)
                   try simp only [asz] at h0
                   refine step_app_intsS rfl (.tmp 38) (.tmp 42) rfl rfl rfl h0.s2 h0.hd.read (by simp) ?_
                   intro a5 c5 wSBCFGADE h5 hc5
                   have h6 : Sep wSBCFGADE (OI (.slice a5 22 c5) (List.replicate 20 0 ++ [v, 1]) :: _) := h5
                   have hc6 : 22 ≤ c5 := hc5
                   obtain ⟨g5, _, hge, _⟩ := (show OwnInts 0 wSBCFGADE (.slice a5 22 c5) _ from h6.hd).parts (by simp)
                   obtain rfl : a5 = some ⟨g5, 0, none⟩ := by injection hge
                   have SBCFGADE := Lib.hid h6
                   clear h0 h5 h6 hc5 hge
                   obtain ⟨L, hL, h7⟩ := cut22 SBCFGADE.out rfl hm3
                   have hmc : (m : Int) ≤ (c5 : Int) := by omega
                   obtain ⟨t0, t1, t2, t3⟩ := bx h7.s4.hd
                   have h8 := (h7.s4.setB 0 (.slice (some ⟨g5, 0, none⟩) m c5)).s7.s7.s4.s4.s6
                   have HF5 := Lib.hid ((h8.under (fun h => h.under (fun h => h.under (fun h => h.under (fun h => h.under (fun h => h.tl.tl) (by simp +contextual)) (by simp +contextual)) (by simp +contextual)) (by simp +contextual)) (by simp +contextual)).more (m := n + 8000 + 2 + 2 + 2) (by omega))
                   clear h7 h8)
                | (have h0 := ((SBCFG.out.litI2 v 1).mk20)
                   try simp only [asz] at h0
                   refine step_app_intsS rfl (.tmp 38) (.tmp 42) rfl rfl rfl h0 h0.s2.hd.read (by simp) ?_
                   intro a5 c5 wSBCFGDAE h5 hc5
                   have h6 : Sep wSBCFGDAE (OI (.slice a5 22 c5) (List.replicate 20 0 ++ [v, 1]) :: _) := h5
                   have hc6 : 22 ≤ c5 := hc5
                   obtain ⟨g5, _, hge, _⟩ := (show OwnInts 0 wSBCFGDAE (.slice a5 22 c5) _ from h6.hd).parts (by simp)
                   obtain rfl : a5 = some ⟨g5, 0, none⟩ := by injection hge
                   have SBCFGDAE := Lib.hid h6
                   clear h0 h5 h6 hc5 hge
                   obtain ⟨L, hL, h7⟩ := cut22 SBCFGDAE.out rfl hm3
                   have hmc : (m : Int) ≤ (c5 : Int) := by omega
                   obtain ⟨t0, t1, t2, t3⟩ := bx h7.s4.hd
                   have h8 := (h7.s4.setB 0 (.slice (some ⟨g5, 0, none⟩) m c5)).s7.s7.s4.s4.s6
                   have HF5 := Lib.hid ((h8.under (fun h => h.under (fun h => h.under (fun h => h.under (fun h => h.under (fun h => h.tl.tl) (by simp +contextual)) (by simp +contextual)) (by simp +contextual)) (by simp +contextual)) (by simp +contextual)).more (m := n + 8000 + 2 + 2 + 2) (by omega))
                   clear h7 h8)
                | (have h0 := SBCDAFG.out
                   try simp only [asz] at h0
                   refine step_app_intsS rfl (.tmp 38) (.tmp 42) rfl rfl rfl h0.s2 h0.s3.hd.read (by simp) ?_
                   intro a5 c5 wSBCDAFGE h5 hc5
                   have h6 : Sep wSBCDAFGE (OI (.slice a5 22 c5) (List.replicate 20 0 ++ [v, 1]) :: _) := h5
                   have hc6 : 22 ≤ c5 := hc5
                   obtain ⟨g5, _, hge, _⟩ := (show OwnInts 0 wSBCDAFGE (.slice a5 22 c5) _ from h6.hd).parts (by simp)
                   obtain rfl : a5 = some ⟨g5, 0, none⟩ := by injection hge
                   have SBCDAFGE := Lib.hid h6
                   clear h0 h5 h6 hc5 hge
                   obtain ⟨L, hL, h7⟩ := cut22 SBCDAFGE.out rfl hm3
                   have hmc : (m : Int) ≤ (c5 : Int) := by omega
                   obtain ⟨t0, t1, t2, t3⟩ := bx h7.s4.hd
                   have h8 := (h7.s4.setB 0 (.slice (some ⟨g5, 0, none⟩) m c5)).s7.s7.s4.s4.s5
                   have HF5 := Lib.hid ((h8.under (fun h => h.under (fun h => h.under (fun h => h.under (fun h => h.under (fun h => h.tl.tl) (by simp +contextual)) (by simp +contextual)) (by simp +contextual)) (by simp +contextual)) (by simp +contextual)).more (m := n + 8000 + 2 + 2 + 2) (by omega))
                   clear h7 h8)
                | (have h0 := (((SBC.out.litI2 v 1).mk20).litI2 21 22)
                   try simp only [asz] at h0
                   refine step_app_intsS rfl (.tmp 38) (.tmp 42) rfl rfl rfl h0.s2 h0.s3.hd.read (by simp) ?_
                   intro a5 c5 wSBCDAFE h5 hc5
                   have h6 : Sep wSBCDAFE (OI (.slice a5 22 c5) (List.replicate 20 0 ++ [v, 1]) :: _) := h5
                   have hc6 : 22 ≤ c5 := hc5
                   obtain ⟨g5, _, hge, _⟩ := (show OwnInts 0 wSBCDAFE (.slice a5 22 c5) _ from h6.hd).parts (by simp)
                   obtain rfl : a5 = some ⟨g5, 0, none⟩ := by injection hge
                   have SBCDAFE := Lib.hid h6
                   clear h0 h5 h6 hc5 hge)
                | (have h0 := ((SBC.out.litI2 v 1).mk20)
                   try simp only [asz] at h0
                   refine step_app_intsS rfl (.tmp 38) (.tmp 42) rfl rfl rfl h0 h0.s2.hd.read (by simp) ?_
                   intro a5 c5 wSBCDAE h5 hc5
                   have h6 : Sep wSBCDAE (OI (.slice a5 22 c5) (List.replicate 20 0 ++ [v, 1]) :: _) := h5
                   have hc6 : 22 ≤ c5 := hc5
                   obtain ⟨g5, _, hge, _⟩ := (show OwnInts 0 wSBCDAE (.slice a5 22 c5) _ from h6.hd).parts (by simp)
                   obtain rfl : a5 = some ⟨g5, 0, none⟩ := by injection hge
                   have SBCDAE := Lib.hid h6
                   clear h0 h5 h6 hc5 hge)
                | (have h0 := SBCDFAG.out
                   try simp only [asz] at h0
                   refine step_app_intsS rfl (.tmp 38) (.tmp 42) rfl rfl rfl h0.s2 h0.s3.hd.read (by simp) ?_
                   intro a5 c5 wSBCDFAGE h5 hc5
                   have h6 : Sep wSBCDFAGE (OI (.slice a5 22 c5) (List.replicate 20 0 ++ [v, 1]) :: _) := h5
                   have hc6 : 22 ≤ c5 := hc5
                   obtain ⟨g5, _, hge, _⟩ := (show OwnInts 0 wSBCDFAGE (.slice a5 22 c5) _ from h6.hd).parts (by simp)
                   obtain rfl : a5 = some ⟨g5, 0, none⟩ := by injection hge
                   have SBCDFAGE := Lib.hid h6
                   clear h0 h5 h6 hc5 hge
                   obtain ⟨L, hL, h7⟩ := cut22 SBCDFAGE.out rfl hm3
                   have hmc : (m : Int) ≤ (c5 : Int) := by omega
                   obtain ⟨t0, t1, t2, t3⟩ := bx h7.s4.hd
                   have h8 := (h7.s4.setB 0 (.slice (some ⟨g5, 0, none⟩) m c5)).s7.s7.s4.s4.s5
                   have HF5 := Lib.hid ((h8.under (fun h => h.under (fun h => h.under (fun h => h.under (fun h => h.under (fun h => h.tl.tl) (by simp +contextual)) (by simp +contextual)) (by simp +contextual)) (by simp +contextual)) (by simp +contextual)).more (m := n + 8000 + 2 + 2 + 2) (by omega))
                   clear h7 h8)
                | (have h0 := (((SBC.out.litI2 v 1).litI2 21 22).mk20)
                   try simp only [asz] at h0
                   refine step_app_intsS rfl (.tmp 38) (.tmp 42) rfl rfl rfl h0 h0.s3.hd.read (by simp) ?_
                   intro a5 c5 wSBCDFAE h5 hc5
                   have h6 : Sep wSBCDFAE (OI (.slice a5 22 c5) (List.replicate 20 0 ++ [v, 1]) :: _) := h5
                   have hc6 : 22 ≤ c5 := hc5
                   obtain ⟨g5, _, hge, _⟩ := (show OwnInts 0 wSBCDFAE (.slice a5 22 c5) _ from h6.hd).parts (by simp)
                   obtain rfl : a5 = some ⟨g5, 0, none⟩ := by injection hge
                   have SBCDFAE := Lib.hid h6
                   clear h0 h5 h6 hc5 hge)
                | (have h0 := (SBCDFG.out.mk20)
                   try simp only [asz] at h0
                   refine step_app_intsS rfl (.tmp 38) (.tmp 42) rfl rfl rfl h0 h0.s3.hd.read (by simp) ?_
                   intro a5 c5 wSBCDFGAE h5 hc5
                   have h6 : Sep wSBCDFGAE (OI (.slice a5 22 c5) (List.replicate 20 0 ++ [v, 1]) :: _) := h5
                   have hc6 : 22 ≤ c5 := hc5
                   obtain ⟨g5, _, hge, _⟩ := (show OwnInts 0 wSBCDFGAE (.slice a5 22 c5) _ from h6.hd).parts (by simp)
                   obtain rfl : a5 = some ⟨g5, 0, none⟩ := by injection hge
                   have SBCDFGAE := Lib.hid h6
                   clear h0 h5 h6 hc5 hge
                   obtain ⟨L, hL, h7⟩ := cut22 SBCDFGAE.out rfl hm3
                   have hmc : (m : Int) ≤ (c5 : Int) := by omega
                   obtain ⟨t0, t1, t2, t3⟩ := bx h7.s4.hd
                   have h8 := (h7.s4.setB 0 (.slice (some ⟨g5, 0, none⟩) m c5)).s7.s7.s4.s4.s5
                   have HF5 := Lib.hid ((h8.under (fun h => h.under (fun h => h.under (fun h => h.under (fun h => h.under (fun h => h.tl.tl) (by simp +contextual)) (by simp +contextual)) (by simp +contextual)) (by simp +contextual)) (by simp +contextual)).more (m := n + 8000 + 2 + 2 + 2) (by omega))
                   clear h7 h8)
                | (have h0 := SFABCDG.out
                   try simp only [asz] at h0
                   refine step_app_intsS rfl (.tmp 38) (.tmp 42) rfl rfl rfl h0.s3 h0.s2.hd.read (by simp) ?_
                   intro a5 c5 wSFABCDGE h5 hc5
                   have h6 : Sep wSFABCDGE (OI (.slice a5 22 c5) (List.replicate 20 0 ++ [v, 1]) :: _) := h5
                   have hc6 : 22 ≤ c5 := hc5
                   obtain ⟨g5, _, hge, _⟩ := (show OwnInts 0 wSFABCDGE (.slice a5 22 c5) _ from h6.hd).parts (by simp)
                   obtain rfl : a5 = some ⟨g5, 0, none⟩ := by injection hge
                   have SFABCDGE := Lib.hid h6
                   clear h0 h5 h6 hc5 hge
                   obtain ⟨L, hL, h7⟩ := cut22 SFABCDGE.out rfl hm3
                   have hmc : (m : Int) ≤ (c5 : Int) := by omega
                   obtain ⟨t0, t1, t2, t3⟩ := bx h7.s4.hd
                   have h8 := (h7.s4.setB 0 (.slice (some ⟨g5, 0, none⟩) m c5)).s7.s7.s4.s4.s5
                   have HF5 := Lib.hid ((h8.under (fun h => h.under (fun h => h.under (fun h => h.under (fun h => h.under (fun h => h.tl.tl) (by simp +contextual)) (by simp +contextual)) (by simp +contextual)) (by simp +contextual)) (by simp +contextual)).more (m := n + 8000 + 2 + 2 + 2) (by omega))
                   clear h7 h8)
                | (have h0 := (SFABC.out.litI2 v 1)
                   try simp only [asz] at h0
                   refine step_app_intsS rfl (.tmp 38) (.tmp 42) rfl rfl rfl h0.s3 h0.hd.read (by simp) ?_
                   intro a5 c5 wSFABCDE h5 hc5
                   have h6 : Sep wSFABCDE (OI (.slice a5 22 c5) (List.replicate 20 0 ++ [v, 1]) :: _) := h5
                   have hc6 : 22 ≤ c5 := hc5
                   obtain ⟨g5, _, hge, _⟩ := (show OwnInts 0 wSFABCDE (.slice a5 22 c5) _ from h6.hd).parts (by simp)
                   obtain rfl : a5 = some ⟨g5, 0, none⟩ := by injection hge
                   have SFABCDE := Lib.hid h6
                   clear h0 h5 h6 hc5 hge)
                | (have h0 := (SFABCG.out.litI2 v 1)
                   try simp only [asz] at h0
                   refine step_app_intsS rfl (.tmp 38) (.tmp 42) rfl rfl rfl h0.s3 h0.hd.read (by simp) ?_
                   intro a5 c5 wSFABCGDE h5 hc5
                   have h6 : Sep wSFABCGDE (OI (.slice a5 22 c5) (List.replicate 20 0 ++ [v, 1]) :: _) := h5
                   have hc6 : 22 ≤ c5 := hc5
                   obtain ⟨g5, _, hge, _⟩ := (show OwnInts 0 wSFABCGDE (.slice a5 22 c5) _ from h6.hd).parts (by simp)
                   obtain rfl : a5 = some ⟨g5, 0, none⟩ := by injection hge
                   have SFABCGDE := Lib.hid h6
                   clear h0 h5 h6 hc5 hge
                   obtain ⟨L, hL, h7⟩ := cut22 SFABCGDE.out rfl hm3
                   have hmc : (m : Int) ≤ (c5 : Int) := by omega
                   obtain ⟨t0, t1, t2, t3⟩ := bx h7.s4.hd
                   have h8 := (h7.s4.setB 0 (.slice (some ⟨g5, 0, none⟩) m c5)).s7.s7.s4.s4.s6
                   have HF5 := Lib.hid ((h8.under (fun h => h.under (fun h => h.under (fun h => h.under (fun h => h.under (fun h => h.tl.tl) (by simp +contextual)) (by simp +contextual)) (by simp +contextual)) (by simp +contextual)) (by simp +contextual)).more (m := n + 8000 + 2 + 2 + 2) (by omega))
                   clear h7 h8)
                | (have h0 := SFBACDG.out
                   try simp only [asz] at h0
                   refine step_app_intsS rfl (.tmp 38) (.tmp 42) rfl rfl rfl h0.s3 h0.s2.hd.read (by simp) ?_
                   intro a5 c5 wSFBACDGE h5 hc5
                   have h6 : Sep wSFBACDGE (OI (.slice a5 22 c5) (List.replicate 20 0 ++ [v, 1]) :: _) := h5
                   have hc6 : 22 ≤ c5 := hc5
                   obtain ⟨g5, _, hge, _⟩ := (show OwnInts 0 wSFBACDGE (.slice a5 22 c5) _ from h6.hd).parts (by simp)
                   obtain rfl : a5 = some ⟨g5, 0, none⟩ := by injection hge
                   have SFBACDGE := Lib.hid h6
                   clear h0 h5 h6 hc5 hge
                   obtain ⟨L, hL, h7⟩ := cut22 SFBACDGE.out rfl hm3
                   have hmc : (m : Int) ≤ (c5 : Int) := by omega
                   obtain ⟨t0, t1, t2, t3⟩ := bx h7.s4.hd
                   have h8 := (h7.s4.setB 0 (.slice (some ⟨g5, 0, none⟩) m c5)).s7.s7.s4.s4.s5
                   have HF5 := Lib.hid ((h8.under (fun h => h.under (fun h => h.under (fun h => h.under (fun h => h.under (fun h => h.tl.tl) (by simp +contextual)) (by simp +contextual)) (by simp +contextual)) (by simp +contextual)) (by simp +contextual)).more (m := n + 8000 + 2 + 2 + 2) (by omega))
                   clear h7 h8)
                | (have h0 := (SFBAC.out.litI2 v 1)
                   try simp only [asz] at h0
                   refine step_app_intsS rfl (.tmp 38) (.tmp 42) rfl rfl rfl h0.s3 h0.hd.read (by simp) ?_
                   intro a5 c5 wSFBACDE h5 hc5
                   have h6 : Sep wSFBACDE (OI (.slice a5 22 c5) (List.replicate 20 0 ++ [v, 1]) :: _) := h5
                   have hc6 : 22 ≤ c5 := hc5
                   obtain ⟨g5, _, hge, _⟩ := (show OwnInts 0 wSFBACDE (.slice a5 22 c5) _ from h6.hd).parts (by simp)
                   obtain rfl : a5 = some ⟨g5, 0, none⟩ := by injection hge
                   have SFBACDE := Lib.hid h6
                   clear h0 h5 h6 hc5 hge)
                | (have h0 := (SFBACG.out.litI2 v 1)
                   try simp only [asz] at h0
                   refine step_app_intsS rfl (.tmp 38) (.tmp 42) rfl rfl rfl h0.s3 h0.hd.read (by simp) ?_
                   intro a5 c5 wSFBACGDE h5 hc5
                   have h6 : Sep wSFBACGDE (OI (.slice a5 22 c5) (List.replicate 20 0 ++ [v, 1]) :: _) := h5
                   have hc6 : 22 ≤ c5 := hc5
                   obtain ⟨g5, _, hge, _⟩ := (show OwnInts 0 wSFBACGDE (.slice a5 22 c5) _ from h6.hd).parts (by simp)
                   obtain rfl : a5 = some ⟨g5, 0, none⟩ := by injection hge
                   have SFBACGDE := Lib.hid h6
                   clear h0 h5 h6 hc5 hge
                   obtain ⟨L, hL, h7⟩ := cut22 SFBACGDE.out rfl hm3
                   have hmc : (m : Int) ≤ (c5 : Int) := by omega
                   obtain ⟨t0, t1, t2, t3⟩ := bx h7.s4.hd
                   have h8 := (h7.s4.setB 0 (.slice (some ⟨g5, 0, none⟩) m c5)).s7.s7.s4.s4.s6
                   have HF5 := Lib.hid ((h8.under (fun h => h.under (fun h => h.under (fun h => h.under (fun h => h.under (fun h => h.tl.tl) (by simp +contextual)) (by simp +contextual)) (by simp +contextual)) (by simp +contextual)) (by simp +contextual)).more (m := n + 8000 + 2 + 2 + 2) (by omega))
                   clear h7 h8)
                | (have h0 := SFBCADG.out
                   try simp only [asz] at h0
                   refine step_app_intsS rfl (.tmp 38) (.tmp 42) rfl rfl rfl h0.s3 h0.s2.hd.read (by simp) ?_
                   intro a5 c5 wSFBCADGE h5 hc5
                   have h6 : Sep wSFBCADGE (OI (.slice a5 22 c5) (List.replicate 20 0 ++ [v, 1]) :: _) := h5
                   have hc6 : 22 ≤ c5 := hc5
                   obtain ⟨g5, _, hge, _⟩ := (show OwnInts 0 wSFBCADGE (.slice a5 22 c5) _ from h6.hd).parts (by simp)
                   obtain rfl : a5 = some ⟨g5, 0, none⟩ := by injection hge
                   have SFBCADGE := Lib.hid h6
                   clear h0 h5 h6 hc5 hge
                   obtain ⟨L, hL, h7⟩ := cut22 SFBCADGE.out rfl hm3
                   have hmc : (m : Int) ≤ (c5 : Int) := by omega
                   obtain ⟨t0, t1, t2, t3⟩ := bx h7.s4.hd
                   have h8 := (h7.s4.setB 0 (.slice (some ⟨g5, 0, none⟩) m c5)).s7.s7.s4.s4.s5
                   have HF5 := Lib.hid ((h8.under (fun h => h.under (fun h => h.under (fun h => h.under (fun h => h.under (fun h => h.tl.tl) (by simp +contextual)) (by simp +contextual)) (by simp +contextual)) (by simp +contextual)) (by simp +contextual)).more (m := n + 8000 + 2 + 2 + 2) (by omega))
                   clear h7 h8)
                | (have h0 := ((SFBC.out.mk20).litI2 v 1)
                   try simp only [asz] at h0
                   refine step_app_intsS rfl (.tmp 38) (.tmp 42) rfl rfl rfl h0.s2 h0.hd.read (by simp) ?_
                   intro a5 c5 wSFBCADE h5 hc5
                   have h6 : Sep wSFBCADE (OI (.slice a5 22 c5) (List.replicate 20 0 ++ [v, 1]) :: _) := h5
                   have hc6 : 22 ≤ c5 := hc5
                   obtain ⟨g5, _, hge, _⟩ := (show OwnInts 0 wSFBCADE (.slice a5 22 c5) _ from h6.hd).parts (by simp)
                   obtain rfl : a5 = some ⟨g5, 0, none⟩ := by injection hge
                   have SFBCADE := Lib.hid h6
                   clear h0 h5 h6 hc5 hge)
                | (have h0 := (SFBCAG.out.litI2 v 1)
                   try simp only [asz] at h0
                   refine step_app_intsS rfl (.tmp 38) (.tmp 42) rfl rfl rfl h0.s3 h0.hd.read (by simp) ?_
                   intro a5 c5 wSFBCAGDE h5 hc5
                   have h6 : Sep wSFBCAGDE (OI (.slice a5 22 c5) (List.replicate 20 0 ++ [v, 1]) :: _) := h5
                   have hc6 : 22 ≤ c5 := hc5
                   obtain ⟨g5, _, hge, _⟩ := (show OwnInts 0 wSFBCAGDE (.slice a5 22 c5) _ from h6.hd).parts (by simp)
                   obtain rfl : a5 = some ⟨g5, 0, none⟩ := by injection hge
                   have SFBCAGDE := Lib.hid h6
                   clear h0 h5 h6 hc5 hge
                   obtain ⟨L, hL, h7⟩ := cut22 SFBCAGDE.out rfl hm3
                   have hmc : (m : Int) ≤ (c5 : Int) := by omega
                   obtain ⟨t0, t1, t2, t3⟩ := bx h7.s4.hd
                   have h8 := (h7.s4.setB 0 (.slice (some ⟨g5, 0, none⟩) m c5)).s7.s7.s4.s4.s6
                   have HF5 := Lib.hid ((h8.under (fun h => h.under (fun h => h.under (fun h => h.under (fun h => h.under (fun h => h.tl.tl) (by simp +contextual)) (by simp +contextual)) (by simp +contextual)) (by simp +contextual)) (by simp +contextual)).more (m := n + 8000 + 2 + 2 + 2) (by omega))
                   clear h7 h8)
                | (have h0 := SFBCDAG.out
                   try simp only [asz] at h0
                   refine step_app_intsS rfl (.tmp 38) (.tmp 42) rfl rfl rfl h0.s2 h0.s3.hd.read (by simp) ?_
                   intro a5 c5 wSFBCDAGE h5 hc5
                   have h6 : Sep wSFBCDAGE (OI (.slice a5 22 c5) (List.replicate 20 0 ++ [v, 1]) :: _) := h5
                   have hc6 : 22 ≤ c5 := hc5
                   obtain ⟨g5, _, hge, _⟩ := (show OwnInts 0 wSFBCDAGE (.slice a5 22 c5) _ from h6.hd).parts (by simp)
                   obtain rfl : a5 = some ⟨g5, 0, none⟩ := by injection hge
                   have SFBCDAGE := Lib.hid h6
                   clear h0 h5 h6 hc5 hge
                   obtain ⟨L, hL, h7⟩ := cut22 SFBCDAGE.out rfl hm3
                   have hmc : (m : Int) ≤ (c5 : Int) := by omega
                   obtain ⟨t0, t1, t2, t3⟩ := bx h7.s4.hd
                   have h8 := (h7.s4.setB 0 (.slice (some ⟨g5, 0, none⟩) m c5)).s7.s7.s4.s4.s5
                   have HF5 := Lib.hid ((h8.under (fun h => h.under (fun h => h.under (fun h => h.under (fun h => h.under (fun h => h.tl.tl) (by simp +contextual)) (by simp +contextual)) (by simp +contextual)) (by simp +contextual)) (by simp +contextual)).more (m := n + 8000 + 2 + 2 + 2) (by omega))
                   clear h7 h8)
                | (have h0 := ((SFBC.out.litI2 v 1).mk20)
                   try simp only [asz] at h0
                   refine step_app_intsS rfl (.tmp 38) (.tmp 42) rfl rfl rfl h0 h0.s2.hd.read (by simp) ?_
                   intro a5 c5 wSFBCDAE h5 hc5
                   have h6 : Sep wSFBCDAE (OI (.slice a5 22 c5) (List.replicate 20 0 ++ [v, 1]) :: _) := h5
                   have hc6 : 22 ≤ c5 := hc5
                   obtain ⟨g5, _, hge, _⟩ := (show OwnInts 0 wSFBCDAE (.slice a5 22 c5) _ from h6.hd).parts (by simp)
                   obtain rfl : a5 = some ⟨g5, 0, none⟩ := by injection hge
                   have SFBCDAE := Lib.hid h6
                   clear h0 h5 h6 hc5 hge)
                | (have h0 := (SFBCDG.out.mk20)
                   try simp only [asz] at h0
                   refine step_app_intsS rfl (.tmp 38) (.tmp 42) rfl rfl rfl h0 h0.s3.hd.read (by simp) ?_
                   intro a5 c5 wSFBCDGAE h5 hc5
                   have h6 : Sep wSFBCDGAE (OI (.slice a5 22 c5) (List.replicate 20 0 ++ [v, 1]) :: _) := h5
                   have hc6 : 22 ≤ c5 := hc5
                   obtain ⟨g5, _, hge, _⟩ := (show OwnInts 0 wSFBCDGAE (.slice a5 22 c5) _ from h6.hd).parts (by simp)
                   obtain rfl : a5 = some ⟨g5, 0, none⟩ := by injection hge
                   have SFBCDGAE := Lib.hid h6
                   clear h0 h5 h6 hc5 hge
                   obtain ⟨L, hL, h7⟩ := cut22 SFBCDGAE.out rfl hm3
                   have hmc : (m : Int) ≤ (c5 : Int) := by omega
                   obtain ⟨t0, t1, t2, t3⟩ := bx h7.s4.hd
                   have h8 := (h7.s4.setB 0 (.slice (some ⟨g5, 0, none⟩) m c5)).s7.s7.s4.s4.s5
                   have HF5 := Lib.hid ((h8.under (fun h => h.under (fun h => h.under (fun h => h.under (fun h => h.under (fun h => h.tl.tl) (by simp +contextual)) (by simp +contextual)) (by simp +contextual)) (by simp +contextual)) (by simp +contextual)).more (m := n + 8000 + 2 + 2 + 2) (by omega))
                   clear h7 h8)
                | (have h0 := ((SFBCG.out.mk20).litI2 v 1)
                   try simp only [asz] at h0
                   refine step_app_intsS rfl (.tmp 38) (.tmp 42) rfl rfl rfl h0.s2 h0.hd.read (by simp) ?_
                   intro a5 c5 wSFBCGADE h5 hc5
                   have h6 : Sep wSFBCGADE (OI (.slice a5 22 c5) (List.replicate 20 0 ++ [v, 1]) :: _) := h5
                   have hc6 : 22 ≤ c5 := hc5
                   obtain ⟨g5, _, hge, _⟩ := (show OwnInts 0 wSFBCGADE (.slice a5 22 c5) _ from h6.hd).parts (by simp)
                   obtain rfl : a5 = some ⟨g5, 0, none⟩ := by injection hge
                   have SFBCGADE := Lib.hid h6
                   clear h0 h5 h6 hc5 hge
                   obtain ⟨L, hL, h7⟩ := cut22 SFBCGADE.out rfl hm3
                   have hmc : (m : Int) ≤ (c5 : Int) := by omega
                   obtain ⟨t0, t1, t2, t3⟩ := bx h7.s4.hd
                   have h8 := (h7.s4.setB 0 (.slice (some ⟨g5, 0, none⟩) m c5)).s7.s7.s4.s4.s6
                   have HF5 := Lib.hid ((h8.under (fun h => h.under (fun h => h.under (fun h => h.under (fun h => h.under (fun h => h.tl.tl) (by simp +contextual)) (by simp +contextual)) (by simp +contextual)) (by simp +contextual)) (by simp +contextual)).more (m := n + 8000 + 2 + 2 + 2) (by omega))
                   clear h7 h8)
                | (have h0 := ((SFBCG.out.litI2 v 1).mk20)
                   try simp only [asz] at h0
                   refine step_app_intsS rfl (.tmp 38) (.tmp 42) rfl rfl rfl h0 h0.s2.hd.read (by simp) ?_
                   intro a5 c5 wSFBCGDAE h5 hc5
                   have h6 : Sep wSFBCGDAE (OI (.slice a5 22 c5) (List.replicate 20 0 ++ [v, 1]) :: _) := h5
                   have hc6 : 22 ≤ c5 := hc5
                   obtain ⟨g5, _, hge, _⟩ := (show OwnInts 0 wSFBCGDAE (.slice a5 22 c5) _ from h6.hd).parts (by simp)
                   obtain rfl : a5 = some ⟨g5, 0, none⟩ := by injection hge
                   have SFBCGDAE := Lib.hid h6
                   clear h0 h5 h6 hc5 hge
                   obtain ⟨L, hL, h7⟩ := cut22 SFBCGDAE.out rfl hm3
                   have hmc : (m : Int) ≤ (c5 : Int) := by omega
                   obtain ⟨t0, t1, t2, t3⟩ := bx h7.s4.hd
                   have h8 := (h7.s4.setB 0 (.slice (some ⟨g5, 0, none⟩) m c5)).s7.s7.s4.s4.s6
                   have HF5 := Lib.hid ((h8.under (fun h => h.under (fun h => h.under (fun h => h.under (fun h => h.under (fun h => h.tl.tl) (by simp +contextual)) (by simp +contextual)) (by simp +contextual)) (by simp +contextual)) (by simp +contextual)).more (m := n + 8000 + 2 + 2 + 2) (by omega))
                   clear h7 h8))
            all_goals
              go_wp2
              go_meet
              exact ⟨L, g, some ⟨g5, 0, none⟩, c5, a2, c2, by omega, by omega, by rw [hL]; exact HF5.out⟩
          · by_cases h3 : x = 3
            · subst h3
              obtain ⟨t0, t1, t2, t3⟩ := bx HS3.out.tl.hd
              have hs4 := HS3.out.s2.setB 1 (.slice none 0 0)
              have hs5 := hs4.s2.nilI.s2.under (fun h => h.s3.s3.under (fun h => h.under (fun h => h.drop2) (by simp +contextual)) (by simp +contextual)) (by simp +contextual)
              have HF5 := Lib.hid (hs5.more (m := n + 8000 + 2 + 2 + 2) (by omega))
              clear hs4 hs5
              go_wp2_with fail
              go_meet
              exact ⟨f, [], a1, c1, none, 0, by omega, by simp, HF5.out⟩
            · by_cases h4 : x = 4
              · subst h4
                obtain ⟨t0, t1, t2, t3⟩ := bx HS3.out.tl.hd
                have HSa := Lib.hid (HS3.out.litI2 1 1)
                have hone : ∀ z ∈ [(1 : Int), 1], 0 ≤ z ∧ z < (q : Int) := fun z hz => by simp at hz; omega
                have M1 := Lib.hid (poMul_any q (.slice a1 f.length c1) (.slice (some ⟨w2.heap.size, 0, none⟩) 2 2) f [1, 1] _ (by omega) (by omega) HSa.out.tl.tl.tl.hd.read HSa.out.hd.read HI.out.on.els hone (by omega) (by simp))
                have L1 := mulF_len (q : Int) f [1, 1]
                have L2 := mulF_len (q : Int) g [1, 1]
                simp only [List.length_cons, List.length_nil] at L1 L2
                go_wp2_with (first
                  | (go_at_call 108
                     with_reducible refine M1.out.mono ?_
                     rintro e w5 ⟨o, rfl, ho, hg⟩
                     obtain ⟨a5, c5, rfl, _⟩ := own_cap' ho
                     have h5 := (HSa.out.newI hg ho).s4
                     obtain ⟨r0, r1, r2, r3⟩ := bx h5.hd
                     have h6 := h5.setB 0 (.slice a5 (mulF (q : Int) f [1, 1]).length c5)
                     obtain ⟨y0, y1, y2, y3⟩ := bx h6.hd
                     have h7 := h6.litI2 1 1
                     rw [show (w5.setCell ⟨wf.heap.size, 0, none⟩ (.slice a5 (mulF (q : Int) f [1, 1]).length c5)).heap.size = w5.heap.size by simp] at h7
                     have HSb := Lib.hid h7
                     have M2 := Lib.hid (poMul_any q (.slice a2 g.length c2) _ g [1, 1] _ (by omega) (by omega) h7.tl.tl.tl.tl.tl.tl.hd.read h7.hd.read HI.out.od.els hone (by omega) (by simp))
                     clear ho hg h5 h6 h7)
                  | (go_at_call 108
                     with_reducible refine M2.out.mono ?_
                     rintro e w7 ⟨o, rfl, ho, hg⟩
                     obtain ⟨a7, c7, rfl, _⟩ := own_cap' ho
                     have h8 := (HSb.out.newI hg ho).s3
                     obtain ⟨q0, q1, q2, q3⟩ := bx h8.hd
                     have h9 := (h8.setB 1 (.slice a7 (mulF (q : Int) g [1, 1]).length c7)).s6
                     have HF5 := Lib.hid ((h9.under (fun h => h.under (fun h => h.s3.under (fun h => h.under (fun h => h.tl.tl.tl.tl) (by simp +contextual)) (by simp +contextual)) (by simp +contextual)) (by simp +contextual)).more (m := n + 8000 + 2 + 2 + 2) (by omega))
                     clear ho hg h8 h9))
                go_meet
                exact ⟨_, _, a5, c5, a7, c7, by omega, by omega, HF5.out⟩
              · go_wp2_with fail
                go_meet
                exact ⟨f, g, a1, c1, a2, c2, by omega, by omega, HS3.out.more (by omega)⟩
    case rest =>
      obtain ⟨f', g', b1, d1, b2, d2, m1, m2, hs9⟩ := hcut
      obtain ⟨t0, t1, t2, t3⟩ := bx hs9.tl.hd
      obtain ⟨q0, q1, q2, q3⟩ := bx hs9.tl.tl.tl.tl.hd
      have h8 := (hs9.s5.setB 0 (.slice b1 f'.length d1)).setB 1 (.slice b2 g'.length d2)
      obtain ⟨k0, k1, _, _⟩ := bx h8.hd
      have HSF := Lib.hid (show Sep _ (OI (.slice b1 f'.length d1) f' :: OI (.slice b2 g'.length d2) g' :: CA N b (n + 10000) :: lst) from ((h8.tl.more (m := n + 10000) (by omega)).under (fun h => h.tl) (by simp +contextual)).s3.s3)
      clear hs9 h8 HS3
      go_wp2_with fail
      refine bodyPost_ret_by (v := .agg #[.slice b1 f'.length d1, .slice b2 g'.length d2]) ?_ rfl ⟨_, _, f', g', rfl, ⟨m1, m2⟩, HSF.out⟩
      simp [results, go_sem, *]
end Go.Proofs.YtpeaeminjbjlnaaDoor

/-
  Instructions in memory; the laws' own helpers on them. Conditions: lengths are small.
-/
import Derived.Test.YtmofaaceadnafaaDoorNa02
import Derived.Test.YtmofaaceadnafaaDoorNa05
import Derived.Test.YtmofaaceadnafaaDoorNa01
import Derived.Test.YtmofaaceadnafaaDoorNa03
namespace Go.Proofs.YtmofaaceadnafaaDoor
open Go.RowKit
set_option linter.unusedVariables false
set_option maxRecDepth 100000

/-- An instruction: its operation, its registers, its value. -/
structure It where
  o : Int
  r : Int
  a : Int
  b : Int
  v : Int
theorem It.ext' {x y : It} (h1 : x.o = y.o) (h2 : x.r = y.r) (h3 : x.a = y.a) (h4 : x.b = y.b) (h5 : x.v = y.v) : x = y := by
  cases x; cases y; simp_all
instance : DecidableEq It := fun x y => decidable_of_iff (x.o = y.o ∧ x.r = y.r ∧ x.a = y.a ∧ x.b = y.b ∧ x.v = y.v) ⟨fun ⟨h1, h2, h3, h4, h5⟩ => It.ext' h1 h2 h3 h4 h5, fun h => by subst h; exact ⟨rfl, rfl, rfl, rfl, rfl⟩⟩
def i0 : It := ⟨0, 0, 0, 0, 0⟩
def instC (g : It) : List Value := [.int .i64 g.o, .int .i64 g.r, .int .i64 g.a, .int .i64 g.b, .int .i64 g.v]
def instE : Lay It := ⟨106, 5, instC, fun _ => rfl, by decide⟩
def argI : Lay It := ⟨109, 5, instC, fun _ => rfl, by decide⟩
theorem info_inst : (Tryd.prog.info? instE.ty).map (fun i => (i.zero, i.size, i.bytes)) = some (some (.agg #[.int .i64 0, .int .i64 0, .int .i64 0, .int .i64 0, .int .i64 0]), instE.sz, 40) := by kernel_rfl
def itV (g : It) : Value := .agg #[.int .i64 g.o, .int .i64 g.r, .int .i64 g.a, .int .i64 g.b, .int .i64 g.v]
def prV (a b c d : Int) (v : Value) : Value := .agg #[.int .i64 a, .int .i64 b, .int .i64 c, .int .i64 d, v]
theorem inst_at {E : Lay It} (hs : E.sz = 5) (hc : E.cs = instC) {w : World} {a : Option Addr} {n cap : Nat} {gs : List It} (h : RdR E w (.slice a n cap) gs) {i : Nat} (hi : i < gs.length) :
    ∃ b o, a = some ⟨b, o, none⟩ ∧ b < w.heap.size ∧ w.cell? ⟨b, o + i * 5, none⟩ = some (.int .i64 (gs.getD i i0).o) ∧ w.cell? ⟨b, o + i * 5 + 1, none⟩ = some (.int .i64 (gs.getD i i0).r) ∧
      w.cell? ⟨b, o + i * 5 + 2, none⟩ = some (.int .i64 (gs.getD i i0).a) ∧ w.cell? ⟨b, o + i * 5 + 3, none⟩ = some (.int .i64 (gs.getD i i0).b) ∧ w.cell? ⟨b, o + i * 5 + 4, none⟩ = some (.int .i64 (gs.getD i i0).v) := by
  obtain ⟨b, o, ha, hb, h⟩ := h.at hi
  rw [hs, hc] at h
  have e : gs.getD i i0 = gs[i] := by rw [List.getD_eq_getElem?_getD, List.getElem?_eq_getElem hi]; rfl
  rw [e]
  exact ⟨b, o, ha, hb, h 0 (by omega), h 1 (by omega), h 2 (by omega), h 3 (by omega), h 4 (by omega)⟩
theorem inst_cells {w : World} {g n cap B : Nat} {gs : List It} (h : OwnR instE B w (.slice (some ⟨g, 0, none⟩) n cap) gs) (hn : n = gs.length) {i : Nat} (hi : i < gs.length) :
    w.cell? ⟨g, i * 5, none⟩ = some (.int .i64 (gs.getD i i0).o) ∧ w.cell? ⟨g, i * 5 + 1, none⟩ = some (.int .i64 (gs.getD i i0).r) ∧
      w.cell? ⟨g, i * 5 + 2, none⟩ = some (.int .i64 (gs.getD i i0).a) ∧ w.cell? ⟨g, i * 5 + 3, none⟩ = some (.int .i64 (gs.getD i i0).b) ∧ w.cell? ⟨g, i * 5 + 4, none⟩ = some (.int .i64 (gs.getD i i0).v) := by
  have e : gs.getD i i0 = gs[i] := by rw [List.getD_eq_getElem?_getD, List.getElem?_eq_getElem hi]; rfl
  rw [e]
  exact ⟨h.cell hn hi (j := 0) (by decide), h.cell hn hi (j := 1) (by decide), h.cell hn hi (j := 2) (by decide), h.cell hn hi (j := 3) (by decide), h.cell hn hi (j := 4) (by decide)⟩
theorem inst_cellsQ {w : World} {g n cap B : Nat} {gs : List It} (h : OwnR instE B w (.slice (some ⟨g, 0, none⟩) n cap) gs) (hn : n = gs.length) {i : Nat} (hi : i < gs.length) :
    ∃ q : It, w.cell? ⟨g, i * 5, none⟩ = some (.int .i64 q.o) ∧ w.cell? ⟨g, i * 5 + 1, none⟩ = some (.int .i64 q.r) ∧
      w.cell? ⟨g, i * 5 + 2, none⟩ = some (.int .i64 q.a) ∧ w.cell? ⟨g, i * 5 + 3, none⟩ = some (.int .i64 q.b) ∧ w.cell? ⟨g, i * 5 + 4, none⟩ = some (.int .i64 q.v) := ⟨_, inst_cells h hn hi⟩
theorem inst_free {w : World} {g n cap B : Nat} {gs : List It} (h : OwnR instE B w (.slice (some ⟨g, 0, none⟩) n cap) gs) (hn : n = gs.length) (i : Nat) :
    w.frozen? ⟨g, i * 5, none⟩ = false ∧ w.frozen? ⟨g, i * 5 + 1, none⟩ = false ∧ w.frozen? ⟨g, i * 5 + 2, none⟩ = false ∧ w.frozen? ⟨g, i * 5 + 3, none⟩ = false ∧ w.frozen? ⟨g, i * 5 + 4, none⟩ = false :=
  ⟨h.free hn _, h.free hn _, h.free hn _, h.free hn _, h.free hn _⟩
theorem Sep.setN {w : World} {g n cap : Nat} {gs : List It} {l : List Asrt} (h : Sep w (OR instE (.slice (some ⟨g, 0, none⟩) n cap) gs :: l)) (hn : n = gs.length) {i : Nat} (hi : i < gs.length) (y : It) :
    Sep (((((w.setCell ⟨g, i * 5, none⟩ (.int .i64 y.o)).setCell ⟨g, i * 5 + 1, none⟩ (.int .i64 y.r)).setCell ⟨g, i * 5 + 2, none⟩ (.int .i64 y.a)).setCell ⟨g, i * 5 + 3, none⟩ (.int .i64 y.b)).setCell ⟨g, i * 5 + 4, none⟩ (.int .i64 y.v))
      (OR instE (.slice (some ⟨g, 0, none⟩) n cap) (gs.set i y) :: l) := by
  have h1 := h.setR (E := instE) hn (i := i) (j := 0) (y := ⟨y.o, gs[i].r, gs[i].a, gs[i].b, gs[i].v⟩) (u := .int .i64 y.o) hi (by decide) rfl
  have h2 := h1.setR (E := instE) (by simpa using hn) (i := i) (j := 1) (y := ⟨y.o, y.r, gs[i].a, gs[i].b, gs[i].v⟩) (u := .int .i64 y.r) (by simpa using hi) (by decide) (by simp [instE, instC])
  have h3 := h2.setR (E := instE) (by simpa using hn) (i := i) (j := 2) (y := ⟨y.o, y.r, y.a, gs[i].b, gs[i].v⟩) (u := .int .i64 y.a) (by simpa using hi) (by decide) (by simp [instE, instC])
  have h4 := h3.setR (E := instE) (by simpa using hn) (i := i) (j := 3) (y := ⟨y.o, y.r, y.a, y.b, gs[i].v⟩) (u := .int .i64 y.b) (by simpa using hi) (by decide) (by simp [instE, instC])
  have h5 := h4.setR (E := instE) (by simpa using hn) (i := i) (j := 4) (y := y) (u := .int .i64 y.v) (by simpa using hi) (by decide) (by simp [instE, instC])
  simp only [List.set_set] at h5
  exact h5

theorem szInstrS_any (a : Option Addr) (n c : Nat) (left : Int) (w : World) (h0 : 0 ≤ left) (h1 : left ≤ 1048576) (hn : n ≤ 9223372036854775807) :
    Calls Tryd.prog 55 #[.slice a n c, .int .i64 left] w fun e w' => e = .returned (.int .i64 (if left - n < 0 then -1 else left - n)) ∧ w = w' := by
  have hw := wrap_id (x := left - n) (by omega) (by omega)
  by_cases h : left - n < 0
  · rw [if_pos h]
    go_enter Tryd.func55, Tryd.ntmps55
    go_wp2
    go_ret
    exact ⟨rfl, rfl⟩
  · rw [if_neg h]
    go_enter Tryd.func55, Tryd.ntmps55
    go_wp2
    go_ret
    exact ⟨rfl, rfl⟩
theorem toInstr_any (g : It) (w : World) : Calls Tryd.prog 107 #[itV g] w fun e w' => e = .returned (itV g) ∧ w.grownBy w' none := by
  unfold itV
  obtain ⟨o, r, a, b, v⟩ := g
  go_enter Tryd.func107, Tryd.ntmps107
  go_wp2
  refine bodyPost_ret_by (v := .agg #[.int .i64 o, .int .i64 r, .int .i64 a, .int .i64 b, .int .i64 v]) ?_ rfl ⟨rfl, ?_⟩
  · simp [results, go_sem, *]
  · exact gr3 _ _ _ _
set_option maxHeartbeats 4000000 in
theorem eqInstr_any (g h : It) (w : World) : Calls Tryd.prog 113 #[itV g, itV h] w fun e w' => e = .returned (.bool (decide (g = h))) ∧ w.grownBy w' none := by
  unfold itV
  have hd : decide (g = h) = (decide (g.o = h.o) && (decide (g.r = h.r) && (decide (g.a = h.a) && (decide (g.b = h.b) && decide (g.v = h.v))))) := by
    obtain ⟨k, a, b, v, z⟩ := g
    obtain ⟨k', a', b', v', z'⟩ := h
    simp
  rw [hd]
  obtain ⟨k, a, b, v, z⟩ := g
  obtain ⟨k', a', b', v', z'⟩ := h
  clear hd
  by_cases h1 : k = k' <;> by_cases h2 : a = a' <;> by_cases h3 : b = b' <;> by_cases h4 : v = v' <;> by_cases h5 : z = z'
  all_goals
    have h1' : (k != k') = !decide (k = k') := by simp [bne, h1]
    have h2' : (a != a') = !decide (a = a') := by simp [bne, h2]
    have h3' : (b != b') = !decide (b = b') := by simp [bne, h3]
    have h4' : (v != v') = !decide (v = v') := by simp [bne, h4]
    have h5' : (z != z') = !decide (z = z') := by simp [bne, h5]
    go_enter Tryd.func113, Tryd.ntmps113
    go_wp2
    go_ret
    exact ⟨by simp [h1, h2, h3, h4, h5], gr2 _ _ _⟩

theorem zeroInst_cells : (Value.agg #[.int .i64 0, .int .i64 0, .int .i64 0, .int .i64 0, .int .i64 0]).cells.toList = instE.cs i0 := rfl
theorem fillN_set {gs : List It} {n k : Nat} (hl : gs.length = n) (hk : k < n) : (gs.take k ++ List.replicate (n - k) i0).set k (gs.getD k i0) = gs.take (k + 1) ++ List.replicate (n - (k + 1)) i0 := by
  have h1 : (gs.take k).length = k := by rw [List.length_take]; omega
  have h2 : n - k = (n - (k + 1)) + 1 := by omega
  rw [List.set_append_right _ _ (by omega), h1, Nat.sub_self, h2, List.replicate_succ, List.set_cons_zero]
  rw [List.take_succ_eq_append_getElem (by omega), List.getD_eq_getElem?_getD, List.getElem?_eq_getElem (by omega), List.append_assoc]
  rfl
theorem toInstrS_any (v : Value) (gs : List It) (w : World) (hv : RdR argI w v gs) (hl : gs.length ≤ 2000000) :
    Calls Tryd.prog 59 #[v] w fun e w' => ∃ g c, e = .returned (.slice (some ⟨g, 0, none⟩) gs.length c) ∧ Sep w' [OR instE (.slice (some ⟨g, 0, none⟩) gs.length c) gs, KeepA w] := by
  obtain ⟨i0', hi, hz0, hz1, hz2⟩ := info_parts info_inst
  have HI := Lib.hid hi; have HZ0 := Lib.hid hz0; have HZ1 := Lib.hid hz1; have HZ2 := Lib.hid hz2
  have HV := Lib.hid hv
  obtain ⟨a, cap, rfl⟩ := hv.shape
  generalize hlen : gs.length = n at *
  have HL := Lib.hid hlen
  clear hi hz0 hz1 hz2 hv hlen
  go_enter Tryd.func59, Tryd.ntmps59
  go_wp2_with (
    at_make
    refine wpList_make_full _ rfl _ _ 41 rfl w.heap.size 106 i0' _ 5 Tryd.underlying41 HI.out HZ0.out HZ1.out _ _ _ _ n rfl rfl rfl rfl (by rw [HZ2.out]; omega) (by unfold maxLen; omega) (Nat.le_refl _) ?_
    intro w1 hown' hgr'
    have hs0 : Sep w1 [OR instE (.slice (some ⟨w.heap.size, 0, none⟩) n n) (List.replicate n i0), KeepA w] := (Sep.start w).newR hgr' (OwnR.made zeroInst_cells hown')
    have HS := Lib.hid hs0
    clear hs0 hown' hgr')
  go_loopw [4] (fun i wr => ∃ k : Nat, k ≤ n ∧ i = .int .i64 k ∧ Sep wr [OR instE (.slice (some ⟨w.heap.size, 0, none⟩) n n) (gs.take k ++ List.replicate (n - k) i0), KeepA w]) (fun i _ => n - (intOf i).toNat)
  case atStart => exact ⟨0, by omega, rfl, by simpa using HS.out⟩
  case round =>
    obtain ⟨k, hk, rfl, hs⟩ := hrel
    have HSX := Lib.hid hs
    clear hs
    by_cases hlt : k < n
    · obtain ⟨b, o, rfl, hb, c0, c1, c2, c3, c4⟩ := inst_at rfl rfl (HV.out.carry HSX.out.tl.hd) (i := k) (by rw [HL.out]; exact hlt)
      have HSET := Lib.hid (fillN_set HL.out hlt)
      generalize gs.getD k i0 = y at *
      have HT := Lib.hid (toInstr_any y wr)
      unfold itV at HT
      go_wp2_with (
        go_at_call 107
        refine HT.out.mono ?_
        rintro e w2 ⟨rfl, hg⟩
        have HS2 := Lib.hid (HSX.out.grown hg)
        have hll : n = (gs.take k ++ List.replicate (n - k) i0).length := by rw [List.length_append, List.length_take, List.length_replicate, HL.out]; omega
        obtain ⟨f0, f1, f2, f3, f4⟩ := inst_free HS2.out.hd hll k
        obtain ⟨q, d0, d1, d2, d3, d4⟩ := inst_cellsQ HS2.out.hd hll (i := k) (by rw [← hll]; exact hlt)
        have HS3 := Lib.hid (HS2.out.setN hll (by rw [← hll]; exact hlt) y)
        clear hg hll)
      go_roundw
      case rel => exact ⟨k + 1, by omega, by go_num, by
        have := HS3.out
        rw [HSET.out] at this
        exact this⟩
      case measure => simp [intOf]; omega
    · have hkn : k = n := by omega
      subst hkn
      clear hlt
      go_wp2
      go_ret
      have := HSX.out
      rw [List.take_of_length_le (by rw [HL.out]; omega), Nat.sub_self, List.replicate_zero, List.append_nil] at this
      exact ⟨_, _, rfl, this⟩
end Go.Proofs.YtmofaaceadnafaaDoor

/-
  The laws' own helpers on lists of instructions: comparison and marks. Conditions: lengths are small.
-/
namespace Go.Proofs.YtmofaaceadnafaaDoor
open Go.RowKit
set_option linter.unusedVariables false
set_option maxRecDepth 100000

set_option maxHeartbeats 1000000 in
theorem eqInstrS_any (v1 v2 : Value) (x y : List It) (w : World) (h1 : RdR instE w v1 x) (h2 : RdR instE w v2 y) (l1 : x.length ≤ 1000000000) (l2 : y.length ≤ 1000000000) :
    Calls Tryd.prog 63 #[v1, v2] w fun e w' => e = .returned (.bool (decide (x = y))) ∧ w.grownBy w' none := by
  have H1 := Lib.hid h1; have H2 := Lib.hid h2
  obtain ⟨a1, c1, rfl⟩ := h1.shape
  obtain ⟨a2, c2, rfl⟩ := h2.shape
  clear h1 h2
  by_cases hl : x.length = y.length
  · generalize hlx : x.length = l at *
    have HLX := Lib.hid hlx; have HLY := Lib.hid hl
    rw [← HLY.out]
    clear hlx hl
    go_enter Tryd.func63, Tryd.ntmps63
    go_wp2
    go_loopw [5] (fun i wr => ∃ k : Nat, k ≤ l ∧ i = .int .i64 k ∧ (∀ j, j < k → x.getD j i0 = y.getD j i0) ∧ w.grownBy wr none) (fun i _ => l - (intOf i).toNat)
    case atStart => exact ⟨0, by omega, rfl, fun _ h => absurd h (by omega), grownBy_refl _ _⟩
    case round =>
      obtain ⟨k, hk, rfl, ho, hg⟩ := hrel
      have HO := Lib.hid ho; have HG := Lib.hid hg
      clear ho hg
      by_cases hlt : k < l
      · obtain ⟨b1, o1, rfl, hb1, p0, p1, p2, p3, p4⟩ := inst_at rfl rfl (H1.out.carry HG.out) (i := k) (by rw [HLX.out]; exact hlt)
        obtain ⟨b2, o2, rfl, hb2, q0, q1, q2, q3, q4⟩ := inst_at rfl rfl (H2.out.carry HG.out) (i := k) (by rw [← HLY.out]; exact hlt)
        generalize hzx : x.getD k i0 = zx at *
        generalize hzy : y.getD k i0 = zy at *
        have HZX := Lib.hid hzx; have HZY := Lib.hid hzy
        have HC := Lib.hid (eqInstr_any zx zy wr.drew)
        unfold itV at HC
        clear hzx hzy hb1 hb2
        by_cases he : zx = zy
        · rw [decide_eq_true he] at HC
          have HE := Lib.hid he
          clear he
          go_wp2_with fail
          refine wp_region_still_tail 8 (by kernel_rfl) (by kernel_rfl) ?_
          simp only [List.take_succ_cons, List.take_zero, List.drop_succ_cons, List.drop_zero]
          repeat still_step
          refine wpStill_nil ?_
          change wpList _ _ _ _ _ wr.drew
          go_wp2_with (
            go_at_call 113
            refine HC.out.mono ?_
            rintro e w2 ⟨rfl, hg⟩
            have HG2 := Lib.hid ((HG.out.trans (⟨rfl, rfl, rfl, Nat.le_refl _, fun _ _ _ => rfl⟩ : wr.grownBy wr.drew none)).trans hg)
            clear hg)
          go_roundw
          case rel => exact ⟨k + 1, by omega, by go_num, fun j hj => by
            by_cases hjk : j = k
            · subst hjk; rw [HZX.out, HZY.out, HE.out]
            · exact HO.out j (by omega), HG2.out⟩
          case measure => simp [intOf]; omega
        · rw [decide_eq_false he] at HC
          have hfin : decide (x = y) = false := by
            rw [decide_eq_false_iff_not]
            intro h
            subst h
            exact he (HZX.out.symm.trans HZY.out)
          have HF := Lib.hid hfin
          clear hfin he
          go_wp2_with fail
          refine wp_region_still_tail 8 (by kernel_rfl) (by kernel_rfl) ?_
          simp only [List.take_succ_cons, List.take_zero, List.drop_succ_cons, List.drop_zero]
          repeat still_step
          refine wpStill_nil ?_
          change wpList _ _ _ _ _ wr.drew
          go_wp2_with (
            go_at_call 113
            refine HC.out.mono ?_
            rintro e w2 ⟨rfl, hg⟩
            have HG2 := Lib.hid ((HG.out.trans (⟨rfl, rfl, rfl, Nat.le_refl _, fun _ _ _ => rfl⟩ : wr.grownBy wr.drew none)).trans hg)
            clear hg)
          go_ret
          exact ⟨by rw [HF.out]; rfl, HG2.out⟩
      · have hfin : decide (x = y) = true := by
          rw [decide_eq_true_iff]
          refine List.ext_getElem (by rw [HLX.out, HLY.out]) fun j h h' => ?_
          have := HO.out j (by have := HLX.out; omega)
          rwa [List.getD_eq_getElem?_getD, List.getElem?_eq_getElem h, List.getD_eq_getElem?_getD, List.getElem?_eq_getElem h'] at this
        have HF := Lib.hid hfin
        clear hfin
        go_wp2
        go_ret
        exact ⟨by rw [HF.out]; rfl, HG.out⟩
  · have hfin : decide (x = y) = false := by
      rw [decide_eq_false_iff_not]
      intro h
      exact hl (by rw [h])
    have hb : ((x.length : Int) != y.length) = true := by rw [bne_iff_ne]; omega
    have HF := Lib.hid hfin
    clear hfin hl
    go_enter Tryd.func63, Tryd.ntmps63
    go_wp2
    go_ret
    exact ⟨by rw [HF.out]; rfl, grownBy_refl _ _⟩

/-- Instructions that hold k, k + 1, .. -/
def cntN5 (k : Int) (n : Nat) : List It := (List.range n).map fun (i : Nat) => ⟨k + 5 * (i : Int), k + 5 * (i : Int) + 1, k + 5 * (i : Int) + 2, k + 5 * (i : Int) + 3, k + 5 * (i : Int) + 4⟩
theorem cntN5_len (k : Int) (n : Nat) : (cntN5 k n).length = n := by simp [cntN5]
theorem cntN5_succ (k : Int) (n : Nat) : cntN5 k (n + 1) = cntN5 k n ++ [⟨k + 5 * (n : Int), k + 5 * (n : Int) + 1, k + 5 * (n : Int) + 2, k + 5 * (n : Int) + 3, k + 5 * (n : Int) + 4⟩] := by simp [cntN5, List.range_succ]
theorem markN_set {gs : List It} {n j : Nat} {k : Int} (hl : gs.length = n) (hj : j < n) : (cntN5 k j ++ gs.drop j).set j ⟨k + 5 * (j : Int), k + 5 * (j : Int) + 1, k + 5 * (j : Int) + 2, k + 5 * (j : Int) + 3, k + 5 * (j : Int) + 4⟩ = cntN5 k (j + 1) ++ gs.drop (j + 1) := by
  rw [List.set_append_right _ _ (by rw [cntN5_len]; omega), cntN5_len, Nat.sub_self, List.drop_eq_getElem_cons (by omega), List.set_cons_zero, cntN5_succ]
  simp

set_option maxHeartbeats 1000000 in
theorem markInstrS_any (a : Option Addr) (n c : Nat) (gs : List It) (k : Int) (w : World) (l : List Asrt) (hs : Sep w (OR instE (.slice a n c) gs :: l)) (hn : n = gs.length) (hl : n ≤ 2000000) (h0 : 0 ≤ k) (h1 : k ≤ 100000000) :
    Calls Tryd.prog 64 #[.slice a n c, .int .i64 k] w fun e w' => e = .returned (.int .i64 (k + 5 * n)) ∧ Sep w' (OR instE (.slice a n c) (cntN5 k n) :: l) := by
  have HS := Lib.hid hs; have HL := Lib.hid hn.symm
  clear hs hn
  go_enter Tryd.func64, Tryd.ntmps64
  go_wp2
  go_loopw [1, 5] (fun kv i wr => ∃ (j : Nat) (q : Int), j ≤ n ∧ i = .int .i64 j ∧ kv = .int .i64 q ∧ q = k + 5 * (j : Int) ∧ Sep wr (OR instE (.slice a n c) (cntN5 k j ++ gs.drop j) :: l)) (fun _ i _ => n - (intOf i).toNat)
  case atStart => exact ⟨0, k, by omega, rfl, rfl, by simp, by simpa [cntN5] using HS.out⟩
  case round =>
    obtain ⟨j, q, hj, rfl, rfl, hq, hs⟩ := hrel
    have HSX := Lib.hid hs
    have HQ := Lib.hid hq
    by_cases hlt : j < n
    · have hll : n = (cntN5 k j ++ gs.drop j).length := by rw [List.length_append, cntN5_len, List.length_drop, HL.out]; omega
      obtain ⟨g, cap, he, _, _, _⟩ := HSX.out.hd.parts (by rw [← hll]; omega)
      rw [← hll] at he
      cases he
      obtain ⟨f0, f1, f2, f3, f4⟩ := inst_free HSX.out.hd hll j
      obtain ⟨y, d0, d1, d2, d3, d4⟩ := inst_cellsQ HSX.out.hd hll (i := j) (by rw [← hll]; exact hlt)
      obtain ⟨q1, e1⟩ : ∃ q1, q1 = q + 1 := ⟨_, rfl⟩
      obtain ⟨q2, e2⟩ : ∃ q2, q2 = q1 + 1 := ⟨_, rfl⟩
      obtain ⟨q3, e3⟩ : ∃ q3, q3 = q2 + 1 := ⟨_, rfl⟩
      obtain ⟨q4, e4⟩ : ∃ q4, q4 = q3 + 1 := ⟨_, rfl⟩
      obtain ⟨q5, e5⟩ : ∃ q5, q5 = q4 + 1 := ⟨_, rfl⟩
      have hw : wrap64 (q + 1) = q1 := (wrap64_id (by omega) (by omega)).trans e1.symm
      have hw1 : wrap64 (q1 + 1) = q2 := (wrap64_id (by omega) (by omega)).trans e2.symm
      have hw2 : wrap64 (q2 + 1) = q3 := (wrap64_id (by omega) (by omega)).trans e3.symm
      have hw3 : wrap64 (q3 + 1) = q4 := (wrap64_id (by omega) (by omega)).trans e4.symm
      have hw4 : wrap64 (q4 + 1) = q5 := (wrap64_id (by omega) (by omega)).trans e5.symm
      have HQ4 := Lib.hid (show q5 = k + 5 * ((j + 1 : Nat) : Int) by omega)
      have hset := HSX.out.setN hll (by rw [← hll]; exact hlt) ⟨q, q1, q2, q3, q4⟩
      have hm := markN_set (k := k) HL.out hlt
      rw [show k + 5 * (j : Int) = q by omega, show q + 1 = q1 by omega, show q + 2 = q2 by omega, show q + 3 = q3 by omega, show q + 4 = q4 by omega] at hm
      rw [hm] at hset
      have HSET := Lib.hid hset
      clear hll hset hs hq hm e1 e2 e3 e4 e5
      go_wp2
      go_roundw
      case rel => exact ⟨j + 1, q5, by omega, by go_num, congrArg _ hw4, HQ4.out, HSET.out⟩
      case measure => simp [intOf]; omega
    · have hjn : j = n := by omega
      subst hjn
      clear hlt hs hq
      go_wp2
      go_ret
      have := HSX.out
      rw [List.drop_of_length_le (by rw [HL.out]; omega), List.append_nil] at this
      exact ⟨by rw [HQ.out]; rfl, this⟩

end Go.Proofs.YtmofaaceadnafaaDoor

/-
  The laws' own helpers on programs of instructions: size, copy, comparison, marks. Conditions: lengths are small.
-/
namespace Go.Proofs.YtmofaaceadnafaaDoor
open Go.RowKit
set_option linter.unusedVariables false
set_option maxRecDepth 100000

theorem bxP {w : World} {k : Nat} {x y z u v : Value} {t : TypeId} (h : w.heap[k]? = some (.cells #[x, y, z, u, v] t (0, 0))) :
    w.cell? ⟨k, 0, none⟩ = some x ∧ w.cell? ⟨k, 1, none⟩ = some y ∧ w.cell? ⟨k, 2, none⟩ = some z ∧ w.cell? ⟨k, 3, none⟩ = some u ∧ w.cell? ⟨k, 4, none⟩ = some v ∧
      w.frozen? ⟨k, 0, none⟩ = false ∧ w.frozen? ⟨k, 1, none⟩ = false ∧ w.frozen? ⟨k, 2, none⟩ = false ∧ w.frozen? ⟨k, 3, none⟩ = false ∧ w.frozen? ⟨k, 4, none⟩ = false := by
  simp [World.cell?, World.frozen?, h]
def szP (left : Int) (n : Nat) : Int := if left - n < 0 then -1 else left - n
theorem szP_ok {n : Nat} (h : 0 ≤ szP 1048576 n) : n ≤ 1048576 := by
  unfold szP at h
  split at h <;> omega
theorem szProgram_val (i o c r : Int) (a : Option Addr) (n k : Nat) (left : Int) (w : World) (h0 : 0 ≤ left) (h1 : left ≤ 1048576) (hn : n ≤ 9223372036854775807) :
    Calls Tryd.prog 19 #[.agg #[.int .i64 i, .int .i64 o, .int .i64 c, .int .i64 r, .slice a n k], .int .i64 left] w fun e w' => e = .returned (.int .i64 (szP left n)) ∧ w.grownBy w' none := by
  have HC := Lib.hid fun W => szInstrS_any a n k left W h0 h1 hn
  by_cases h : left - n < 0
  · have hz : szP left n = -1 := by unfold szP; rw [if_pos h]
    rw [hz]
    rw [if_pos h] at HC
    clear hz
    go_enter Tryd.func19, Tryd.ntmps19
    go_wp2_with (go_at_call 55; refine (HC.out _).mono ?_; rintro e w' ⟨rfl, rfl⟩)
    go_ret
    exact ⟨rfl, gr1 _ _⟩
  · rw [if_neg h] at HC
    have hz : szP left n = left - n := by unfold szP; rw [if_neg h]
    rw [hz]
    obtain ⟨m, hm⟩ : ∃ m, m = left - n := ⟨_, rfl⟩
    rw [← hm] at HC ⊢
    have hm0 : 0 ≤ m := by omega
    clear hm hz
    go_enter Tryd.func19, Tryd.ntmps19
    go_wp2_with (go_at_call 55; refine (HC.out _).mono ?_; rintro e w' ⟨rfl, rfl⟩)
    go_ret
    exact ⟨rfl, gr1 _ _⟩

theorem toProgram_any (i o c r : Int) (cv : Value) (is : List It) (w : World) (hg : RdR argI w cv is) (l1 : is.length ≤ 2000000) :
    Calls Tryd.prog 21 #[prV i o c r cv] w fun e w' => ∃ g k, e = .returned (prV i o c r (.slice (some ⟨g, 0, none⟩) is.length k)) ∧
      Sep w' [OR instE (.slice (some ⟨g, 0, none⟩) is.length k) is, KeepA w] := by
  unfold prV
  have HG := Lib.hid fun W (h : w.grownBy W none) => toInstrS_any cv is W (hg.carry h) l1
  obtain ⟨a1, c1, rfl⟩ := hg.shape
  generalize is.length = n1 at *
  clear hg
  have hs0 := (((Sep.start w).box #[.int .i64 i, .int .i64 o, .int .i64 c, .int .i64 r, .slice a1 n1 c1] 38).box #[.int .i64 0, .int .i64 0, .int .i64 0, .int .i64 0, .slice none 0 0] 43).box #[.int .i64 i, .int .i64 o, .int .i64 c, .int .i64 r, .slice none 0 0] 43
  have e1 : (w.alloc (.cells #[.int .i64 i, .int .i64 o, .int .i64 c, .int .i64 r, .slice a1 n1 c1] 38)).heap.size = w.heap.size + 1 := by simp
  have e2 : ((w.alloc (.cells #[.int .i64 i, .int .i64 o, .int .i64 c, .int .i64 r, .slice a1 n1 c1] 38)).alloc (.cells #[.int .i64 0, .int .i64 0, .int .i64 0, .int .i64 0, .slice none 0 0] 43)).heap.size = w.heap.size + 2 := by simp
  rw [e1, e2] at hs0
  have HS0 := Lib.hid hs0
  clear hs0 e1 e2
  go_enter Tryd.func21, Tryd.ntmps21
  go_wp2_with (
    go_at_call 59
    refine (HG.out _ HS0.out.tl.tl.tl.hd).mono ?_
    rintro e w4 ⟨g, k, rfl, hsg⟩
    have hs1 := (HS0.out.graft1 hsg OR_own).s2
    obtain ⟨x0, x1, x2, x3, x4, y0, y1, y2, y3, y4⟩ := bxP hs1.hd
    have hs2 := hs1.setB 4 (.slice (some ⟨g, 0, none⟩) n1 k)
    obtain ⟨z0, z1, z2, z3, z4, _⟩ := bxP hs2.hd
    have hs3 := hs2.s3
    obtain ⟨r0, r1, r2, r3, r4, q0, q1, q2, q3, q4⟩ := bxP hs3.hd
    have hs4 := ((((hs3.setB 0 (.int .i64 i)).setB 1 (.int .i64 o)).setB 2 (.int .i64 c)).setB 3 (.int .i64 r)).setB 4 (.slice (some ⟨g, 0, none⟩) n1 k)
    obtain ⟨k0, k1, k2, k3, k4, _⟩ := bxP hs4.hd
    have HSF := Lib.hid (show Sep _ [OR instE (.slice (some ⟨g, 0, none⟩) n1 k) is, KeepA w] from (hs4.tl.tl.under (fun h => h.tl) (by simp +contextual)))
    clear hsg hs1 hs2 hs3 hs4)
  refine bodyPost_ret_by (v := .agg #[.int .i64 i, .int .i64 o, .int .i64 c, .int .i64 r, .slice (some ⟨g, 0, none⟩) n1 k]) ?_ rfl ⟨g, k, rfl, HSF.out⟩
  simp [results, go_sem, *]

theorem eqProgram_same (i o c r : Int) (u1 u2 : Value) (is : List It) (w : World) (h1 : RdR instE w u1 is) (h2 : RdR instE w u2 is) (l1 : is.length ≤ 1000000000) :
    Calls Tryd.prog 23 #[prV i o c r u1, prV i o c r u2] w fun e w' => e = .returned (.bool true) ∧ w.grownBy w' none := by
  unfold prV
  have HG := Lib.hid fun W (h : w.grownBy W none) => eqInstrS_any u1 u2 is is W (h1.carry h) (h2.carry h) l1 l1
  rw [decide_eq_true rfl] at HG
  obtain ⟨a1, c1, rfl⟩ := h1.shape
  obtain ⟨a2, c2, rfl⟩ := h2.shape
  generalize is.length = n1 at *
  clear h1 h2
  have hs0 := ((Sep.start w).box #[.int .i64 i, .int .i64 o, .int .i64 c, .int .i64 r, .slice a1 n1 c1] 43).box #[.int .i64 i, .int .i64 o, .int .i64 c, .int .i64 r, .slice a2 n1 c2] 43
  have HS0 := Lib.hid hs0
  clear hs0
  go_enter Tryd.func23, Tryd.ntmps23
  go_wp2_with (
    go_at_call 63
    refine (HG.out _ HS0.out.tl.tl.hd).mono ?_
    rintro e w4 ⟨rfl, hg⟩
    have HS1 := Lib.hid (HS0.out.grown hg)
    clear hg)
  go_ret
  exact ⟨rfl, HS1.out.tl.tl.hd⟩

theorem markProgram_any (i o c r : Int) (a1 : Option Addr) (n1 c1 : Nat) (is : List It) (k : Int) (w : World) (l : List Asrt) (hs : Sep w (OR instE (.slice a1 n1 c1) is :: l)) (hn1 : n1 = is.length) (l1 : n1 ≤ 2000000) (h0 : 0 ≤ k) (h1 : k ≤ 1000000) :
    Calls Tryd.prog 24 #[prV i o c r (.slice a1 n1 c1), .int .i64 k] w fun e w' => e = .returned (.int .i64 (k + 5 * n1)) ∧ Sep w' (OR instE (.slice a1 n1 c1) (cntN5 k n1) :: l) := by
  unfold prV
  have HG := Lib.hid fun W l (h : Sep W (OR instE (.slice a1 n1 c1) is :: l)) => markInstrS_any a1 n1 c1 is k W l h hn1 l1 h0 (by omega)
  have hs0 := hs.box #[.int .i64 i, .int .i64 o, .int .i64 c, .int .i64 r, .slice a1 n1 c1] 43
  have HS0 := Lib.hid hs0.s2
  clear hs hs0 hn1
  go_enter Tryd.func24, Tryd.ntmps24
  go_wp2_with (
    go_at_call 64
    refine (HG.out _ _ HS0.out).mono ?_
    rintro e w4 ⟨rfl, hs⟩
    have HS1 := Lib.hid hs.drop2
    clear hs)
  go_ret
  exact ⟨rfl, HS1.out⟩
end Go.Proofs.YtmofaaceadnafaaDoor

/-
  A program of instructions that came in: its code can be read. Conditions: none.
-/
namespace Go.Proofs.YtmofaaceadnafaaDoor
open Go.ChangeShapes Go.WideShapes Go.ChangeAt Go.RowKit Go.Deep Go.Joins
set_option linter.unusedVariables false
set_option maxRecDepth 100000

section
variable {H : Type} {enc : TypeId × Value → H} {W : World} {sp : Nat → Bool} {held : Bool}
/-- The five fields of a struct, each read. -/
theorem trod_five {t : TypeId} {f0 f1 f2 f3 f4 : Field} {fuel : Nat} {cs : List Value} {x : DataW H × List MemPlace} (ht : Tryd.prog.underlying t = some (.struct #[f0, f1, f2, f3, f4])) (h : DataW.trod enc Tryd.prog W 0 sp held fuel t cs = some x) :
    cs.length = Tryd.prog.cellsOf t ∧ ∃ y0 y1 y2 y3 y4 n, DataW.trod enc Tryd.prog W 0 sp held n f0.type ((cs.drop f0.offset).take (Tryd.prog.cellsOf f0.type)) = some y0 ∧
      DataW.trod enc Tryd.prog W 0 sp held n f1.type ((cs.drop f1.offset).take (Tryd.prog.cellsOf f1.type)) = some y1 ∧ DataW.trod enc Tryd.prog W 0 sp held n f2.type ((cs.drop f2.offset).take (Tryd.prog.cellsOf f2.type)) = some y2 ∧
      DataW.trod enc Tryd.prog W 0 sp held n f3.type ((cs.drop f3.offset).take (Tryd.prog.cellsOf f3.type)) = some y3 ∧ DataW.trod enc Tryd.prog W 0 sp held n f4.type ((cs.drop f4.offset).take (Tryd.prog.cellsOf f4.type)) = some y4 := by
  obtain ⟨xs, n, _, -, hl, hlen, hf⟩ := DataW.trod_struct ht h
  refine ⟨hl, ?_⟩
  match xs, hlen with
  | [y0, y1, y2, y3, y4], _ => exact ⟨y0, y1, y2, y3, y4, n, by simpa using hf 0 f0 rfl, by simpa using hf 1 f1 rfl, by simpa using hf 2 f2 rfl, by simpa using hf 3 f3 rfl, by simpa using hf 4 f4 rfl⟩
theorem five {α : Type} {l : List α} (h : l.length = 5) : ∃ c0 c1 c2 c3 c4, l = [c0, c1, c2, c3, c4] := by
  match l, h with
  | [c0, c1, c2, c3, c4], _ => exact ⟨c0, c1, c2, c3, c4, rfl⟩
theorem insts_in {fuel : Nat} {cs : List Value} {x : DataW H × List MemPlace} (h : DataW.trod enc Tryd.prog W 0 sp held fuel 36 cs = some x) : ∃ v is, cs = [v] ∧ RdR argI W v is ∧ is.length ≤ 9223372036854775807 := by
  rcases open_slice Tryd.underlying36 h with ⟨hcs, _⟩ | ⟨a, len, cap, m, n, D, Pl, rfl, hb, hl, hm, hmm, rfl, hx⟩
  · exact ⟨_, [], hcs, RdR.nil argI W, by decide⟩
  · unfold maxLen at hm
    have hlm : len ≤ m := by rw [hmm]; split <;> omega
    have hc5 : Tryd.prog.cellsOf 109 = 5 := by kernel_rfl
    have hc1 : Tryd.prog.cellsOf 3 = 1 := by kernel_rfl
    have each : ∀ i, i < len → ∃ g : It, ∀ j, j < 5 → W.cell? ((a.add (i * 5)).add j) = (instC g)[j]? := by
      intro i hi
      obtain ⟨cs', h1, h2⟩ := hx i (by omega)
      rw [hc5] at h1
      obtain ⟨_, hlen, hcell⟩ := World.cells?_some h1
      obtain ⟨-, y0, y1, y2, y3, y4, k, f0, f1, f2, f3, f4⟩ := trod_five Tryd.underlying109 h2
      simp only [hc1] at f0 f1 f2 f3 f4
      obtain ⟨n0, e0, _⟩ := DataW.trod_int Tryd.underlying3 f0
      obtain ⟨n1, e1, _⟩ := DataW.trod_int Tryd.underlying3 f1
      obtain ⟨n2, e2, _⟩ := DataW.trod_int Tryd.underlying3 f2
      obtain ⟨n3, e3, _⟩ := DataW.trod_int Tryd.underlying3 f3
      obtain ⟨n4, e4, _⟩ := DataW.trod_int Tryd.underlying3 f4
      obtain ⟨c0, c1, c2, c3, c4, rfl⟩ := five hlen
      simp at e0 e1 e2 e3 e4
      subst e0 e1 e2 e3 e4
      exact ⟨⟨n0, n1, n2, n3, n4⟩, fun j hj => hcell j hj⟩
    have hch : ∃ G : Nat → It, ∀ i, i < len → ∀ j, j < 5 → W.cell? ((a.add (i * 5)).add j) = (instC (G i))[j]? := by
      haveI : Inhabited It := ⟨i0⟩
      exact choose_lt each
    obtain ⟨G, hG⟩ := hch
    refine ⟨_, (List.range len).map G, rfl, ⟨some a, cap, by simp, fun hne => ?_⟩, by simp; omega⟩
    have h0 : 0 < len := by
      rcases Nat.eq_zero_or_pos len with h | h
      · subst h; exact absurd rfl hne
      · exact h
    obtain ⟨b, off, spot⟩ := a
    have hc00 : W.cell? ((⟨b, off, spot⟩ : Addr).add (0 * 5) |>.add 0) = some (.int .i64 (G 0).o) := hG 0 h0 0 (by omega)
    have hspot : spot = none := by
      have := World.cell?_spot hc00
      simpa [Addr.add] using this
    subst hspot
    refine ⟨⟨b, off, none⟩, rfl, rfl, ?_, fun i hi j hj => ?_⟩
    · have h1 := World.block_lt_of_cell? W _ hc00
      simpa [Addr.add] using h1
    · have hi' : i < len := by simpa using hi
      have h1 := hG i hi' j hj
      rw [add_off, add_off] at h1
      show W.cell? ⟨b, off + i * 5 + j, none⟩ = _
      rw [h1]
      simp [argI]
theorem prog_in {r : Reach} {b0 : Nat} {v : Value} {d : DataW H} {p : List MemPlace} (hv : Value.okWide Tryd.prog W r b0 38 v) (h : DataW.Trod enc Tryd.prog W 0 sp held 38 v d p) :
    ∃ i o c r gv is, v = .agg #[.int .i64 i, .int .i64 o, .int .i64 c, .int .i64 r, gv] ∧ RdR argI W gv is ∧ is.length ≤ 9223372036854775807 := by
  obtain ⟨cs, rfl, hsz⟩ := okWide_struct Tryd.underlying38 hv
  obtain ⟨l⟩ := cs
  have hc1 : Tryd.prog.cellsOf 3 = 1 := by kernel_rfl
  have hcl : Tryd.prog.cellsOf 36 = 1 := by kernel_rfl
  have hc5 : Tryd.prog.cellsOf 38 = 5 := by kernel_rfl
  obtain ⟨c0, c1, c2, c3, c4, rfl⟩ := five (show l.length = 5 from hsz.trans hc5)
  obtain ⟨fuel, hf⟩ := h
  obtain ⟨-, y0, y1, y2, y3, y4, k, f0, f1, f2, f3, f4⟩ := trod_five Tryd.underlying38 hf
  simp only [hc1, hcl, Value.cells] at f0 f1 f2 f3 f4
  obtain ⟨n0, e0, _⟩ := DataW.trod_int Tryd.underlying3 f0
  obtain ⟨n1, e1, _⟩ := DataW.trod_int Tryd.underlying3 f1
  obtain ⟨n2, e2, _⟩ := DataW.trod_int Tryd.underlying3 f2
  obtain ⟨n3, e3, _⟩ := DataW.trod_int Tryd.underlying3 f3
  obtain ⟨gv, is, e4, hg, l1⟩ := insts_in f4
  simp at e0 e1 e2 e3 e4
  subst e0 e1 e2 e3 e4
  exact ⟨n0, n1, n2, n3, _, is, rfl, hg, l1⟩
end
end Go.Proofs.YtmofaaceadnafaaDoor

/-
  An instruction's check, in the program. Conditions: the program's numbers are within their limits.
-/
namespace Go.Proofs.YtmofaaceadnafaaDoor
open Go.RowKit
set_option linter.unusedVariables false
set_option maxRecDepth 100000

def regsL (x : It) : List Int := if x.o = 3 then [x.a, x.b] else if x.o = 4 then [x.a] else if x.o = 6 ∨ x.o = 7 then [x.r] else []
def instB (p I O C R : Int) (x : It) : Bool :=
  inB x.r 0 (R - 1) && ((regsL x).all (fun y => inB y 0 (R - 1)) &&
  (if x.o = 1 then decide (x.b = 0) && decide (x.v = 0) && inB x.a 0 (I - 1)
   else if x.o = 2 then decide (x.b = 0) && decide (x.v = 0) && decide (x.a = 0)
   else if x.o = 3 then decide (x.v = 0)
   else if x.o = 4 then decide (x.b = 0) && inB x.v 0 (p - 1)
   else if x.o = 5 ∨ x.o = 6 then decide (x.b = 0) && decide (x.v = 0) && inB x.a 0 (C - 1)
   else if x.o = 7 then decide (x.b = 0) && decide (x.v = 0) && inB x.a 0 (O - 1)
   else false))
theorem regs_len (x : It) : (regsL x).length ≤ 2 := by
  unfold regsL
  split
  · simp
  · split
    · simp
    · split <;> simp
theorem reads_any (x : It) (w : World) : Calls Tryd.prog 143 #[itV x] w fun e w' => ∃ a c, e = .returned (.slice a (regsL x).length c) ∧ IntsV w' (.slice a (regsL x).length c) (regsL x) ∧ w.grownBy w' none := by
  unfold itV
  obtain ⟨k, r, a, b, v⟩ := x
  by_cases h3 : k = 3
  · subst h3
    go_enter Tryd.func143, Tryd.ntmps143
    go_wp2
    go_ret
    exact ⟨_, _, rfl, intsV_new (w.alloc (.cells #[.int .i64 3, .int .i64 r, .int .i64 a, .int .i64 b, .int .i64 v] 106)) [a, b] (by simp) rfl rfl, gr2 _ _ _⟩
  · by_cases h4 : k = 4
    · subst h4
      go_enter Tryd.func143, Tryd.ntmps143
      go_wp2
      go_ret
      exact ⟨_, _, rfl, intsV_new (w.alloc (.cells #[.int .i64 4, .int .i64 r, .int .i64 a, .int .i64 b, .int .i64 v] 106)) [a] (by simp) rfl rfl, gr2 _ _ _⟩
    · by_cases h6 : k = 6
      · subst h6
        go_enter Tryd.func143, Tryd.ntmps143
        go_wp2
        go_ret
        exact ⟨_, _, rfl, intsV_new (w.alloc (.cells #[.int .i64 6, .int .i64 r, .int .i64 a, .int .i64 b, .int .i64 v] 106)) [r] (by simp) rfl rfl, gr2 _ _ _⟩
      · by_cases h7 : k = 7
        · subst h7
          go_enter Tryd.func143, Tryd.ntmps143
          go_wp2
          go_ret
          exact ⟨_, _, rfl, intsV_new (w.alloc (.cells #[.int .i64 7, .int .i64 r, .int .i64 a, .int .i64 b, .int .i64 v] 106)) [r] (by simp) rfl rfl, gr2 _ _ _⟩
        · have e3 : (k == 3) = false := by simpa using h3
          have e4 : (k == 4) = false := by simpa using h4
          have e6 : (k == 6) = false := by simpa using h6
          have e7 : (k == 7) = false := by simpa using h7
          have ho : regsL ⟨k, r, a, b, v⟩ = [] := by simp [regsL, h3, h4, h6, h7]
          rw [ho]
          clear h3 h4 h6 h7
          go_enter Tryd.func143, Tryd.ntmps143
          go_wp2
          go_ret
          exact ⟨_, _, rfl, IntsV.nil _, gr1 _ _⟩
theorem q0 {f : FuncId} {args : Array Value} {W : World} {v : Value} (h : Calls Tryd.prog f args W fun e w' => e = .returned v ∧ W = w') : Calls Tryd.prog f args W fun e w' => e = .returned v ∧ ∃ m, w' = W.drewN m :=
  h.mono (by rintro e w' ⟨rfl, rfl⟩; exact ⟨rfl, 0, by simp [World.drewN]⟩)
theorem grown_drewN' (w : World) (m : Nat) : w.grownBy (w.drewN m) none := ⟨rfl, rfl, rfl, Nat.le_refl _, fun _ _ _ => rfl⟩
/-- what holds of the boxes of a program and an instruction in every later world -/
theorem two_boxP {w : World} {x1 x2 x3 x4 x5 y1 y2 y3 y4 y5 : Value} {t1 t2 : TypeId} {W : World} (h : ((w.alloc (.cells #[x1, x2, x3, x4, x5] t1)).alloc (.cells #[y1, y2, y3, y4, y5] t2)).grownBy W none) :
    W.cell? ⟨w.heap.size, 0, none⟩ = some x1 ∧ W.cell? ⟨w.heap.size, 1, none⟩ = some x2 ∧ W.cell? ⟨w.heap.size, 2, none⟩ = some x3 ∧ W.cell? ⟨w.heap.size, 3, none⟩ = some x4 ∧ W.cell? ⟨w.heap.size, 4, none⟩ = some x5 ∧
    W.cell? ⟨w.heap.size + 1, 0, none⟩ = some y1 ∧ W.cell? ⟨w.heap.size + 1, 1, none⟩ = some y2 ∧ W.cell? ⟨w.heap.size + 1, 2, none⟩ = some y3 ∧ W.cell? ⟨w.heap.size + 1, 3, none⟩ = some y4 ∧ W.cell? ⟨w.heap.size + 1, 4, none⟩ = some y5 := by
  have e1 : (w.alloc (.cells #[x1, x2, x3, x4, x5] t1)).heap.size = w.heap.size + 1 := by simp
  have h2 := alloc_heap_new (w.alloc (.cells #[x1, x2, x3, x4, x5] t1)) (.cells #[y1, y2, y3, y4, y5] t2)
  rw [e1] at h2
  have h1 := (alloc_heap_old (w.alloc (.cells #[x1, x2, x3, x4, x5] t1)) (.cells #[y1, y2, y3, y4, y5] t2) w.heap.size (by rw [e1]; omega)).trans (alloc_heap_new w (.cells #[x1, x2, x3, x4, x5] t1))
  obtain ⟨a1, a2, a3, a4, a5, _⟩ := bxP ((h.block _ (blk_lt h1) (by simp)).trans h1)
  obtain ⟨b1, b2, b3, b4, b5, _⟩ := bxP ((h.block _ (blk_lt h2) (by simp)).trans h2)
  exact ⟨a1, a2, a3, a4, a5, b1, b2, b3, b4, b5⟩

set_option maxHeartbeats 8000000 in
theorem isInstr_any (p I O C R : Int) (cv : Value) (x : It) (w : World) (hI0 : 0 ≤ I) (hI1 : I ≤ 8) (hO0 : 0 ≤ O) (hO1 : O ≤ 8) (hC0 : 0 ≤ C) (hC1 : C ≤ 40) (hR0 : 0 ≤ R) (hR1 : R ≤ 16) :
    Calls Tryd.prog 110 #[prV I O C R cv, .int .i64 p, itV x] w fun e w' => e = .returned (.bool (instB p I O C R x)) ∧ w.grownBy w' none := by
  have HR := Lib.hid (reads_any x)
  have HB := Lib.hid fun W v (hv : IntsV W v (regsL x)) => areBelow_any R v (regsL x) W hv (by have := regs_len x; omega) (by omega) (by omega)
  have HW0 := Lib.hid (within_any x.r 0 (R - 1))
  have HW1 := Lib.hid (within_any x.a 0 (I - 1))
  have HW2 := Lib.hid (within_any x.a 0 (C - 1))
  have HW3 := Lib.hid (within_any x.a 0 (O - 1))
  have HE := Lib.hid (isElement_any p x.v)
  have hel : elB p x.v = inB x.v 0 (p - 1) := by unfold elB inB; exact decide_eq_decide.2 (by omega)
  rw [hel] at HE
  have HGB := Lib.hid (show instB p I O C R x = (inB x.r 0 (R - 1) && ((regsL x).all (fun y => inB y 0 (R - 1)) && (if x.o = 1 then decide (x.b = 0) && decide (x.v = 0) && inB x.a 0 (I - 1)
   else if x.o = 2 then decide (x.b = 0) && decide (x.v = 0) && decide (x.a = 0)
   else if x.o = 3 then decide (x.v = 0)
   else if x.o = 4 then decide (x.b = 0) && inB x.v 0 (p - 1)
   else if x.o = 5 ∨ x.o = 6 then decide (x.b = 0) && decide (x.v = 0) && inB x.a 0 (C - 1)
   else if x.o = 7 then decide (x.b = 0) && decide (x.v = 0) && inB x.a 0 (O - 1)
   else false))) from rfl)
  change Hid (∀ W, Calls _ _ _ _ fun e w' => e = .returned (.bool (inB x.r 0 (R - 1))) ∧ W = w') at HW0
  change Hid (∀ W, Calls _ _ _ _ fun e w' => e = .returned (.bool (inB x.a 0 (I - 1))) ∧ W = w') at HW1
  change Hid (∀ W, Calls _ _ _ _ fun e w' => e = .returned (.bool (inB x.a 0 (C - 1))) ∧ W = w') at HW2
  change Hid (∀ W, Calls _ _ _ _ fun e w' => e = .returned (.bool (inB x.a 0 (O - 1))) ∧ W = w') at HW3
  unfold itV prV at *
  clear hel
  generalize instB p I O C R x = gb at *
  generalize ((regsL x).all fun y => inB y 0 (R - 1)) = ob at *
  generalize inB x.r 0 (R - 1) = ir at *
  generalize inB x.a 0 (I - 1) = i1 at *
  generalize inB x.a 0 (C - 1) = i2 at *
  generalize inB x.a 0 (O - 1) = i3 at *
  generalize inB x.v 0 (p - 1) = i4 at *
  generalize regsL x = zs at *
  generalize zs.length = zl at *
  obtain ⟨k, r, a, b, v⟩ := x
  simp only at HR HW0 HW1 HW2 HW3 HE HGB
  have HBX := Lib.hid fun W => two_boxP (w := w) (x1 := .int .i64 I) (x2 := .int .i64 O) (x3 := .int .i64 C) (x4 := .int .i64 R) (x5 := cv) (y1 := .int .i64 k) (y2 := .int .i64 r) (y3 := .int .i64 a) (y4 := .int .i64 b) (y5 := .int .i64 v) (t1 := 43) (t2 := 106) (W := W)
  have HG0 := Lib.hid (gr2 w (.cells #[.int .i64 I, .int .i64 O, .int .i64 C, .int .i64 R, cv] 43) (.cells #[.int .i64 k, .int .i64 r, .int .i64 a, .int .i64 b, .int .i64 v] 106))
  cases ir
  · have HK := Lib.hid (show gb = false from HGB.out)
    clear HGB HW1 HW2 HW3 HE HR HB HBX
    go_enter Tryd.func110, Tryd.ntmps110
    go_upto_region 1 with fail
    go_quiet ((first | (go_at_call 82; exact Calls.quiet_of (q0 (HW0.out _)))))
    go_wp2
    go_ret
    exact ⟨by rw [HK.out]; rfl, grownBy_trans HG0.out (grown_drewN' _ _)⟩
  rw [Bool.true_and] at HGB
  have hwr : IntKind.i64.wrap (R - 1) = R - 1 := wrap_id (by omega) (by omega)
  go_enter Tryd.func110, Tryd.ntmps110
  go_upto_region 1 with fail
  go_cut [22] from 8 to 22 (fun t wx => t = .bool (!ob) ∧ ((w.alloc (.cells #[.int .i64 I, .int .i64 O, .int .i64 C, .int .i64 R, cv] 43)).alloc (.cells #[.int .i64 k, .int .i64 r, .int .i64 a, .int .i64 b, .int .i64 v] 106)).grownBy wx none)
  case first =>
    have hd0 : ((w.alloc (.cells #[.int .i64 I, .int .i64 O, .int .i64 C, .int .i64 R, cv] 43)).alloc (.cells #[.int .i64 k, .int .i64 r, .int .i64 a, .int .i64 b, .int .i64 v] 106)).grownBy ((w.alloc (.cells #[.int .i64 I, .int .i64 O, .int .i64 C, .int .i64 R, cv] 43)).alloc (.cells #[.int .i64 k, .int .i64 r, .int .i64 a, .int .i64 b, .int .i64 v] 106)).drew none := ⟨rfl, rfl, rfl, Nat.le_refl _, fun _ _ _ => rfl⟩
    have HD0 := Lib.hid hd0
    have HX0 := Lib.hid (HBX.out _ hd0)
    clear hd0
    go_region_held3 (fun w' => w'.cell? ⟨w.heap.size, 0, none⟩ = some (.int .i64 I) ∧ w'.cell? ⟨w.heap.size, 1, none⟩ = some (.int .i64 O) ∧ w'.cell? ⟨w.heap.size, 2, none⟩ = some (.int .i64 C) ∧ w'.cell? ⟨w.heap.size, 3, none⟩ = some (.int .i64 R) ∧ w'.cell? ⟨w.heap.size, 4, none⟩ = some cv ∧ w'.cell? ⟨w.heap.size + 1, 0, none⟩ = some (.int .i64 k) ∧ w'.cell? ⟨w.heap.size + 1, 1, none⟩ = some (.int .i64 r) ∧ w'.cell? ⟨w.heap.size + 1, 2, none⟩ = some (.int .i64 a) ∧ w'.cell? ⟨w.heap.size + 1, 3, none⟩ = some (.int .i64 b) ∧ w'.cell? ⟨w.heap.size + 1, 4, none⟩ = some (.int .i64 v))
      (first | with_reducible exact HX0.out | with_reducible exact HX1.out)
      (first
      | (go_at_call 82
         go_loud (with_reducible refine (HW0.out _).mono ?_)
         rintro e w3 ⟨rfl, rfl⟩)
      | (go_at_call 143
         go_loud (with_reducible refine (HR.out _).mono ?_)
         rintro e w2 ⟨a', c', rfl, hi, hg⟩
         have HI := Lib.hid hi
         have HG1 := Lib.hid (grownBy_trans HD0.out hg)
         have HX1 := Lib.hid (HBX.out _ HG1.out)
         clear hi hg)
      | (go_at_call 83
         go_loud (with_reducible refine (HB.out _ _ HI.out).mono ?_)
         rintro e w3 ⟨rfl, rfl⟩))
    all_goals (go_wp2_with fail; go_meet; exact ⟨rfl, HG1.out⟩)
  case rest =>
    obtain ⟨rfl, hg⟩ := hcut
    obtain ⟨x0, x1, x2, x3, x4, y0, y1, y2, y3, y4⟩ := HBX.out _ hg
    have HG := Lib.hid (grownBy_trans HG0.out hg)
    clear hg HBX HG0
    cases ob
    · have HF := Lib.hid (show gb = false from HGB.out)
      clear HGB
      go_wp2_with fail
      go_ret
      exact ⟨by rw [HF.out]; rfl, HG.out⟩
    · rw [Bool.true_and] at HGB
      by_cases k1 : k = 1
      · subst k1
        have HK := Lib.hid (show gb = (decide (b = 0) && decide (v = 0) && i1) from by rw [HGB.out]; simp [reduceIte])
        clear HGB
        by_cases hb : b = 0 <;> by_cases hv : v = 0
        all_goals
          first | (have eb : (b == 0) = true := decide_eq_true hb; try rw [decide_eq_true hb] at HK) | (have eb : (b == 0) = false := decide_eq_false hb; try rw [decide_eq_false hb] at HK)
          first | (have ev : (v == 0) = true := decide_eq_true hv; try rw [decide_eq_true hv] at HK) | (have ev : (v == 0) = false := decide_eq_false hv; try rw [decide_eq_false hv] at HK)
          clear hb hv
          go_wp2_with (go_at_call 82; with_reducible refine (HW1.out _).mono ?_; rintro e w3 ⟨rfl, rfl⟩)
          go_ret
          exact ⟨by rw [HK.out]; rfl, HG.out⟩
      have q1 : (k == 1) = false := by simpa using k1
      by_cases k2 : k = 2
      · subst k2
        have HK := Lib.hid (show gb = (decide (b = 0) && decide (v = 0) && decide (a = 0)) from by rw [HGB.out]; simp [reduceIte])
        clear HGB
        by_cases hb : b = 0 <;> by_cases hv : v = 0 <;> by_cases ha : a = 0
        all_goals
          first | (have eb : (b == 0) = true := decide_eq_true hb; try rw [decide_eq_true hb] at HK) | (have eb : (b == 0) = false := decide_eq_false hb; try rw [decide_eq_false hb] at HK)
          first | (have ev : (v == 0) = true := decide_eq_true hv; try rw [decide_eq_true hv] at HK) | (have ev : (v == 0) = false := decide_eq_false hv; try rw [decide_eq_false hv] at HK)
          first | (have ea : (a == 0) = true := decide_eq_true ha; try rw [decide_eq_true ha] at HK) | (have ea : (a == 0) = false := decide_eq_false ha; try rw [decide_eq_false ha] at HK)
          clear hb hv ha
          go_wp2_with fail
          go_ret
          exact ⟨by rw [HK.out]; rfl, HG.out⟩
      have q2 : (k == 2) = false := by simpa using k2
      by_cases k3 : k = 3
      · subst k3
        have HK := Lib.hid (show gb = (decide (v = 0)) from by rw [HGB.out]; simp [reduceIte])
        clear HGB
        by_cases hb : b = 0 <;> by_cases hv : v = 0
        all_goals
          first | (have eb : (b == 0) = true := decide_eq_true hb; try rw [decide_eq_true hb] at HK) | (have eb : (b == 0) = false := decide_eq_false hb; try rw [decide_eq_false hb] at HK)
          first | (have ev : (v == 0) = true := decide_eq_true hv; try rw [decide_eq_true hv] at HK) | (have ev : (v == 0) = false := decide_eq_false hv; try rw [decide_eq_false hv] at HK)
          clear hb hv
          go_wp2_with fail
          go_ret
          exact ⟨by rw [HK.out]; rfl, HG.out⟩
      have q3 : (k == 3) = false := by simpa using k3
      by_cases k4 : k = 4
      · subst k4
        have HK := Lib.hid (show gb = (decide (b = 0) && i4) from by rw [HGB.out]; simp [reduceIte])
        clear HGB
        by_cases hb : b = 0 <;> by_cases hv : v = 0
        all_goals
          first | (have eb : (b == 0) = true := decide_eq_true hb; try rw [decide_eq_true hb] at HK) | (have eb : (b == 0) = false := decide_eq_false hb; try rw [decide_eq_false hb] at HK)
          first | (have ev : (v == 0) = true := decide_eq_true hv; try rw [decide_eq_true hv] at HK) | (have ev : (v == 0) = false := decide_eq_false hv; try rw [decide_eq_false hv] at HK)
          clear hb hv
          go_wp2_with (go_at_call 125; with_reducible refine (HE.out _).mono ?_; rintro e w3 ⟨rfl, rfl⟩)
          go_ret
          exact ⟨by rw [HK.out]; rfl, HG.out⟩
      have q4 : (k == 4) = false := by simpa using k4
      by_cases k5 : k = 5
      · subst k5
        have HK := Lib.hid (show gb = (decide (b = 0) && decide (v = 0) && i2) from by rw [HGB.out]; simp [reduceIte])
        clear HGB
        by_cases hb : b = 0 <;> by_cases hv : v = 0
        all_goals
          first | (have eb : (b == 0) = true := decide_eq_true hb; try rw [decide_eq_true hb] at HK) | (have eb : (b == 0) = false := decide_eq_false hb; try rw [decide_eq_false hb] at HK)
          first | (have ev : (v == 0) = true := decide_eq_true hv; try rw [decide_eq_true hv] at HK) | (have ev : (v == 0) = false := decide_eq_false hv; try rw [decide_eq_false hv] at HK)
          clear hb hv
          go_wp2_with (go_at_call 82; with_reducible refine (HW2.out _).mono ?_; rintro e w3 ⟨rfl, rfl⟩)
          go_ret
          exact ⟨by rw [HK.out]; rfl, HG.out⟩
      have q5 : (k == 5) = false := by simpa using k5
      by_cases k6 : k = 6
      · subst k6
        have HK := Lib.hid (show gb = (decide (b = 0) && decide (v = 0) && i2) from by rw [HGB.out]; simp [reduceIte])
        clear HGB
        by_cases hb : b = 0 <;> by_cases hv : v = 0
        all_goals
          first | (have eb : (b == 0) = true := decide_eq_true hb; try rw [decide_eq_true hb] at HK) | (have eb : (b == 0) = false := decide_eq_false hb; try rw [decide_eq_false hb] at HK)
          first | (have ev : (v == 0) = true := decide_eq_true hv; try rw [decide_eq_true hv] at HK) | (have ev : (v == 0) = false := decide_eq_false hv; try rw [decide_eq_false hv] at HK)
          clear hb hv
          go_wp2_with (go_at_call 82; with_reducible refine (HW2.out _).mono ?_; rintro e w3 ⟨rfl, rfl⟩)
          go_ret
          exact ⟨by rw [HK.out]; rfl, HG.out⟩
      have q6 : (k == 6) = false := by simpa using k6
      by_cases k7 : k = 7
      · subst k7
        have HK := Lib.hid (show gb = (decide (b = 0) && decide (v = 0) && i3) from by rw [HGB.out]; simp [reduceIte])
        clear HGB
        by_cases hb : b = 0 <;> by_cases hv : v = 0
        all_goals
          first | (have eb : (b == 0) = true := decide_eq_true hb; try rw [decide_eq_true hb] at HK) | (have eb : (b == 0) = false := decide_eq_false hb; try rw [decide_eq_false hb] at HK)
          first | (have ev : (v == 0) = true := decide_eq_true hv; try rw [decide_eq_true hv] at HK) | (have ev : (v == 0) = false := decide_eq_false hv; try rw [decide_eq_false hv] at HK)
          clear hb hv
          go_wp2_with (go_at_call 82; with_reducible refine (HW3.out _).mono ?_; rintro e w3 ⟨rfl, rfl⟩)
          go_ret
          exact ⟨by rw [HK.out]; rfl, HG.out⟩
      have q7 : (k == 7) = false := by simpa using k7
      have HK := Lib.hid (show gb = false from by rw [HGB.out]; simp [k1, k2, k3, k4, k5, k6, k7])
      clear HGB k1 k2 k3 k4 k5 k6 k7
      by_cases hb : b = 0 <;> by_cases hv : v = 0
      all_goals
        first | (have eb : (b == 0) = true := decide_eq_true hb) | (have eb : (b == 0) = false := decide_eq_false hb)
        first | (have ev : (v == 0) = true := decide_eq_true hv) | (have ev : (v == 0) = false := decide_eq_false hv)
        clear hb hv
        go_wp2_with fail
        go_ret
        exact ⟨by rw [HK.out]; rfl, HG.out⟩
end Go.Proofs.YtmofaaceadnafaaDoor

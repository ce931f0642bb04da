/-
  Silent gates in plain Lean: the greatest set that stays silent; gates folded to zeros. Conditions: none.
-/
import Derived.Test.YtkamcgonacmieaaDoorNa01
import Derived.Test.YtkamcgonacmieaaDoorNa03
import Derived.Test.YtkamcgonacmieaaDoorNa02
import Derived.Test.YtkamcgonacmieaaDoorNa05
import Derived.Test.YtkamcgonacmieaaDoorNa04
import Derived.WalkMore
import Derived.ScopeJumps
namespace Go.Proofs.YtkamcgonacmieaaDoor
open Go.RowKit
set_option linter.unusedVariables false

/-- May a gate be silent if those marked are? -/
def staysB (m : List Bool) (g : Gt) : Bool :=
  if g.k = 2 then true else if g.k = 4 then decide (g.v = 0) || m.getD g.a.toNat false
  else if g.k = 3 then m.getD g.a.toNat false && m.getD g.b.toNat false else if g.k = 5 then m.getD g.a.toNat false else false
def LeB (m m' : List Bool) : Prop := ∀ i, m.getD i false = true → m'.getD i false = true
theorem stays_mono {m m' : List Bool} (h : LeB m m') {g : Gt} (hs : staysB m g = true) : staysB m' g = true := by
  unfold staysB at *
  split at hs
  · rename_i h2; rw [if_pos h2]
  · rename_i h2
    rw [if_neg h2]
    split at hs
    · rename_i h4
      rw [if_pos h4]
      rw [Bool.or_eq_true] at hs ⊢
      exact hs.imp id (h _)
    · rename_i h4
      rw [if_neg h4]
      split at hs
      · rename_i h3
        rw [if_pos h3]
        rw [Bool.and_eq_true] at hs ⊢
        exact ⟨h _ hs.1, h _ hs.2⟩
      · rename_i h3
        rw [if_neg h3]
        split at hs
        · rename_i h5
          rw [if_pos h5]
          exact h _ hs
        · cases hs
/-- Every marked gate stays silent. -/
def ClosedB (gs : List Gt) (m : List Bool) : Prop := ∀ i, m.getD i false = true → staysB m (gs.getD i g0) = true
/-- All closed sets lie below. -/
def TopB (gs : List Gt) (m : List Bool) : Prop := m.length = gs.length ∧ ∀ m', m'.length = gs.length → ClosedB gs m' → LeB m' m
def IsSil (gs : List Gt) (m : List Bool) : Prop := TopB gs m ∧ ClosedB gs m
theorem IsSil.uniq {gs : List Gt} {m m' : List Bool} (h : IsSil gs m) (h' : IsSil gs m') : m = m' := by
  apply List.ext_getElem (h.1.1.trans h'.1.1.symm)
  intro i h1 h2
  have a := h.1.2 m' h'.1.1 h'.2 i
  have b := h'.1.2 m h.1.1 h.2 i
  rw [List.getD_eq_getElem?_getD, List.getElem?_eq_getElem h2, List.getD_eq_getElem?_getD, List.getElem?_eq_getElem h1] at a
  rw [List.getD_eq_getElem?_getD, List.getElem?_eq_getElem h1, List.getD_eq_getElem?_getD, List.getElem?_eq_getElem h2] at b
  simp only [Option.getD_some] at a b
  cases e1 : m[i] <;> cases e2 : m'[i] <;> simp_all
noncomputable def silL (gs : List Gt) : List Bool := open Classical in if h : ∃ m, IsSil gs m then h.choose else []
theorem sil_eq {gs : List Gt} {m : List Bool} (h : IsSil gs m) : silL gs = m := by
  have he : ∃ m, IsSil gs m := ⟨m, h⟩
  unfold silL
  rw [dif_pos he]
  exact he.choose_spec.uniq h
theorem rep_at (n i : Nat) (b : Bool) : (List.replicate n b).getD i false = true ↔ i < n ∧ b = true := by
  rw [List.getD_eq_getElem?_getD]
  by_cases h : i < n
  · rw [List.getElem?_eq_getElem (by simpa using h)]
    simp [h]
  · rw [List.getElem?_eq_none (by simpa using Nat.le_of_not_lt h)]
    simp [h]
theorem getD_lt {m : List Bool} {i : Nat} (h : m.getD i false = true) : i < m.length := by
  rcases Nat.lt_or_ge i m.length with h1 | h1
  · exact h1
  · rw [List.getD_eq_getElem?_getD, List.getElem?_eq_none h1] at h
    cases h
theorem top_all (gs : List Gt) : TopB gs (List.replicate gs.length true) := ⟨by simp, fun m' hl hc i hi => (rep_at _ _ _).2 ⟨by rw [← hl]; exact getD_lt hi, rfl⟩⟩
/-- A gate that cannot stay silent is struck. -/
theorem TopB.strike {gs : List Gt} {m : List Bool} (h : TopB gs m) {i : Nat} (hi : i < gs.length) (hs : staysB m (gs.getD i g0) = false) : TopB gs (m.set i false) := by
  refine ⟨by rw [List.length_set]; exact h.1, fun m' hl hc j hj => ?_⟩
  rw [getD_set_b _ _ _ _ (by rw [h.1]; exact hi)]
  split
  · rename_i e
    subst e
    have := stays_mono (h.2 m' hl hc) (hc j hj)
    rw [hs] at this
    cases this
  · exact h.2 m' hl hc j hj
/-- No input is silent. -/
def inpM (gs : List Gt) : List Bool := gs.map fun g => decide (g.k ≠ 1)
theorem top_inp (gs : List Gt) : TopB gs (inpM gs) := by
  refine ⟨by simp [inpM], fun m' hl hc i hi => ?_⟩
  have hlt : i < gs.length := by rw [← hl]; exact getD_lt hi
  have hs := hc i hi
  unfold inpM
  rw [List.getD_eq_getElem?_getD, List.getElem?_map, List.getElem?_eq_getElem hlt]
  rw [List.getD_eq_getElem?_getD, List.getElem?_eq_getElem hlt] at hs
  simp only [Option.getD_some, Option.map_some] at hs ⊢
  rw [decide_eq_true_iff]
  intro e
  unfold staysB at hs
  rw [if_neg (by omega), if_neg (by omega), if_neg (by omega), if_neg (by omega)] at hs
  cases hs
/-- How many are marked. -/
def nT (m : List Bool) : Nat := m.countP (fun b => b)
theorem nT_strike {m : List Bool} {i : Nat} (h : m.getD i false = true) : nT (m.set i false) < nT m := by
  have hi := getD_lt h
  rw [List.getD_eq_getElem?_getD, List.getElem?_eq_getElem hi, Option.getD_some] at h
  unfold nT
  induction m generalizing i with
  | nil => simp at hi
  | cons x m ih =>
    cases i with
    | zero =>
      simp only [List.getElem_cons_zero] at h
      subst h
      simp
    | succ i =>
      simp only [List.getElem_cons_succ] at h
      simp only [List.length_cons] at hi
      have := ih (by omega) h
      simp only [List.set_cons_succ, List.countP_cons]
      omega
def z2 : Gt := ⟨2, 0, 0, 0⟩
/-- Marked gates folded to zeros. -/
def foldL (m : List Bool) (gs : List Gt) : List Gt := (List.range gs.length).map fun i => if m.getD i false = true then z2 else gs.getD i g0
theorem fold_len (m : List Bool) (gs : List Gt) : (foldL m gs).length = gs.length := by simp [foldL]
theorem fold_at {m : List Bool} {gs : List Gt} {i : Nat} (hi : i < gs.length) : (foldL m gs).getD i g0 = if m.getD i false = true then z2 else gs.getD i g0 := by
  unfold foldL
  rw [List.getD_eq_getElem?_getD, List.getElem?_map, List.getElem?_range hi]
  rfl
end Go.Proofs.YtkamcgonacmieaaDoor

/-
  May a gate be silent: the program's test. Conditions: operands are places of the list.
-/
namespace Go.Proofs.YtkamcgonacmieaaDoor
open Go.RowKit
set_option linter.unusedVariables false
set_option maxRecDepth 100000

theorem bool_in {w : World} {a : Option Addr} {n cap : Nat} {bs : List Bool} (h : RdR boolE w (.slice a n cap) bs) {i : Nat} (hi : i < bs.length) :
    ∃ b o, a = some ⟨b, o, none⟩ ∧ b < w.heap.size ∧ ∀ j, j < bs.length → w.cell? ⟨b, o + j, none⟩ = some (.bool (bs.getD j false)) := by
  obtain ⟨b, o, ha, hb, _⟩ := h.at hi
  refine ⟨b, o, ha, hb, fun j hj => ?_⟩
  obtain ⟨b', o', ha', _, h1⟩ := h.at hj
  rw [ha] at ha'
  injection ha' with e
  injection e with e1 e2
  subst e1 e2
  have h2 := h1 0 (by decide)
  rw [List.getD_eq_getElem?_getD, List.getElem?_eq_getElem hj]
  have e3 : o + j * boolE.sz + 0 = o + j := by show o + j * 1 + 0 = o + j; omega
  rw [e3] at h2
  exact h2
set_option maxHeartbeats 1000000 in
theorem staysSilent_any (g : Gt) (v : Value) (m : List Bool) (w : World) (hv : RdR boolE w v m) (hops : ∀ x ∈ opsL g, 0 ≤ x ∧ x < m.length) :
    Calls Tryd.prog 204 #[gtV g, v] w fun e w' => e = .returned (.bool (staysB m g)) ∧ w.grownBy w' none := by
  obtain ⟨a, c, rfl⟩ := hv.shape
  have HV := Lib.hid hv
  have HK := Lib.hid fun o => gr1 w o
  obtain ⟨k, ga, gb, gv⟩ := g
  unfold gtV
  generalize hlen : m.length = n at *
  have HL := Lib.hid hlen
  clear hv hlen
  by_cases h2 : k = 2
  · subst h2
    have hs : staysB m ⟨2, ga, gb, gv⟩ = true := by simp [staysB]
    rw [hs]
    clear hs hops
    go_enter Tryd.func204, Tryd.ntmps204
    go_wp2
    go_ret
    exact ⟨rfl, HK.out _⟩
  by_cases h4 : k = 4
  · subst h4
    have ho : opsL ⟨4, ga, gb, gv⟩ = [ga] := by simp [opsL]
    rw [ho] at hops
    obtain ⟨a0, a1⟩ := hops ga (by simp)
    obtain ⟨na, rfl⟩ := Int.eq_ofNat_of_zero_le a0
    have hna : na < m.length := by rw [HL.out]; omega
    obtain ⟨b, o, rfl, hb, hc⟩ := bool_in HV.out hna
    have hc0 := hc na hna
    by_cases hz : gv = 0
    · subst hz
      have hs : staysB m ⟨4, na, gb, 0⟩ = true := by simp [staysB]
      rw [hs]
      clear hs hops ho hc hc0
      go_enter Tryd.func204, Tryd.ntmps204
      go_wp2
      go_ret
      exact ⟨rfl, HK.out _⟩
    · have hs : staysB m ⟨4, na, gb, gv⟩ = m.getD na false := by simp [staysB, hz]
      rw [hs]
      generalize m.getD na false = x at *
      clear hs hops ho hc
      have hc1 := fun ob => (World.cell?_alloc_past ob b _ hb).trans hc0
      go_enter Tryd.func204, Tryd.ntmps204
      go_wp2
      go_ret
      exact ⟨by simp [hz], HK.out _⟩
  by_cases h3 : k = 3
  · subst h3
    have ho : opsL ⟨3, ga, gb, gv⟩ = [ga, gb] := by simp [opsL]
    rw [ho] at hops
    obtain ⟨a0, a1⟩ := hops ga (by simp)
    obtain ⟨b0, b1⟩ := hops gb (by simp)
    obtain ⟨na, rfl⟩ := Int.eq_ofNat_of_zero_le a0
    obtain ⟨nb, rfl⟩ := Int.eq_ofNat_of_zero_le b0
    have hna : na < m.length := by rw [HL.out]; omega
    have hnb : nb < m.length := by rw [HL.out]; omega
    obtain ⟨b, o, rfl, hb, hc⟩ := bool_in HV.out hna
    have hc0 := hc na hna
    have hd0 := hc nb hnb
    have hs : staysB m ⟨3, na, nb, gv⟩ = (m.getD na false && m.getD nb false) := by simp [staysB]
    rw [hs]
    generalize m.getD na false = x at *
    generalize m.getD nb false = y at *
    clear hs hops ho hc
    have hc1 := fun ob => (World.cell?_alloc_past ob b _ hb).trans hc0
    have hd1 := fun ob => (World.cell?_alloc_past ob b _ hb).trans hd0
    cases x
    · go_enter Tryd.func204, Tryd.ntmps204
      go_wp2
      go_ret
      exact ⟨rfl, HK.out _⟩
    · go_enter Tryd.func204, Tryd.ntmps204
      go_wp2
      go_ret
      exact ⟨by simp, HK.out _⟩
  by_cases h5 : k = 5
  · subst h5
    have ho : opsL ⟨5, ga, gb, gv⟩ = [ga] := by simp [opsL]
    rw [ho] at hops
    obtain ⟨a0, a1⟩ := hops ga (by simp)
    obtain ⟨na, rfl⟩ := Int.eq_ofNat_of_zero_le a0
    have hna : na < m.length := by rw [HL.out]; omega
    obtain ⟨b, o, rfl, hb, hc⟩ := bool_in HV.out hna
    have hc0 := hc na hna
    have hs : staysB m ⟨5, na, gb, gv⟩ = m.getD na false := by simp [staysB]
    rw [hs]
    generalize m.getD na false = x at *
    clear hs hops ho hc
    have hc1 := fun ob => (World.cell?_alloc_past ob b _ hb).trans hc0
    go_enter Tryd.func204, Tryd.ntmps204
    go_wp2
    go_ret
    exact ⟨rfl, HK.out _⟩
  · have hs : staysB m ⟨k, ga, gb, gv⟩ = false := by simp [staysB, h2, h3, h4, h5]
    rw [hs]
    clear hs hops
    go_enter Tryd.func204, Tryd.ntmps204
    go_wp2
    go_ret
    exact ⟨rfl, HK.out _⟩
end Go.Proofs.YtkamcgonacmieaaDoor

/-
  The silent gates: the program's search (goto). Conditions: at most 1,000 gates; operands are gates.
-/
namespace Go.Proofs.YtkamcgonacmieaaDoor
open Go.RowKit
set_option linter.unusedVariables false
set_option maxRecDepth 1000000

def isT : Option Value → Bool
  | some (.bool true) => true
  | _ => false
/-- How many of the m cells of block b are true. -/
def cntT (w : World) (b m : Nat) : Nat := (List.range m).countP fun j => isT (w.cell? ⟨b, j, none⟩)
theorem nT_range (bs : List Bool) : nT bs = (List.range bs.length).countP fun j => bs.getD j false := by
  unfold nT
  have e : bs = (List.range bs.length).map fun j => bs.getD j false := by
    apply List.ext_getElem
    · simp
    · intro i h1 h2
      simp [List.getD_eq_getElem?_getD, List.getElem?_eq_getElem h1]
  conv => lhs; rw [e]
  rw [List.countP_map]
  rfl
theorem cnt_own {w : World} {B g n c : Nat} {bs : List Bool} (h : OwnR boolE B w (.slice (some ⟨g, 0, none⟩) n c) bs) (hn : n = bs.length) : cntT w g n = nT bs := by
  rw [nT_range, hn]
  unfold cntT
  apply List.countP_congr
  intro j hj
  rw [bool_cell h hn (by rw [hn]; simpa using hj)]
  cases bs.getD j false <;> simp [isT]
theorem trueSet {n k : Nat} (hk : k < n) : (List.replicate k true ++ List.replicate (n - k) false).set k true = List.replicate (k + 1) true ++ List.replicate (n - (k + 1)) false := by
  rw [List.set_append_right _ _ (by simp), List.length_replicate, Nat.sub_self, show n - k = (n - (k + 1)) + 1 by omega, List.replicate_succ, List.set_cons_zero, List.replicate_succ']
  simp
/-- A scope with jumps back to one label: what holds at the jump serves the first arrival too. -/
theorem scope_jumps {c rest : Code} {a : Act} {w : World} {Q : Exit → Act → World → Prop} (l : Nat) (J : Act → World → Prop) (μ : Act → World → Nat) (hf : findLabel c l = some (Code.skip.seq rest))
    (pass : ∀ a w, J a w → rest.wp Tryd.prog (Exit.jump l (fun a' w' => J a' w' ∧ μ a' w' < μ a w) Q) a w)
    (first : (∀ a w, J a w → rest.wp Tryd.prog (Exit.jump l J Q) a w) → c.wp Tryd.prog (Exit.jump l J Q) a w) : (Code.scope c).wp Tryd.prog Q a w := by
  refine wp_scope_jumps l J μ hf (first fun a w h => Code.wp_mono (fun e a' w' hq => ?_) (pass a w h)) (fun a w h => wp_seq (wp_skip (pass a w h)))
  cases e with
  | goto l' => exact ⟨hq.1, hq.2.1⟩
  | normal => exact hq
  | exit id => exact hq
  | ret => exact hq
  | panic ch => exact hq
  | outgrown => exact hq
/-- What holds at the label. -/
def SilJ (n : Int) (a : Option Addr) (c : Nat) (a2 : Option Addr) (n2 c2 m : Nat) (gs : List Gt) (w : World) (a' : Act) (w' : World) : Prop :=
  ∃ (bs : List Bool) (u4 u5 u6 u7 u8 u9 u10 u11 u12 u13 u14 u15 u16 u17 u18 u19 u20 u21 u22 u23 u24 u25 u26 u27 u28 u29 u30 u31 u32 u33 u34 u35 u36 u37 u38 u39 u40 u41 u42 : Value), a' = { tmps := #[.agg #[.int .i64 n, .slice a m c, .slice a2 n2 c2], .pointer (some ⟨w.heap.size, 0, none⟩), .slice none 0 0, .slice (some ⟨w.heap.size + 1, 0, none⟩) m m, u4, u5, u6, u7, u8, u9, u10, u11, u12, u13, u14, u15, u16, u17, u18, u19, u20, u21, u22, u23, u24, u25, u26, u27, u28, u29, u30, u31, u32, u33, u34, u35, u36, u37, u38, u39, u40, u41, u42], defers := [] } ∧ TopB gs bs ∧
    Sep w' [OR boolE (.slice (some ⟨w.heap.size + 1, 0, none⟩) m m) bs, BxA w.heap.size #[.int .i64 n, .slice a m c, .slice a2 n2 c2] 29, KeepA w]

set_option maxHeartbeats 4000000 in
theorem silent_any (n : Int) (gv : Value) (a2 : Option Addr) (n2 c2 : Nat) (gs : List Gt) (w : World) (hg : RdR gateE w gv gs) (hl : gs.length ≤ 1000) (hops : ∀ g ∈ gs, ∀ x ∈ opsL g, 0 ≤ x ∧ x < gs.length) :
    Calls Tryd.prog 132 #[.agg #[.int .i64 n, gv, .slice a2 n2 c2]] w fun e w' => ∃ a c, e = .returned (.slice a (silL gs).length c) ∧ Sep w' [OR boolE (.slice a (silL gs).length c) (silL gs), KeepA w] := by
  obtain ⟨i0, hi, hz0, hz1, hz2⟩ := info_parts info_bool
  have HI := Lib.hid hi; have HZ0 := Lib.hid hz0; have HZ1 := Lib.hid hz1; have HZ2 := Lib.hid hz2
  clear hi hz0 hz1 hz2
  have HG := Lib.hid hg; have HOPS := Lib.hid hops
  obtain ⟨a, c, rfl⟩ := hg.shape
  generalize hm : gs.length = m at *
  have HM := Lib.hid hm
  clear hg hm hops
  have hs0 := (Sep.start w).box #[.int .i64 n, .slice a m c, .slice a2 n2 c2] 29
  have e1 : (w.alloc (.cells #[.int .i64 n, .slice a m c, .slice a2 n2 c2] 29)).heap.size = w.heap.size + 1 := by simp
  have HE1 := Lib.hid e1
  have HS0 := Lib.hid hs0
  clear hs0 e1
  go_enter Tryd.func132, Tryd.ntmps132
  go_wp2_with fail
  refine scope_jumps 0 (SilJ n a c a2 n2 c2 m gs w) (fun _ w' => cntT w' (w.heap.size + 1) m) rfl ?pass ?first
  case first =>
    intro hpass
    have HP := Lib.hid hpass
    clear hpass
    go_wp2_with (
      at_make
      refine wpList_make_full _ rfl _ _ 133 rfl (w.heap.size + 1) 4 i0 _ 1 Tryd.underlying133 HI.out HZ0.out HZ1.out _ _ _ _ m rfl rfl rfl rfl (by rw [HZ2.out]; omega) (by unfold maxLen; omega) (by rw [HE1.out]; exact Nat.le_refl _) ?_
      intro w1 hown' hgr'
      have hs1 := HS0.out.newR hgr' (OwnR.made (E := boolE) falseCells (by rw [HE1.out]; exact hown'))
      rw [HE1.out] at hs1 ⊢
      obtain ⟨x0, x1, x2, _⟩ := bx3 hs1.tl.hd
      have HS := Lib.hid hs1
      clear hs1 hown' hgr')
    go_loopw [4, 13] (fun _ i wr => ∃ k : Nat, k ≤ m ∧ i = .int .i64 k ∧ Sep wr [OR boolE (.slice (some ⟨w.heap.size + 1, 0, none⟩) m m) (List.replicate k true ++ List.replicate (m - k) false), BxA w.heap.size #[.int .i64 n, .slice a m c, .slice a2 n2 c2] 29, KeepA w]) (fun _ i _ => m - (intOf i).toNat)
    case atStart => exact ⟨0, by omega, rfl, by simpa using HS.out⟩
    case round =>
      obtain ⟨k, hk, rfl, hs⟩ := hrel
      have HSX := Lib.hid hs
      clear hs HS
      by_cases hlt : k < m
      · have hll : m = (List.replicate k true ++ List.replicate (m - k) false).length := by rw [List.length_append, List.length_replicate, List.length_replicate]; omega
        have hf := bool_free HSX.out.hd hll k
        have hc := bool_cell HSX.out.hd hll hlt
        generalize (List.replicate k true ++ List.replicate (m - k) false).getD k false = q at hc
        have hset := HSX.out.setBo hll hlt true
        rw [trueSet hlt] at hset
        have HSET := Lib.hid hset
        clear hset hll
        go_wp2
        go_roundw
        case rel => exact ⟨k + 1, by omega, by go_num, HSET.out⟩
        case measure => simp [intOf]; omega
      · have hkn : k = m := by omega
        subst hkn
        clear hlt
        have hs1 := HSX.out
        rw [Nat.sub_self, List.replicate_zero, List.append_nil] at hs1
        have HS1 := Lib.hid hs1
        clear hs1 HSX
        go_wp2_with fail
        go_step3
        simp only [Exit.then]
        apply_assumption
        exact HP.out _ _ ⟨List.replicate k true, _, _, _, _, _, _, _, _, _, _, _, _, _, _, _, _, _, _, _, _, _, _, _, _, _, _, _, _, _, _, _, _, _, _, _, _, _, _, _, rfl, by have := top_all gs; rwa [HM.out] at this, HS1.out⟩
  case pass =>
    rintro a' w' ⟨bs, u4, u5, u6, u7, u8, u9, u10, u11, u12, u13, u14, u15, u16, u17, u18, u19, u20, u21, u22, u23, u24, u25, u26, u27, u28, u29, u30, u31, u32, u33, u34, u35, u36, u37, u38, u39, u40, u41, u42, rfl, htop, hs⟩
    have HT := Lib.hid htop
    have HS := Lib.hid hs
    have HBL := Lib.hid (show m = bs.length by rw [htop.1, HM.out])
    have HCN := Lib.hid (cnt_own hs.hd (show m = bs.length by rw [htop.1, HM.out]))
    obtain ⟨x0, x1, x2, _⟩ := bx3 hs.tl.hd
    clear htop hs
    go_wp2_with fail
    go_loopw [5, 6, 23] (fun _ _ i wr => ∃ k : Nat, k ≤ m ∧ i = .int .i64 k ∧ (∀ j, j < k → bs.getD j false = true → staysB bs (gs.getD j g0) = true) ∧ Sep wr [OR boolE (.slice (some ⟨w.heap.size + 1, 0, none⟩) m m) bs, BxA w.heap.size #[.int .i64 n, .slice a m c, .slice a2 n2 c2] 29, KeepA w]) (fun _ _ i _ => m - (intOf i).toNat)
    case atStart => exact ⟨0, by omega, rfl, fun j hj => absurd hj (Nat.not_lt_zero _), HS.out⟩
    case round =>
      obtain ⟨k, hk, rfl, hst, hs⟩ := hrel
      have HSX := Lib.hid hs
      have HST := Lib.hid hst
      clear hs hst HS x0 x1 x2
      by_cases hlt : k < m
      · have hkg : k < gs.length := by rw [HM.out]; exact hlt
        obtain ⟨b, o, rfl, hb, q0, q1, q2, q3⟩ := gate_at rfl rfl (HG.out.carry HSX.out.tl.tl.hd) hkg
        have hmem := getD_mem3 g0 hkg
        have hop := HOPS.out _ hmem
        have HSS := Lib.hid fun (v : Value) (W : World) (hv : RdR boolE W v bs) => staysSilent_any (gs.getD k g0) v bs W hv (by rw [← HBL.out]; exact hop)
        generalize hgk : gs.getD k g0 = g at *
        have hs1 := HSX.out.box #[.int .i64 g.k, .int .i64 g.a, .int .i64 g.b, .int .i64 g.v] 130
        have hck := bool_cell hs1.tl.hd HBL.out hlt
        have HS1 := Lib.hid hs1
        have HRD := Lib.hid hs1.tl.hd.read
        have HGK := Lib.hid hgk
        unfold gtV at HSS
        clear hgk hop hmem hb hkg hs1
        cases hbk : bs.getD k false with
        | false =>
          rw [hbk] at hck
          have HBK := Lib.hid hbk
          clear hbk HSS
          go_wp2
          go_roundw
          case rel => exact ⟨k + 1, by omega, by go_num, fun j hj hjt => by
            by_cases e : j = k
            · subst e; rw [HBK.out] at hjt; cases hjt
            · exact HST.out j (by omega) hjt, HS1.out.tl⟩
          case measure => simp [intOf]; omega
        | true =>
          rw [hbk] at hck
          have HBK := Lib.hid hbk
          clear hbk
          cases hsb : staysB bs g with
          | true =>
            rw [hsb] at HSS
            have HSB := Lib.hid hsb
            clear hsb
            go_wp2_with (
              go_at_call 204
              with_reducible refine (HSS.out _ _ HRD.out).mono ?_
              rintro e w2 ⟨rfl, hg2⟩
              have HS2 := Lib.hid (HS1.out.grown hg2).tl
              clear hg2)
            go_roundw
            case rel => exact ⟨k + 1, by omega, by go_num, fun j hj hjt => by
              by_cases e : j = k
              · subst e; rw [HGK.out]; exact HSB.out
              · exact HST.out j (by omega) hjt, HS2.out⟩
            case measure => simp [intOf]; omega
          | false =>
            rw [hsb] at HSS
            have HTS := Lib.hid (HT.out.strike (i := k) (by rw [HM.out]; exact hlt) (by rw [HGK.out]; exact hsb))
            clear hsb
            go_wp2_with (
              go_at_call 204
              with_reducible refine (HSS.out _ _ HRD.out).mono ?_
              rintro e w2 ⟨rfl, hg2⟩
              have hs2 := (HS1.out.grown hg2).tl
              have hf := bool_free hs2.hd HBL.out k
              have hc2 := bool_cell hs2.hd HBL.out hlt
              have HS3 := Lib.hid (hs2.setBo HBL.out hlt false)
              clear hg2 hs2)
            go_step3
            refine ⟨rfl, ⟨bs.set k false, _, _, _, _, _, _, _, _, _, _, _, _, _, _, _, _, _, _, _, _, _, _, _, _, _, _, _, _, _, _, _, _, _, _, _, _, _, _, _, rfl, HTS.out, HS3.out⟩, ?_⟩
            have e1 := cnt_own HS3.out.hd (by rw [List.length_set]; exact HBL.out)
            rw [e1, HCN.out]
            exact nT_strike HBK.out
      · have hkn : k = m := by omega
        subst hkn
        clear hlt
        go_wp2
        simp only [Exit.jump]
        go_ret
        have hsil := sil_eq (gs := gs) (m := bs) ⟨HT.out, fun i hi => HST.out i (by have := getD_lt hi; rw [HBL.out]; exact this) hi⟩
        rw [hsil, ← HBL.out]
        exact ⟨_, _, rfl, HSX.out.drop2⟩
end Go.Proofs.YtkamcgonacmieaaDoor

/-
  The silent gates: the reference's search. Conditions: at most 1,000 gates; operands are gates; kinds from 1 to 5.
-/
namespace Go.Proofs.YtkamcgonacmieaaDoor
open Go.RowKit
set_option linter.unusedVariables false
set_option maxRecDepth 1000000

def bN : Value → Nat
  | .bool true => 1
  | _ => 0
theorem inp_at {gs : List Gt} {k : Nat} (hk : k < gs.length) : (inpM gs).getD k false = decide ((gs.getD k g0).k ≠ 1) := by
  unfold inpM
  rw [List.getD_eq_getElem?_getD, List.getElem?_map, List.getD_eq_getElem?_getD, List.getElem?_eq_getElem hk]
  rfl
theorem inp_len (gs : List Gt) : (inpM gs).length = gs.length := by simp [inpM]
/-- No input is marked. -/
def NoInp (gs : List Gt) (bs : List Bool) : Prop := ∀ i, bs.getD i false = true → (gs.getD i g0).k ≠ 1
theorem noinp_start (gs : List Gt) : NoInp gs (inpM gs) := by
  intro i hi
  have hl := getD_lt hi
  rw [inp_len] at hl
  rw [inp_at hl, decide_eq_true_iff] at hi
  exact hi
theorem NoInp.strike {gs : List Gt} {bs : List Bool} (h : NoInp gs bs) (i : Nat) : NoInp gs (bs.set i false) := by
  intro j hj
  rcases Nat.lt_or_ge i bs.length with hi | hi
  · rw [getD_set_b _ _ _ _ hi] at hj
    split at hj
    · cases hj
    · exact h j hj
  · rw [List.set_eq_of_length_le hi] at hj
    exact h j hj
theorem nT_same {gs : List Gt} {bs : List Bool} {k : Nat} (h : bs.getD k false = true) : nT (bs.set k false) < nT bs := nT_strike h

set_option maxHeartbeats 8000000 in
theorem opSilent_any (n : Int) (gv : Value) (a2 : Option Addr) (n2 c2 : Nat) (gs : List Gt) (w : World) (hg : RdR gateE w gv gs) (hl : gs.length ≤ 1000) (hops : ∀ g ∈ gs, ∀ x ∈ opsL g, 0 ≤ x ∧ x < gs.length) (hkd : ∀ g ∈ gs, 1 ≤ g.k ∧ g.k ≤ 5) :
    Calls Tryd.prog 117 #[.agg #[.int .i64 n, gv, .slice a2 n2 c2]] w fun e w' => ∃ a c, e = .returned (.slice a (silL gs).length c) ∧ Sep w' [OR boolE (.slice a (silL gs).length c) (silL gs), KeepA w] := by
  obtain ⟨i0, hi, hz0, hz1, hz2⟩ := info_parts info_bool
  have HI := Lib.hid hi; have HZ0 := Lib.hid hz0; have HZ1 := Lib.hid hz1; have HZ2 := Lib.hid hz2
  clear hi hz0 hz1 hz2
  have HG := Lib.hid hg; have HOPS := Lib.hid hops; have HKD := Lib.hid hkd
  obtain ⟨a, c, rfl⟩ := hg.shape
  generalize hm : gs.length = m at *
  have HM := Lib.hid hm
  clear hg hm hops hkd
  have hs0 := (Sep.start w).box #[.int .i64 n, .slice a m c, .slice a2 n2 c2] 29
  have e1 : (w.alloc (.cells #[.int .i64 n, .slice a m c, .slice a2 n2 c2] 29)).heap.size = w.heap.size + 1 := by simp
  have HE1 := Lib.hid e1
  have HS0 := Lib.hid hs0
  clear hs0 e1
  go_enter Tryd.func117, Tryd.ntmps117
  go_wp2_with (
    at_make
    refine wpList_make_full _ rfl _ _ 133 rfl (w.heap.size + 1) 4 i0 _ 1 Tryd.underlying133 HI.out HZ0.out HZ1.out _ _ _ _ m rfl rfl rfl rfl (by rw [HZ2.out]; omega) (by unfold maxLen; omega) (by rw [HE1.out]; exact Nat.le_refl _) ?_
    intro w1 hown' hgr'
    have hs1 := HS0.out.newR hgr' (OwnR.made (E := boolE) falseCells (by rw [HE1.out]; exact hown'))
    rw [HE1.out] at hs1 ⊢
    obtain ⟨x0, x1, x2, _⟩ := bx3 hs1.tl.hd
    have HS := Lib.hid hs1
    clear hs1 hown' hgr')
  go_loopw [4, 5, 17] (fun _ _ i wr => ∃ k : Nat, k ≤ m ∧ i = .int .i64 k ∧ Sep wr [OR boolE (.slice (some ⟨w.heap.size + 1, 0, none⟩) m m) ((inpM gs).take k ++ List.replicate (m - k) false), BxA w.heap.size #[.int .i64 n, .slice a m c, .slice a2 n2 c2] 29, KeepA w]) (fun _ _ i _ => m - (intOf i).toNat)
  case atStart => exact ⟨0, by omega, rfl, by simpa using HS.out⟩
  case round =>
    obtain ⟨k, hk, rfl, hs⟩ := hrel
    have HSX := Lib.hid hs
    clear hs HS
    have hdl : (inpM gs).length = m := by rw [inp_len]; exact HM.out
    by_cases hlt : k < m
    · have hkg : k < gs.length := by rw [HM.out]; exact hlt
      obtain ⟨b, o, rfl, hb, q0, q1, q2, q3⟩ := gate_at rfl rfl (HG.out.carry HSX.out.tl.tl.hd) hkg
      have HSET := Lib.hid (fillB_set hdl hlt)
      rw [inp_at hkg] at HSET
      have HLL := Lib.hid (show m = ((inpM gs).take k ++ List.replicate (m - k) false).length by rw [List.length_append, List.length_take, List.length_replicate, hdl]; omega)
      generalize gs.getD k g0 = g at *
      generalize (inpM gs).take k ++ List.replicate (m - k) false = bs at *
      have hs1 := HSX.out.box #[.int .i64 g.k, .int .i64 g.a, .int .i64 g.b, .int .i64 g.v] 130
      have hf := bool_free hs1.tl.hd HLL.out k
      have hc := bool_cell hs1.tl.hd HLL.out hlt
      generalize bs.getD k false = q at hc
      have HS1 := Lib.hid hs1.tl
      clear hdl hkg hb hs1
      have HS2 := Lib.hid (HS1.out.setBo HLL.out hlt (g.k != 1))
      rw [show decide (g.k ≠ 1) = (g.k != 1) by rw [Bool.eq_iff_iff]; simp] at HSET
      rw [HSET.out] at HS2
      go_wp2
      go_roundw
      case rel => exact ⟨k + 1, by omega, by go_num, HS2.out⟩
      case measure => simp [intOf]; omega
    · have hkn : k = m := by omega
      subst hkn
      have hs1 := HSX.out
      rw [Nat.sub_self, List.replicate_zero, List.append_nil, List.take_of_length_le (by omega)] at hs1
      have HS1 := Lib.hid hs1
      clear hlt hs1 hdl HSX
      go_wp2_with fail
      go_loopw [6] (fun t6 wr => ∃ (bs : List Bool) (b : Bool), t6 = .bool b ∧ TopB gs bs ∧ NoInp gs bs ∧ (b = false → ClosedB gs bs) ∧ Sep wr [OR boolE (.slice (some ⟨w.heap.size + 1, 0, none⟩) k k) bs, BxA w.heap.size #[.int .i64 n, .slice a k c, .slice a2 n2 c2] 29, KeepA w]) (fun t6 wr => 2 * cntT wr (w.heap.size + 1) k + bN t6)
      case atStart => exact ⟨inpM gs, true, rfl, top_inp gs, noinp_start gs, (by intro h; cases h), HS1.out⟩
      case round =>
        obtain ⟨bs, b, rfl, htop, hno, hcl, hs⟩ := hrel
        have HT := Lib.hid htop; have HNO := Lib.hid hno; have HC := Lib.hid hcl; have HS := Lib.hid hs
        have HBL := Lib.hid (show k = bs.length by rw [htop.1, HM.out])
        have HCN := Lib.hid (cnt_own hs.hd (show k = bs.length by rw [htop.1, HM.out]))
        obtain ⟨y0, y1, y2, _⟩ := bx3 hs.tl.hd
        clear htop hno hcl hs HS1
        cases b with
        | false =>
          go_wp2
          go_ret
          have hsil := sil_eq (gs := gs) (m := bs) ⟨HT.out, HC.out (by simp)⟩
          rw [hsil, ← HBL.out]
          exact ⟨_, _, rfl, HS.out.drop2⟩
        | true =>
          clear HC
          go_wp2_with fail
          go_loopw [6, 7, 8, 9, 33] (fun t6 _ _ _ i wr' => ∃ (j : Nat) (bs' : List Bool) (b' : Bool), j ≤ k ∧ i = .int .i64 j ∧ t6 = .bool b' ∧ TopB gs bs' ∧ NoInp gs bs' ∧ (b' = false → bs' = bs ∧ ∀ i, i < j → bs'.getD i false = true → staysB bs' (gs.getD i g0) = true) ∧ (b' = true → nT bs' < nT bs) ∧ Sep wr' [OR boolE (.slice (some ⟨w.heap.size + 1, 0, none⟩) k k) bs', BxA w.heap.size #[.int .i64 n, .slice a k c, .slice a2 n2 c2] 29, KeepA w]) (fun _ _ _ _ i _ => k - (intOf i).toNat)
          case atStart => exact ⟨0, bs, false, by omega, rfl, rfl, HT.out, HNO.out, fun _ => ⟨rfl, fun i hi => absurd hi (Nat.not_lt_zero _)⟩, (by intro h; cases h), HS.out⟩
          case round =>
            obtain ⟨j, bs', b', hj, rfl, rfl, htop, hno, hcl, hnt, hs⟩ := hrel
            have HT' := Lib.hid htop; have HNO' := Lib.hid hno; have HC' := Lib.hid hcl; have HNT' := Lib.hid hnt
            have HSX := Lib.hid hs
            have HBL' := Lib.hid (show k = bs'.length by rw [htop.1, HM.out])
            clear htop hno hcl hnt hs HT HNO HS y0 y1 y2
            by_cases hlt : j < k
            · have hjg : j < gs.length := by rw [HM.out]; exact hlt
              obtain ⟨b, o, rfl, hb, q0, q1, q2, q3⟩ := gate_at rfl rfl (HG.out.carry HSX.out.tl.tl.hd) hjg
              have hmem := getD_mem3 g0 hjg
              have hop := HOPS.out _ hmem
              obtain ⟨hk1, hk5⟩ := HKD.out _ hmem
              have HNI := Lib.hid (HNO'.out j)
              have HSTR := Lib.hid fun hs => HT'.out.strike hjg hs
              have HGK := Lib.hid (show gs.getD j g0 = gs.getD j g0 from rfl)
              generalize hgk : gs.getD j g0 = g at *
              have HGK := Lib.hid hgk
              have hs1 := HSX.out.box #[.int .i64 g.k, .int .i64 g.a, .int .i64 g.b, .int .i64 g.v] 130
              have hck := bool_cell hs1.tl.hd HBL'.out hlt
              have hcf := bool_free hs1.tl.hd HBL'.out j
              have HCX := Lib.hid fun i (hi : i < k) => bool_cell hs1.tl.hd HBL'.out hi
              have HS1 := Lib.hid hs1.tl
              have HS2 := Lib.hid (hs1.tl.setBo HBL'.out hlt false)
              obtain ⟨gk, ga, gb, gv⟩ := g
              simp only at hk1 hk5 hck q0 q1 q2 q3
              clear hgk hmem hb hjg hs1
              cases hbk : bs'.getD j false with
              | false =>
                rw [hbk] at hck
                have HBK := Lib.hid hbk
                clear hbk HSTR
                go_wp2
                go_roundw
                case rel => exact ⟨j + 1, bs', b', by omega, by go_num, rfl, HT'.out, HNO'.out, fun hb => ⟨(HC'.out hb).1, fun i hi hit => by
                  by_cases e : i = j
                  · subst e; rw [HBK.out] at hit; cases hit
                  · exact (HC'.out hb).2 i (by omega) hit⟩, HNT'.out, HS1.out⟩
                case measure => simp [intOf]; omega
              | true =>
                rw [hbk] at hck
                have HBK := Lib.hid hbk
                have hne1 : gk ≠ 1 := by have := HNI.out hbk; simpa using this
                clear hbk
                by_cases h2 : gk = 2
                · subst h2
                  have HST := Lib.hid (show staysB bs' ⟨2, ga, gb, gv⟩ = true by simp [staysB])
                  clear HSTR
                  go_wp2
                  go_roundw
                  case rel => exact ⟨j + 1, bs', b', by omega, by go_num, rfl, HT'.out, HNO'.out, fun hb => ⟨(HC'.out hb).1, fun i hi hit => by
                    by_cases e : i = j
                    · subst e; rw [HGK.out]; exact HST.out
                    · exact (HC'.out hb).2 i (by omega) hit⟩, HNT'.out, HS1.out⟩
                  case measure => simp [intOf]; omega
                by_cases h4 : gk = 4
                · subst h4
                  by_cases hz : gv = 0
                  · subst hz
                    have HST := Lib.hid (show staysB bs' ⟨4, ga, gb, 0⟩ = true by simp [staysB])
                    clear HSTR
                    go_wp2
                    go_roundw
                    case rel => exact ⟨j + 1, bs', b', by omega, by go_num, rfl, HT'.out, HNO'.out, fun hb => ⟨(HC'.out hb).1, fun i hi hit => by
                      by_cases e : i = j
                      · subst e; rw [HGK.out]; exact HST.out
                      · exact (HC'.out hb).2 i (by omega) hit⟩, HNT'.out, HS1.out⟩
                    case measure => simp [intOf]; omega
                  obtain ⟨a0, a1⟩ := hop ga (by simp [opsL])
                  obtain ⟨na, rfl⟩ := Int.eq_ofNat_of_zero_le a0
                  have hla : na < k := by omega
                  have hca := HCX.out na hla
                  have hval : staysB bs' ⟨4, na, gb, gv⟩ = bs'.getD na false := by simp [staysB, hz]
                  cases hxa : bs'.getD na false with
                  | false =>
                    rw [hxa] at hca hval
                    have hsb := hval
                    clear hval hxa
                    have HTS := Lib.hid (HSTR.out (show staysB bs' _ = false from hsb))
                    clear hsb
                    go_wp2
                    go_roundw
                    case rel => exact ⟨j + 1, bs'.set j false, true, by omega, by go_num, rfl, HTS.out, HNO'.out.strike j, (by intro h; cases h), fun _ => by
                      have h1 := nT_strike HBK.out
                      cases b' with
                      | false => have h2 := (HC'.out rfl).1; rw [h2] at h1; rw [h2]; exact h1
                      | true => exact Nat.lt_trans h1 (HNT'.out rfl), HS2.out⟩
                    case measure => simp [intOf]; omega
                  | true =>
                    rw [hxa] at hca hval
                    have HST := Lib.hid hval
                    clear HSTR hval hxa
                    go_wp2
                    go_roundw
                    case rel => exact ⟨j + 1, bs', b', by omega, by go_num, rfl, HT'.out, HNO'.out, fun hb => ⟨(HC'.out hb).1, fun i hi hit => by
                      by_cases e : i = j
                      · subst e; rw [HGK.out]; exact HST.out
                      · exact (HC'.out hb).2 i (by omega) hit⟩, HNT'.out, HS1.out⟩
                    case measure => simp [intOf]; omega
                by_cases h5 : gk = 5
                · subst h5
                  obtain ⟨a0, a1⟩ := hop ga (by simp [opsL])
                  obtain ⟨na, rfl⟩ := Int.eq_ofNat_of_zero_le a0
                  have hla : na < k := by omega
                  have hca := HCX.out na hla
                  have hval : staysB bs' ⟨5, na, gb, gv⟩ = bs'.getD na false := by simp [staysB]
                  cases hxa : bs'.getD na false with
                  | false =>
                    rw [hxa] at hca hval
                    have hsb := hval
                    clear hval hxa
                    have HTS := Lib.hid (HSTR.out (show staysB bs' _ = false from hsb))
                    clear hsb
                    go_wp2
                    go_roundw
                    case rel => exact ⟨j + 1, bs'.set j false, true, by omega, by go_num, rfl, HTS.out, HNO'.out.strike j, (by intro h; cases h), fun _ => by
                      have h1 := nT_strike HBK.out
                      cases b' with
                      | false => have h2 := (HC'.out rfl).1; rw [h2] at h1; rw [h2]; exact h1
                      | true => exact Nat.lt_trans h1 (HNT'.out rfl), HS2.out⟩
                    case measure => simp [intOf]; omega
                  | true =>
                    rw [hxa] at hca hval
                    have HST := Lib.hid hval
                    clear HSTR hval hxa
                    go_wp2
                    go_roundw
                    case rel => exact ⟨j + 1, bs', b', by omega, by go_num, rfl, HT'.out, HNO'.out, fun hb => ⟨(HC'.out hb).1, fun i hi hit => by
                      by_cases e : i = j
                      · subst e; rw [HGK.out]; exact HST.out
                      · exact (HC'.out hb).2 i (by omega) hit⟩, HNT'.out, HS1.out⟩
                    case measure => simp [intOf]; omega
                have h3 : gk = 3 := by omega
                subst h3
                obtain ⟨a0, a1⟩ := hop ga (by simp [opsL])
                obtain ⟨na, rfl⟩ := Int.eq_ofNat_of_zero_le a0
                have hla : na < k := by omega
                have hca := HCX.out na hla
                obtain ⟨b0, b1⟩ := hop gb (by simp [opsL])
                obtain ⟨nb, rfl⟩ := Int.eq_ofNat_of_zero_le b0
                have hlb : nb < k := by omega
                have hcb := HCX.out nb hlb
                have hval : staysB bs' ⟨3, na, nb, gv⟩ = (bs'.getD na false && bs'.getD nb false) := by simp [staysB]
                cases hxa : bs'.getD na false with
                | false =>
                  rw [hxa] at hca hval
                  rw [Bool.false_and] at hval
                  generalize bs'.getD nb false = yb at *
                  have hsb := hval
                  clear hval hxa
                  have HTS := Lib.hid (HSTR.out (show staysB bs' _ = false from hsb))
                  clear hsb
                  go_wp2
                  go_roundw
                  case rel => exact ⟨j + 1, bs'.set j false, true, by omega, by go_num, rfl, HTS.out, HNO'.out.strike j, (by intro h; cases h), fun _ => by
                    have h1 := nT_strike HBK.out
                    cases b' with
                    | false => have h2 := (HC'.out rfl).1; rw [h2] at h1; rw [h2]; exact h1
                    | true => exact Nat.lt_trans h1 (HNT'.out rfl), HS2.out⟩
                  case measure => simp [intOf]; omega
                | true =>
                  cases hxb : bs'.getD nb false with
                  | false =>
                    rw [hxa] at hca hval
                    rw [hxb] at hcb hval
                    rw [Bool.true_and] at hval
                    have hsb := hval
                    clear hval hxa hxb
                    have HTS := Lib.hid (HSTR.out (show staysB bs' _ = false from hsb))
                    clear hsb
                    go_wp2
                    go_roundw
                    case rel => exact ⟨j + 1, bs'.set j false, true, by omega, by go_num, rfl, HTS.out, HNO'.out.strike j, (by intro h; cases h), fun _ => by
                      have h1 := nT_strike HBK.out
                      cases b' with
                      | false => have h2 := (HC'.out rfl).1; rw [h2] at h1; rw [h2]; exact h1
                      | true => exact Nat.lt_trans h1 (HNT'.out rfl), HS2.out⟩
                    case measure => simp [intOf]; omega
                  | true =>
                    rw [hxa] at hca hval
                    rw [hxb] at hcb hval
                    rw [Bool.true_and] at hval
                    have HST := Lib.hid hval
                    clear HSTR hval hxa hxb
                    go_wp2
                    go_roundw
                    case rel => exact ⟨j + 1, bs', b', by omega, by go_num, rfl, HT'.out, HNO'.out, fun hb => ⟨(HC'.out hb).1, fun i hi hit => by
                      by_cases e : i = j
                      · subst e; rw [HGK.out]; exact HST.out
                      · exact (HC'.out hb).2 i (by omega) hit⟩, HNT'.out, HS1.out⟩
                    case measure => simp [intOf]; omega
            · have hjk : j = k := by omega
              subst hjk
              have HCE := Lib.hid (cnt_own HSX.out.hd HBL'.out)
              clear hlt
              go_wp2
              go_roundw
              case rel => exact ⟨bs', b', rfl, HT'.out, HNO'.out, fun hb i hi => (HC'.out hb).2 i (by have := getD_lt hi; rw [HBL'.out]; exact this) hi, HSX.out⟩
              case measure =>
                rw [HCE.out, HCN.out]
                cases b' with
                | false => rw [(HC'.out rfl).1]; simp [bN]
                | true => have := HNT'.out rfl; simp [bN]; omega
end Go.Proofs.YtkamcgonacmieaaDoor

/-
  Copies in the reference: lists, circuits. Conditions: lengths are small; there is a gate.
-/
namespace Go.Proofs.YtkamcgonacmieaaDoor
open Go.RowKit
set_option linter.unusedVariables false
set_option maxRecDepth 100000

theorem l1Own_any (u : Value) (ys : List Int) (w : World) (hu : IntsV w u ys) (hl : ys.length ≤ 1000000) :
    Calls Tryd.prog 152 #[u] w fun e w' => ∃ a c, e = .returned (.slice a ys.length c) ∧ Sep w' [OI (.slice a ys.length c) ys, KeepA w] := by
  have HU := Lib.hid hu
  obtain ⟨ua, ucap, rfl, hx⟩ := hu
  clear hx
  go_enter Tryd.func152, Tryd.ntmps152
  go_wp2_with (
    at_builtin
    go_loud (refine app_ints rfl (.tmp 3) (.tmp 4) rfl rfl rfl (HU.out.carry (grownBy_alloc _ _ _)) (OwnInts.empty (Nat.le_refl _) rfl) (by simp) (by simp; omega) ?_)
    intro v' w' ho hb
    rw [List.nil_append] at ho
    obtain ⟨a', c', rfl⟩ := own_shape ho
    have HS := Lib.hid ((Sep.start w).newI (grown_of_below (((Below.refl _ _).alloc (Nat.le_refl _) _).trans hb)) ho)
    clear ho hb)
  go_ret
  exact ⟨_, _, rfl, HS.out⟩
section
variable {α : Type} {E : Lay α} {ops : Array Oper} {o : Oper} {a : Act} {Q : Exit → Act → World → Prop} {K : Act → World → Prop} {Ex : Prop} {w : World} {v : Value} {xs ys : List α} {l : List Asrt} {t : TypeId} {z : Value} {bytes : Nat}
theorem rd_news {d : Addr} {n c : Nat} (h : RdR E w (.slice (some d) n c) ys) : ∀ j u, (ys.flatMap E.cs)[j]? = some u → w.cell? (d.add j) = some u := by
  intro j u hj
  have hjy : j < ys.length * E.sz := by
    rcases Nat.lt_or_ge j (ys.length * E.sz) with h | h
    · exact h
    · rw [List.getElem?_eq_none (by rw [flat_len]; exact h)] at hj; cases hj
  have h1 : j / E.sz < ys.length := Nat.div_lt_of_lt_mul (by rw [Nat.mul_comm]; exact hjy)
  have h2 : j % E.sz < E.sz := Nat.mod_lt _ E.pos
  obtain ⟨b, o', ha, hb, hc⟩ := h.at h1
  injection ha with ha
  subst ha
  have h3 := hc (j % E.sz) h2
  have h4 := flat_at E ys h1 h2
  rw [show j / E.sz * E.sz + j % E.sz = j by rw [Nat.mul_comm]; exact Nat.div_add_mod _ _] at h4
  rw [← h4, hj, show o' + j / E.sz * E.sz + j % E.sz = o' + j by rw [Nat.add_assoc, Nat.mul_comm, Nat.div_add_mod]] at h3
  unfold Addr.add
  split
  · next h0 => subst h0; simpa using h3
  · exact h3
/-- 'append(out, ys...)' as a step of a region that draws: out the call's own, ys readable and not empty. -/
theorem step_app_GG (hinfo : (Tryd.prog.info? E.ty).map (fun i => (i.zero, i.size, i.bytes)) = some (some z, E.sz, bytes)) (hzs : z.cells.size = E.sz) (hby : bytes ≤ 10000) (ht : Tryd.prog.underlying t = some (.slice E.ty)) (hone : ∀ y : α, ∀ u ∈ E.cs y, u.oneCell' = true)
    (hgd : o.guard = none) (s x : Operand) (ho : o.op = .call { callee := .builtin .append, args := #[s, x], argTypes := #[t, t] })
    {d : Addr} {n c : Nat} (hs : a.eval s = v) (hx : a.eval x = .slice (some d) n c) (H : Sep w (OR E v xs :: l)) (hu : RdR E w (.slice (some d) n c) ys) (hn : n = ys.length) (hy : 0 < ys.length) (hl : xs.length + ys.length ≤ 10000000)
    (h : ∀ g cap w', Sep w' (OR E (.slice (some ⟨g, 0, none⟩) (xs.length + n) cap) (xs ++ ys) :: l) → K (a.put o.dst (.slice (some ⟨g, 0, none⟩) (xs.length + n) cap)) w') :
    if Region.wanted o (yielded ops a.tmps) = true then Oper.wp Tryd.prog o a w K Q else Ex := by
  subst hn
  rw [if_pos (by simp [Region.wanted, hgd])]
  obtain ⟨i0, hi, hz0, hz1, hz2⟩ := info_parts hinfo
  have hb : (xs.length + ys.length) * bytes ≤ 140737488355328 := Nat.le_trans (Nat.mul_le_mul hl hby) (by decide)
  refine wp_append_lies (P := Tryd.prog) _ s x t ho 0 E.ty i0 z E.sz bytes ht hi hz0 hz1 hz2 hzs E.pos v xs.length (xs.flatMap E.cs) hs H.hd
    d ys.length c (ys.flatMap E.cs) hx (flat_len E ys) (rd_news hu) (fun u hu => by obtain ⟨y, _, hy⟩ := List.mem_flatMap.1 hu; exact hone y u hy) hy (by unfold maxLen; omega) hb (Nat.zero_le _) _ rfl ?_
  intro g cap w1 hown' hgrow hg _
  have ho' : OwnR E 0 w1 (.slice (some ⟨g, 0, none⟩) (xs.length + ys.length) cap) (xs ++ ys) := by
    unfold OwnR
    rw [List.length_append, List.flatMap_append]
    exact hown'
  refine h g cap w1 (H.upd' (Only.of_grown (S := Hits v) hgrow fun k hk => hk) ho' fun k hk => ?_)
  have : g = k := by simpa [OR, Hits, Value.ownBlock] using hk
  subst this
  exact hg.imp id (fun h => Nat.le_of_eq h.symm)
end
theorem Sep.emptyR {α : Type} {w : World} {l : List Asrt} (E : Lay α) (h : Sep w l) (b : Nat) (hb : b = w.heap.size) : Sep (w.alloc (.cells #[] E.ty)) (OR E (.slice (some ⟨b, 0, none⟩) 0 0) [] :: l) := by
  subst hb
  refine h.new (grownBy_alloc _ _ none) (OwnR.empty E (Nat.zero_le _) rfl) fun k hk => ?_
  have : w.heap.size = k := by simpa [OR, Hits, Value.ownBlock] using hk
  omega
set_option maxHeartbeats 8000000 in
theorem opOwn_any (n : Int) (d : Addr) (c : Nat) (ov : Value) (gs : List Gt) (os : List Int) (w : World) (hg : RdR gateE w (.slice (some d) gs.length c) gs) (ho : IntsV w ov os) (l0 : 0 < gs.length) (l1 : gs.length ≤ 1000000) (l2 : os.length ≤ 1000000) :
    Calls Tryd.prog 116 #[.agg #[.int .i64 n, .slice (some d) gs.length c, ov]] w fun e w' => ∃ a1 c1 a2 c2, e = .returned (cirV n (.slice a1 gs.length c1) (.slice a2 os.length c2)) ∧
      Sep w' [OR gateE (.slice a1 gs.length c1) gs, OI (.slice a2 os.length c2) os, KeepA w] := by
  have HCI := Lib.hid fun W (h : w.grownBy W none) => l1Own_any ov os W (ho.carry h) l2
  have HRD := Lib.hid fun W (h : w.grownBy W none) => hg.carry h
  obtain ⟨oa, oc, rfl⟩ := ho.shape
  have L0 := Lib.hid l0; have L1 := Lib.hid l1
  clear hg ho l0 l1
  generalize hm : gs.length = m at *
  have HM := Lib.hid hm
  generalize os.length = m2 at *
  clear hm
  have hs0 := ((Sep.start w).box #[.int .i64 n, .slice (some d) m c, .slice oa m2 oc] 29).box #[.int .i64 0, .slice none 0 0, .slice none 0 0] 29
  have e1 : (w.alloc (.cells #[.int .i64 n, .slice (some d) m c, .slice oa m2 oc] 29)).heap.size = w.heap.size + 1 := by simp
  rw [e1] at hs0
  have HS0 := Lib.hid hs0
  clear hs0 e1
  go_enter Tryd.func116, Tryd.ntmps116
  go_upto_region 1 with fail
  have hs1 := HS0.out
  clear HS0
  generalize (w.alloc (.cells #[.int .i64 n, .slice (some d) m c, .slice oa m2 oc] 29)).alloc (.cells #[.int .i64 0, .slice none 0 0, .slice none 0 0] 29) = W0 at *
  have HS1 := Lib.hid hs1.dr
  have HK1 := Lib.hid (show w.grownBy W0.drew none from hs1.dr.tl.tl.hd)
  have HS1b := Lib.hid (hs1.emptyR gateE _ rfl).dr
  have HK1b := Lib.hid (show w.grownBy (W0.alloc (.cells #[] gateE.ty)).drew none from HS1b.out.tl.tl.tl.hd)
  obtain ⟨x0, x1, x2, x3, x4, x5⟩ := bx3 hs1.dr.tl.hd
  obtain ⟨y0, y1, y2, y3, y4, y5⟩ := bx3 hs1.dr.hd
  have z0 := fun ob => (bx3 (hs1.al ob).dr.tl.hd).1
  have z1 := fun ob => (bx3 (hs1.al ob).dr.tl.hd).2.1
  have z2 := fun ob => (bx3 (hs1.al ob).dr.tl.hd).2.2.1
  clear hs1
  go_region_law (first
    | (refine step_app_GG (E := gateE) info_gate rfl (by decide) Tryd.underlying27 gate_one rfl (.tmp 5) (.tmp 7) rfl rfl rfl HS1b.out (HRD.out _ HK1b.out) HM.out.symm (by rw [HM.out]; exact L0.out) (by have := L1.out; rw [HM.out]; simp; omega) ?_
       intro g cg w3 h
       simp only [List.length_nil, List.nil_append, Nat.zero_add] at h ⊢
       have HS3 := Lib.hid h
       have HK3 := Lib.hid (show w.grownBy w3 none from h.tl.tl.tl.hd)
       obtain ⟨p30, p31, p32, p33, p34, p35⟩ := bx3 h.tl.tl.hd
       obtain ⟨q30, q31, q32, q33, q34, q35⟩ := bx3 h.tl.hd
       clear h)
    | (try go_simp
       go_at_call 152
       with_reducible refine (HCI.out _ HK3.out).mono ?_
       rintro e w4 ⟨a2, c2, rfl, hsg⟩
       have hs4 := HS3.out.graft1 hsg OI_own
       obtain ⟨p40, p41, p42, p43, p44, p45⟩ := bx3 hs4.tl.tl.tl.hd
       obtain ⟨q40, q41, q42, q43, q44, q45⟩ := bx3 hs4.tl.tl.hd
       have hs9 := ((hs4.s3.setB 0 (.int .i64 n)).setB 1 (.slice (some ⟨g, 0, none⟩) m cg)).setB 2 (.slice a2 m2 c2)
       obtain ⟨t0, t1, t2, _⟩ := bx3 hs9.hd
       have HSF := Lib.hid (hs9.tl.s2.under (fun h => h.under (fun h => h.tl) (by simp +contextual)) (by simp +contextual))
       clear hsg)
    | (try go_simp
       go_at_call 152
       with_reducible refine (HCI.out _ HK1b.out).mono ?_
       rintro e w5 ⟨a2, c2, rfl, hsg⟩
       have hs5 := (HS1b.out.graft1 hsg OI_own).s2
       have HS5 := Lib.hid hs5
       have HK5 := Lib.hid (show w.grownBy w5 none from hs5.tl.tl.tl.tl.hd)
       obtain ⟨p50, p51, p52, p53, p54, p55⟩ := bx3 hs5.tl.tl.tl.hd
       obtain ⟨q50, q51, q52, q53, q54, q55⟩ := bx3 hs5.tl.tl.hd
       clear hsg)
    | (refine step_app_GG (E := gateE) info_gate rfl (by decide) Tryd.underlying27 gate_one rfl (.tmp 5) (.tmp 7) rfl rfl rfl HS5.out (HRD.out _ HK5.out) HM.out.symm (by rw [HM.out]; exact L0.out) (by have := L1.out; rw [HM.out]; simp; omega) ?_
       intro g cg w6 h
       simp only [List.length_nil, List.nil_append, Nat.zero_add] at h ⊢
       obtain ⟨p60, p61, p62, p63, p64, p65⟩ := bx3 h.tl.tl.tl.hd
       obtain ⟨q60, q61, q62, q63, q64, q65⟩ := bx3 h.tl.tl.hd
       have hs9 := ((h.s3.setB 0 (.int .i64 n)).setB 1 (.slice (some ⟨g, 0, none⟩) m cg)).setB 2 (.slice a2 m2 c2)
       obtain ⟨t0, t1, t2, _⟩ := bx3 hs9.hd
       have HSF := Lib.hid (hs9.tl.under (fun h => h.under (fun h => h.tl) (by simp +contextual)) (by simp +contextual))
       clear h)
    | (try go_simp
       go_at_call 152
       with_reducible refine (HCI.out _ HK1.out).mono ?_
       rintro e w7 ⟨a2, c2, rfl, hsg⟩
       have hs7 := HS1.out.graft1 hsg OI_own
       have HS7 := Lib.hid (hs7.emptyR gateE _ rfl)
       have HK7 := Lib.hid (show w.grownBy _ none from HS7.out.tl.tl.tl.tl.hd)
       obtain ⟨p70, p71, p72, p73, p74, p75⟩ := bx3 hs7.tl.tl.hd
       obtain ⟨q70, q71, q72, q73, q74, q75⟩ := bx3 hs7.tl.hd
       obtain ⟨p80, p81, p82, p83, p84, p85⟩ := bx3 HS7.out.tl.tl.tl.hd
       obtain ⟨q80, q81, q82, q83, q84, q85⟩ := bx3 HS7.out.tl.tl.hd
       clear hsg)
    | (refine step_app_GG (E := gateE) info_gate rfl (by decide) Tryd.underlying27 gate_one rfl (.tmp 5) (.tmp 7) rfl rfl rfl HS7.out (HRD.out _ HK7.out) HM.out.symm (by rw [HM.out]; exact L0.out) (by have := L1.out; rw [HM.out]; simp; omega) ?_
       intro g cg w8 h
       simp only [List.length_nil, List.nil_append, Nat.zero_add] at h ⊢
       obtain ⟨p90, p91, p92, p93, p94, p95⟩ := bx3 h.tl.tl.tl.hd
       obtain ⟨q90, q91, q92, q93, q94, q95⟩ := bx3 h.tl.tl.hd
       have hs9 := ((h.s3.setB 0 (.int .i64 n)).setB 1 (.slice (some ⟨g, 0, none⟩) m cg)).setB 2 (.slice a2 m2 c2)
       obtain ⟨t0, t1, t2, _⟩ := bx3 hs9.hd
       have HSF := Lib.hid (hs9.tl.under (fun h => h.under (fun h => h.tl) (by simp +contextual)) (by simp +contextual))
       clear h))
  all_goals
    go_wp2_with fail
    refine bodyPost_ret_by (v := .agg #[.int .i64 n, .slice (some ⟨g, 0, none⟩) m cg, .slice a2 m2 c2]) ?_ rfl ⟨_, cg, a2, c2, rfl, HSF.out⟩
    simp [results, go_sem, *]
end Go.Proofs.YtkamcgonacmieaaDoor

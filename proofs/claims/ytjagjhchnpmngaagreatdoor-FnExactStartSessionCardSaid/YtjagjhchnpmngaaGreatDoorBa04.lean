/-
  Is it a graph: the visiting function that marks wires; the program's isGraph. Conditions: lengths are small.
-/
import Derived.Test.YtjagjhchnpmngaaGreatDoorBa03
import Derived.Test.YtjagjhchnpmngaaGreatDoorBa00
import Derived.Test.YtjagjhchnpmngaaGreatDoorBa02
namespace Go.Proofs.YtjagjhchnpmngaaGreatDoor
open Go.RowKit
set_option linter.unusedVariables false
set_option maxRecDepth 100000

/-- Which wires have been seen, and how many; was each in range? -/
def seenL (n : Nat) (P : List Int) : List Bool := (List.range n).map fun w : Nat => decide ((w : Int) ∈ P)
def cntS (n : Nat) (P : List Int) : Nat := (List.range n).countP fun w : Nat => decide ((w : Int) ∈ P)
theorem seen_len (n : Nat) (P : List Int) : (seenL n P).length = n := by simp [seenL]
theorem seen_at {n : Nat} {P : List Int} {j : Nat} (h : j < n) : (seenL n P).getD j false = decide ((j : Int) ∈ P) := by
  unfold seenL
  rw [List.getD_eq_getElem?_getD, List.getElem?_map, List.getElem?_range h]
  rfl
theorem seen_out {n : Nat} {P : List Int} {x : Int} (h : ¬ (0 ≤ x ∧ x < n)) : seenL n (P ++ [x]) = seenL n P ∧ cntS n (P ++ [x]) = cntS n P := by
  have key : ∀ w : Nat, w < n → (decide ((w : Int) ∈ P ++ [x])) = decide ((w : Int) ∈ P) := by
    intro w hw
    have : ¬ (w : Int) = x := by omega
    simp [this]
  constructor
  · unfold seenL
    exact List.map_congr_left fun w hw => key w (List.mem_range.1 hw)
  · unfold cntS
    exact List.countP_congr fun w hw => by rw [key w (List.mem_range.1 hw)]
theorem seen_old {n : Nat} {P : List Int} {x : Int} (h : x ∈ P) : seenL n (P ++ [x]) = seenL n P ∧ cntS n (P ++ [x]) = cntS n P := by
  have key : ∀ w : Nat, (decide ((w : Int) ∈ P ++ [x])) = decide ((w : Int) ∈ P) := by
    intro w
    by_cases hw : (w : Int) ∈ P
    · simp [hw]
    · have : ¬ (w : Int) = x := fun e => hw (by rw [e]; exact h)
      simp [this]
  constructor
  · unfold seenL
    exact List.map_congr_left fun w hw => key w
  · unfold cntS
    exact List.countP_congr fun w hw => by rw [key w]
theorem seen_new {n j : Nat} {P : List Int} (hj : j < n) (h : ¬ (j : Int) ∈ P) : seenL n (P ++ [(j : Int)]) = (seenL n P).set j true ∧ cntS n (P ++ [(j : Int)]) = cntS n P + 1 := by
  have hs : seenL n (P ++ [(j : Int)]) = (seenL n P).set j true := by
    apply List.ext_getElem (by simp [seenL])
    intro i h1 h2
    rw [List.getElem_set]
    unfold seenL
    simp only [List.getElem_map, List.getElem_range]
    by_cases e : j = i
    · subst e; simp
    · rw [if_neg e]
      have : ¬ (i : Int) = j := by omega
      simp [this]
  refine ⟨hs, ?_⟩
  have e1 : ∀ Q, cntS n Q = nT (seenL n Q) := by
    intro Q
    unfold cntS nT seenL
    rw [List.countP_map]
    rfl
  rw [e1, e1, hs]
  have hl : j < (seenL n P).length := by rw [seen_len]; exact hj
  exact nT_mark hl (by rw [seen_at hj]; exact decide_eq_false h)
theorem rng_snoc {n : Int} {P : List Int} {x : Int} : rngB n (P ++ [x]) = (rngB n P && inB x 0 (n - 1)) := by unfold rngB; simp
theorem bx1' {w : World} {k : Nat} {x : Value} {t : TypeId} (h : w.heap[k]? = some (.cells #[x] t (0, 0))) : w.cell? ⟨k, 0, none⟩ = some x ∧ w.frozen? ⟨k, 0, none⟩ = false :=
  ⟨cell_of_row w k 0 _ _ _ h, frozen_of_row w k 0 _ _ h⟩
/-- What the checks of a graph hold behind the wires P. -/
def SeenA (m gb sb sa gd cb : Nat) (ev iv ov : Value) (P : List Int) : List Asrt :=
  [BxA gb #[.int .i64 m, ev, iv, ov] 30, BxA sb #[.slice (some ⟨sa, 0, none⟩) m m] 109, OR boolE (.slice (some ⟨sa, 0, none⟩) m m) (seenL m P), BxA gd #[.bool (rngB m P)] 4, BxA cb #[.int .i64 (cntS m P)] 3]
set_option maxHeartbeats 4000000 in
theorem isGraph1_fn (m gb sb sa gd cb : Nat) (ev iv ov : Value) (hm : m ≤ 100) :
    VisFn 80 #[.pointer (some ⟨gb, 0, none⟩), .pointer (some ⟨gd, 0, none⟩), .pointer (some ⟨sb, 0, none⟩), .pointer (some ⟨cb, 0, none⟩)] (fun P => Bag (SeenA m gb sb sa gd cb ev iv ov P)) := by
  intro P xs v w0 W l hs hv hl
  have hs0 := Sep.unbag hs
  have HS0 := Lib.hid hs0
  have HV := Lib.hid hv
  obtain ⟨a, c, rfl⟩ := hv.shape
  clear hs hs0 hv
  generalize hlen : xs.length = n at *
  have HN := Lib.hid hlen
  clear hlen
  go_enter Tryz.func80, Tryz.ntmps80
  go_wp2_with fail
  go_loopw [7, 10] (fun _ i wr => ∃ k : Nat, k ≤ n ∧ i = .int .i64 k ∧ Sep wr (SeenA m gb sb sa gd cb ev iv ov (P ++ xs.take k) ++ KeepA w0 :: l)) (fun _ i _ => n - (intOf i).toNat)
  case atStart => exact ⟨0, by omega, rfl, by simpa using HS0.out⟩
  case round =>
    obtain ⟨k, hk, rfl, hs⟩ := hrel
    have HSX := Lib.hid hs
    clear hs HS0
    by_cases hlt : k < n
    · have hkx : k < xs.length := by rw [HN.out]; exact hlt
      obtain ⟨b, o, rfl⟩ := IntsV.addr HV.out (by omega)
      have hkeep : w0.grownBy wr none := HSX.out.tl.tl.tl.tl.tl.hd
      have hc0 := (HV.out.carry hkeep).cellN hkx
      have htk : xs.take (k + 1) = xs.take k ++ [xs.getD k 0] := by rw [List.take_succ_eq_append_getElem hkx, List.getD_eq_getElem?_getD, List.getElem?_eq_getElem hkx]; rfl
      have HTK := Lib.hid (show P ++ xs.take (k + 1) = (P ++ xs.take k) ++ [xs.getD k 0] by rw [htk, List.append_assoc])
      generalize P ++ xs.take k = Q at *
      obtain ⟨Q', hQ'⟩ : ∃ Q', Q' = P ++ xs.take (k + 1) := ⟨_, rfl⟩
      rw [← hQ'] at HTK
      have HQP := Lib.hid hQ'
      clear hQ'
      generalize xs.getD k 0 = x at *
      have HW := Lib.hid fun W => within_any x 0 ((m : Int) - 1) W
      have hS : Sep wr (BxA gb #[.int .i64 m, ev, iv, ov] 30 :: BxA sb #[.slice (some ⟨sa, 0, none⟩) m m] 109 :: OR boolE (.slice (some ⟨sa, 0, none⟩) m m) (seenL m Q) :: BxA gd #[.bool (rngB m Q)] 4 :: BxA cb #[.int .i64 (cntS m Q)] 3 :: KeepA w0 :: l) := HSX.out
      obtain ⟨x0, _⟩ := bq4 hS.hd
      obtain ⟨s0, sf⟩ := bx1' hS.tl.hd
      obtain ⟨g0', gf⟩ := bx1' hS.tl.tl.tl.hd
      obtain ⟨c0', cf⟩ := bx1' hS.tl.tl.tl.tl.hd
      have HS := Lib.hid hS
      have hwr : IntKind.i64.wrap ((m : Int) - 1) = (m : Int) - 1 := by rw [IntKind.wrap_i64]; omega
      clear hkx hkeep htk HSX
      by_cases hin : 0 ≤ x ∧ x ≤ (m : Int) - 1
      · rw [decide_eq_true hin] at HW
        obtain ⟨j, rfl⟩ := Int.eq_ofNat_of_zero_le hin.1
        have hjm : j < m := by omega
        have hrg : rngB m Q' = rngB m Q := by rw [HTK.out, rng_snoc, show inB (j : Int) 0 ((m : Int) - 1) = true from decide_eq_true hin, Bool.and_true]
        have hsc := bool_cell hS.tl.tl.hd (seen_len m Q).symm hjm
        have hsf := bool_free hS.tl.tl.hd (seen_len m Q).symm j
        rw [seen_at hjm] at hsc
        by_cases hold : (j : Int) ∈ Q
        · rw [decide_eq_true hold] at hsc
          have hso := seen_old (n := m) hold
          have HF := Lib.hid (show Sep wr (SeenA m gb sb sa gd cb ev iv ov Q' ++ KeepA w0 :: l) by
            unfold SeenA
            rw [hrg, HTK.out, hso.1, hso.2]
            exact HS.out)
          clear hrg hso hold hS hin
          go_wp2_with (go_at_call 77; with_reducible refine (HW.out _).mono ?_; rintro e w3 ⟨rfl, rfl⟩)
          go_roundw
          case rel => exact ⟨k + 1, by omega, by go_num, by rw [← HQP.out]; exact HF.out⟩
          case measure => simp [intOf]; omega
        · rw [decide_eq_false hold] at hsc
          have hsn := seen_new hjm hold
          have h1 := hS.s3.setBo (seen_len m Q).symm hjm true
          have h2 := (h1.s5).setB 0 (.int .i64 (cntS m Q + 1 : Nat))
          have hcm : cntS m Q ≤ m := by
            have := List.countP_le_length (l := List.range m) (p := fun w : Nat => decide ((w : Int) ∈ Q))
            simpa [cntS] using this
          obtain ⟨c1', cf'⟩ := bx1' h1.s5.hd
          obtain ⟨t0, _⟩ := bq4 h1.tl.hd
          have HF : Hid (Sep ((wr.setCell ⟨sa, j, none⟩ (.bool true)).setCell ⟨cb, 0, none⟩ (.int .i64 (cntS m Q + 1 : Nat))) (SeenA m gb sb sa gd cb ev iv ov Q' ++ KeepA w0 :: l)) := Lib.hid (by
            unfold SeenA
            rw [hrg, HTK.out, hsn.1, hsn.2]
            exact h2.s5.s3.s5.s5)
          have hwc : wrap64 ((cntS m Q : Int) + 1) = ((cntS m Q + 1 : Nat) : Int) := by rw [wrap64_id (by omega) (by omega)]; omega
          clear hrg hsn hold hS hin h1 h2 hcm
          generalize cntS m Q + 1 = cn at *
          generalize cntS m Q = co at *
          go_wp2_with (go_at_call 77; with_reducible refine (HW.out _).mono ?_; rintro e w3 ⟨rfl, rfl⟩)
          go_roundw
          case rel => exact ⟨k + 1, by omega, by go_num, by rw [← HQP.out]; exact HF.out⟩
          case measure => simp [intOf]; omega
      · rw [decide_eq_false hin] at HW
        have hrg : rngB m Q' = false := by rw [HTK.out, rng_snoc, show inB x 0 ((m : Int) - 1) = false from decide_eq_false hin, Bool.and_false]
        have hso := seen_out (n := m) (P := Q) (x := x) (by omega)
        have h1 := hS.s4.setB 0 (.bool false)
        have HF : Hid (Sep (wr.setCell ⟨gd, 0, none⟩ (.bool false)) (SeenA m gb sb sa gd cb ev iv ov Q' ++ KeepA w0 :: l)) := Lib.hid (by
          unfold SeenA
          rw [hrg, HTK.out, hso.1, hso.2]
          exact h1.s4.s4.s4)
        clear hrg hso hS hin h1
        go_wp2_with (go_at_call 77; with_reducible refine (HW.out _).mono ?_; rintro e w3 ⟨rfl, rfl⟩)
        go_roundw
        case rel => exact ⟨k + 1, by omega, by go_num, by rw [← HQP.out]; exact HF.out⟩
        case measure => simp [intOf]; omega
    · have hkn : k = n := by omega
      subst hkn
      have hs := HSX.out
      rw [List.take_of_length_le (by rw [HN.out]; exact Nat.le_refl _)] at hs
      have HF := Lib.hid (Sep.bag hs)
      clear hs hlt HSX
      go_wp2
      refine bodyPost_end (results_none rfl _ _ _) rfl ?_
      exact ⟨rfl, HF.out⟩
end Go.Proofs.YtjagjhchnpmngaaGreatDoor

/-
  How often each wire of a graph occurs, in the reference. Conditions: wires are in range; lengths are small.
-/
namespace Go.Proofs.YtjagjhchnpmngaaGreatDoor
open Go.RowKit
set_option linter.unusedVariables false
set_option maxRecDepth 100000

/-- How often each of the first m numbers occurs. -/
def cntL (m : Nat) (P : List Int) : List Int := (List.range m).map fun w : Nat => ((P.count (w : Int) : Nat) : Int)
theorem cntL_len (m : Nat) (P : List Int) : (cntL m P).length = m := by simp [cntL]
theorem cntL_nil (m : Nat) : cntL m [] = List.replicate m 0 := by
  apply List.ext_getElem (by simp [cntL])
  intro i h1 h2
  simp [cntL]
theorem cntL_at {m : Nat} {P : List Int} {j : Nat} (h : j < m) : (cntL m P).getD j 0 = ((P.count (j : Int) : Nat) : Int) := by
  unfold cntL
  rw [List.getD_eq_getElem?_getD, List.getElem?_map, List.getElem?_range h]
  rfl
theorem cntL_snoc {m : Nat} {P : List Int} {j : Nat} (h : j < m) : cntL m (P ++ [(j : Int)]) = (cntL m P).set j (((P.count (j : Int) : Nat) : Int) + 1) := by
  apply List.ext_getElem (by simp [cntL])
  intro i h1 h2
  rw [List.getElem_set]
  unfold cntL
  simp only [List.getElem_map, List.getElem_range, List.count_append]
  by_cases e : j = i
  · subst e
    simp
  · rw [if_neg e]
    have : ¬ (j : Int) = i := by omega
    simp [this]
/-- One more wire counted: what the walk asks for. -/
theorem cntL_step {w : World} {fb m : Nat} {P : List Int} {l : List Asrt} {j : Nat} (h : Sep w (OI (.slice (some ⟨fb, 0, none⟩) m m) (cntL m P) :: l)) (hj : j < m) (hP : P.length ≤ 10000000) :
    ∃ c : Int, w.cell? ⟨fb, j, none⟩ = some (.int .i64 c) ∧ w.frozen? ⟨fb, j, none⟩ = false ∧ IntKind.i64.wrap (c + 1) = c + 1 ∧ wrap64 (c + 1) = c + 1 ∧ Sep (w.setCell ⟨fb, j, none⟩ (.int .i64 (c + 1))) (OI (.slice (some ⟨fb, 0, none⟩) m m) (cntL m (P ++ [(j : Int)])) :: l) := by
  refine ⟨((P.count (j : Int) : Nat) : Int), ?_, h.hd.free (cntL_len m P).symm j, ?_, ?_, ?_⟩
  · have := OwnInts.cell h.hd (cntL_len m P).symm (j := j) (by rw [cntL_len]; exact hj)
    rw [this]
    have e := cntL_at (P := P) hj
    rw [List.getD_eq_getElem?_getD, List.getElem?_eq_getElem (by rw [cntL_len]; exact hj)] at e
    simp only [Option.getD_some] at e
    rw [e]
  · have := List.count_le_length (a := (j : Int)) (l := P)
    exact wrap_id (by omega) (by omega)
  · have := List.count_le_length (a := (j : Int)) (l := P)
    exact wrap64_id (by omega) (by omega)
  · rw [cntL_snoc hj]
    exact h.setI (cntL_len m P).symm j _
def outE (es : List Ed) : List Int := es.flatMap fun e => e.o
def inE (es : List Ed) : List Int := es.flatMap fun e => e.i
theorem outE_take (es : List Ed) (k : Nat) (hk : k < es.length) : outE (es.take (k + 1)) = outE (es.take k) ++ (es.getD k e0).o := by
  unfold outE
  rw [List.take_succ_eq_append_getElem hk, List.flatMap_append, List.getD_eq_getElem?_getD, List.getElem?_eq_getElem hk]
  simp
theorem inE_take (es : List Ed) (k : Nat) (hk : k < es.length) : inE (es.take (k + 1)) = inE (es.take k) ++ (es.getD k e0).i := by
  unfold inE
  rw [List.take_succ_eq_append_getElem hk, List.flatMap_append, List.getD_eq_getElem?_getD, List.getElem?_eq_getElem hk]
  simp
theorem outE_le (es : List Ed) (k : Nat) : (outE (es.take k)).length ≤ (outE es).length := by
  have h : outE es = outE (es.take k) ++ outE (es.drop k) := by unfold outE; rw [← List.flatMap_append, List.take_append_drop]
  rw [h, List.length_append]
  omega
theorem inE_le (es : List Ed) (k : Nat) : (inE (es.take k)).length ≤ (inE es).length := by
  have h : inE es = inE (es.take k) ++ inE (es.drop k) := by unfold inE; rw [← List.flatMap_append, List.take_append_drop]
  rw [h, List.length_append]
  omega
set_option maxHeartbeats 8000000 in
theorem hgCounts_any (ev iv ov : Value) (g : Gr) (m : Nat) (w : World) (he : RdE edgeE w ev g.es) (hi : IntsV w iv g.i) (ho : IntsV w ov g.o) (hm : g.n = m) (hm2 : m ≤ 1000000) (hr : rngB g.n (wiresL g) = true) (l0 : g.es.length ≤ 1000000) (l1 : g.i.length ≤ 1000000) (l2 : g.o.length ≤ 1000000) (l3 : (outE g.es).length ≤ 1000000) (l4 : (inE g.es).length ≤ 1000000) :
    Calls Tryz.prog 87 #[grV g.n ev iv ov] w fun e w' => ∃ u1 u2, e = .returned (.tuple #[u1, u2]) ∧ Sep w' [OI u1 (cntL m (fromL g)), OI u2 (cntL m (toL g)), KeepA w] := by
  obtain ⟨i0, hbi, hz0, hz1, hz2⟩ := info_parts info_int
  have HBI := Lib.hid hbi; have HZ0 := Lib.hid hz0; have HZ1 := Lib.hid hz1; have HZ2 := Lib.hid hz2
  clear hbi hz0 hz1 hz2
  have hrg := rngB_iff.1 hr
  unfold wiresL wiresE at hrg
  unfold fromL toL
  obtain ⟨n, es, is, os⟩ := g
  simp only at he hi ho hm hrg l0 l1 l2 l3 l4 ⊢
  subst hm
  have HRI := Lib.hid (show ∀ x ∈ is, 0 ≤ x ∧ x < (m : Int) from fun x hx => hrg x (by simp [hx]))
  have HRO := Lib.hid (show ∀ x ∈ os, 0 ≤ x ∧ x < (m : Int) from fun x hx => hrg x (by simp [hx]))
  have HRE := Lib.hid (show ∀ e ∈ es, (∀ x ∈ e.i, 0 ≤ x ∧ x < (m : Int)) ∧ ∀ x ∈ e.o, 0 ≤ x ∧ x < (m : Int) from fun e he => ⟨fun x hx => hrg x (by simp only [List.mem_append, List.mem_flatMap]; exact Or.inr (Or.inr ⟨e, he, Or.inl hx⟩)), fun x hx => hrg x (by simp only [List.mem_append, List.mem_flatMap]; exact Or.inr (Or.inr ⟨e, he, Or.inr hx⟩))⟩)
  have HE := Lib.hid he; have HI := Lib.hid hi; have HO := Lib.hid ho
  obtain ⟨ea, ec, rfl⟩ := he.shape
  obtain ⟨ia, ic, rfl⟩ := hi.shape
  obtain ⟨oa, oc, rfl⟩ := ho.shape
  have HLI := Lib.hid l1; have HLO := Lib.hid l2; have HL3 := Lib.hid l3; have HL4 := Lib.hid l4; have HL0 := Lib.hid l0
  rw [show (es.flatMap fun e => e.o) = outE es from rfl, show (es.flatMap fun e => e.i) = inE es from rfl]
  unfold grV
  generalize hm0 : es.length = m0 at *
  generalize hn1 : is.length = n1 at *
  generalize hn2 : os.length = n2 at *
  have HM0 := Lib.hid hm0; have HN1 := Lib.hid hn1; have HN2 := Lib.hid hn2
  have HS0 := Lib.hid ((Sep.start w).box #[.int .i64 m, .slice ea m0 ec, .slice ia n1 ic, .slice oa n2 oc] 30)
  have HE1 := Lib.hid (show (w.alloc (.cells #[.int .i64 m, .slice ea m0 ec, .slice ia n1 ic, .slice oa n2 oc] 30)).heap.size = w.heap.size + 1 by simp)
  clear he hi ho hr hrg hm0 hn1 hn2 l3 l4
  go_enter Tryz.func87, Tryz.ntmps87
  go_upto_region 2 with (
    at_make
    refine wpList_make_full _ rfl _ _ 28 rfl _ 3 i0 (.int .i64 0) 1 Tryz.underlying28 HBI.out HZ0.out HZ1.out _ _ _ _ m rfl rfl rfl rfl (by rw [HZ2.out]; omega) (by unfold maxLen; omega) (Nat.le_refl _) ?_
    intro w1 hown' hgr'
    have hs1 := HS0.out.newI (zs := List.replicate m 0) hgr' (by rw [madeCells_int] at hown'; unfold OwnInts; rw [List.length_replicate]; exact hown')
    rw [HE1.out] at hs1
    obtain ⟨x0, x1, x2, x3, _⟩ := bq4 hs1.tl.hd
    have HS1 := Lib.hid hs1
    clear hs1 hown' hgr')
  go_wp2_with (
    at_make
    refine wpList_make_full _ rfl _ _ 28 rfl _ 3 i0 (.int .i64 0) 1 Tryz.underlying28 HBI.out HZ0.out HZ1.out _ _ _ _ m rfl rfl rfl rfl (by rw [HZ2.out]; omega) (by unfold maxLen; omega) (Nat.le_refl _) ?_
    intro w2 hown' hgr'
    have hs2 := (HS1.out.newI (zs := List.replicate m 0) hgr' (by rw [madeCells_int] at hown'; unfold OwnInts; rw [List.length_replicate]; exact hown')).s2
    obtain ⟨y0, y1, y2, y3, _⟩ := bq4 hs2.tl.tl.hd
    have HS2 := Lib.hid (by rw [← cntL_nil] at hs2; exact hs2)
    clear hs2 hown' hgr')
  obtain ⟨fb, hfb⟩ : ∃ fb, fb = w.heap.size + 1 := ⟨_, rfl⟩
  rw [← hfb] at HS2 ⊢
  clear hfb
  generalize w1.heap.size = tb at *
  go_loopw [7, 25] (fun _ i wr => ∃ k : Nat, k ≤ n1 ∧ i = .int .i64 k ∧ Sep wr [OI (.slice (some ⟨fb, 0, none⟩) m m) (cntL m (is.take k)), OI (.slice (some ⟨tb, 0, none⟩) m m) (cntL m ([])), BxA w.heap.size #[.int .i64 m, .slice ea m0 ec, .slice ia n1 ic, .slice oa n2 oc] 30, KeepA w]) (fun _ i _ => n1 - (intOf i).toNat)
  case atStart => exact ⟨0, by omega, rfl, by simpa using HS2.out⟩
  case round =>
    obtain ⟨k, hk, rfl, hs⟩ := hrel
    have HSX := Lib.hid hs
    clear hs HS2
    by_cases hltk : k < n1
    · have hkx : k < is.length := by rw [HN1.out]; exact hltk
      obtain ⟨xb, xo, rfl⟩ := IntsV.addr HI.out (by omega)
      have hc0 := (HI.out.carry HSX.out.tl.tl.tl.hd).cellN hkx
      have hxr := HRI.out _ (getD_mem' hkx)
      have htk : is.take (k + 1) = is.take k ++ [is.getD k 0] := by rw [List.take_succ_eq_append_getElem hkx, List.getD_eq_getElem?_getD, List.getElem?_eq_getElem hkx]; rfl
      have hple : (is.take k).length ≤ is.length := by rw [List.length_take]; omega
      have HTK := Lib.hid htk
      generalize is.getD k 0 = x at *
      obtain ⟨j, rfl⟩ := Int.eq_ofNat_of_zero_le hxr.1
      have hjm : j < m := by omega
      obtain ⟨c, hc, hf, hw1, hw2, hs2⟩ := cntL_step HSX.out hjm (show (is.take k).length ≤ 10000000 by have := HN1.out; have := HLI.out; omega)
      have HS2 := Lib.hid (show Sep _ (OI _ (cntL m (is.take (k + 1))) :: _) from by rw [HTK.out]; exact hs2)
      clear hs2 hxr htk hkx hple
      go_wp2
      go_roundw
      case rel => exact ⟨k + 1, by omega, by go_num, HS2.out⟩
      case measure => simp [intOf]; omega
    · have hkm : n1 = k := by omega
      subst hkm
      have hs := HSX.out
      rw [List.take_of_length_le (by rw [HN1.out]; exact Nat.le_refl _)] at hs
      obtain ⟨y0, y1, y2, y3, _⟩ := bq4 hs.tl.tl.hd
      have HS3 := Lib.hid hs
      clear hs HSX hltk
      go_wp2_with fail
      go_loopw [9, 39] (fun _ i wr => ∃ k : Nat, k ≤ n2 ∧ i = .int .i64 k ∧ Sep wr [OI (.slice (some ⟨fb, 0, none⟩) m m) (cntL m (is)), OI (.slice (some ⟨tb, 0, none⟩) m m) (cntL m (os.take k)), BxA w.heap.size #[.int .i64 m, .slice ea m0 ec, .slice ia n1 ic, .slice oa n2 oc] 30, KeepA w]) (fun _ i _ => n2 - (intOf i).toNat)
      case atStart => exact ⟨0, by omega, rfl, by simpa using HS3.out⟩
      case round =>
        obtain ⟨k, hk, rfl, hs⟩ := hrel
        have HSX := Lib.hid hs
        clear hs HS3
        by_cases hltk : k < n2
        · have hkx : k < os.length := by rw [HN2.out]; exact hltk
          obtain ⟨xb, xo, rfl⟩ := IntsV.addr HO.out (by omega)
          have hc0 := (HO.out.carry HSX.out.tl.tl.tl.hd).cellN hkx
          have hxr := HRO.out _ (getD_mem' hkx)
          have htk : os.take (k + 1) = os.take k ++ [os.getD k 0] := by rw [List.take_succ_eq_append_getElem hkx, List.getD_eq_getElem?_getD, List.getElem?_eq_getElem hkx]; rfl
          have hple : (os.take k).length ≤ os.length := by rw [List.length_take]; omega
          have HTK := Lib.hid htk
          generalize os.getD k 0 = x at *
          obtain ⟨j, rfl⟩ := Int.eq_ofNat_of_zero_le hxr.1
          have hjm : j < m := by omega
          obtain ⟨c, hc, hf, hw1, hw2, hs2⟩ := cntL_step HSX.out.s2 hjm (show (os.take k).length ≤ 10000000 by have := HN2.out; have := HLO.out; omega)
          have HS2 := Lib.hid (show Sep _ (OI _ (cntL m (os.take (k + 1))) :: _) from by rw [HTK.out]; exact hs2)
          clear hs2 hxr htk hkx hple
          go_wp2
          go_roundw
          case rel => exact ⟨k + 1, by omega, by go_num, HS2.out.s2⟩
          case measure => simp [intOf]; omega
        · have hkm : n2 = k := by omega
          subst hkm
          have hs := HSX.out
          rw [List.take_of_length_le (by rw [HN2.out]; exact Nat.le_refl _)] at hs
          obtain ⟨y0, y1, y2, y3, _⟩ := bq4 hs.tl.tl.hd
          have HS4 := Lib.hid hs
          clear hs HSX hltk
          go_wp2_with fail
          go_loopw [11, 53] (fun _ i wr => ∃ k : Nat, k ≤ m0 ∧ i = .int .i64 k ∧ Sep wr [OI (.slice (some ⟨fb, 0, none⟩) m m) (cntL m (is ++ outE (es.take k))), OI (.slice (some ⟨tb, 0, none⟩) m m) (cntL m (os ++ inE (es.take k))), BxA w.heap.size #[.int .i64 m, .slice ea m0 ec, .slice ia n1 ic, .slice oa n2 oc] 30, KeepA w]) (fun _ i _ => m0 - (intOf i).toNat)
          case atStart => exact ⟨0, by omega, rfl, by simpa [outE, inE] using HS4.out⟩
          case round =>
            obtain ⟨k, hk, rfl, hs⟩ := hrel
            have HSX := Lib.hid hs
            clear hs HS4
            by_cases hltk : k < m0
            · have hke : k < es.length := by rw [HM0.out]; exact hltk
              obtain ⟨b, o, u1, u2, rfl, hat⟩ := HE.out.atK rfl rfl hke
              have hem : es.getD k e0 ∈ es := by rw [List.getD_eq_getElem?_getD, List.getElem?_eq_getElem hke]; exact List.getElem_mem _
              have hre := HRE.out _ hem
              have HTO := Lib.hid (outE_take es k hke)
              have HTI := Lib.hid (inE_take es k hke)
              have hlo : (es.getD k e0).o.length ≤ 1000000 := by have h1 := HTO.out; have h2 := outE_le es (k + 1); have h3 := HL3.out; rw [h1, List.length_append] at h2; omega
              have hli : (es.getD k e0).i.length ≤ 1000000 := by have h1 := HTI.out; have h2 := inE_le es (k + 1); have h3 := HL4.out; rw [h1, List.length_append] at h2; omega
              generalize es.getD k e0 = e at *
              obtain ⟨ek, ev, ei, eo⟩ := e
              simp only at hat hre HTO HTI hlo hli
              have HREI := Lib.hid hre.1; have HREO := Lib.hid hre.2
              obtain ⟨⟨q0, q1', q2', q3'⟩, _, _⟩ := hat wr HSX.out.tl.tl.tl.hd
              obtain ⟨-, hiv, hov⟩ := hat w (grownBy_refl _ _)
              obtain ⟨s1, r1, rfl⟩ := hiv.shape
              obtain ⟨s2, r2, rfl⟩ := hov.shape
              have HEI := Lib.hid hiv; have HEO := Lib.hid hov
              have HLEI := Lib.hid hli; have HLEO := Lib.hid hlo
              have hs5 := (HSX.out.box #[.int .i64 ek, .int .i64 ev, .slice s1 ei.length r1, .slice s2 eo.length r2] 88).s2.under Sep.s2 (by simp +contextual)
              have HS5 := Lib.hid hs5
              clear hat hre hke hem hiv hov hs5
              generalize hq1 : ei.length = q1 at *
              generalize hq2 : eo.length = q2 at *
              have HQ1 := Lib.hid hq1; have HQ2 := Lib.hid hq2
              clear hq1 hq2
              go_wp2_with fail
              generalize wr.heap.size = eb at *
              go_loopw [13, 60] (fun _ i wr => ∃ t : Nat, t ≤ q2 ∧ i = .int .i64 t ∧ Sep wr [OI (.slice (some ⟨fb, 0, none⟩) m m) (cntL m ((is ++ outE (es.take k)) ++ eo.take t)), OI (.slice (some ⟨tb, 0, none⟩) m m) (cntL m (os ++ inE (es.take k))), BxA eb #[.int .i64 ek, .int .i64 ev, .slice s1 q1 r1, .slice s2 q2 r2] 88, BxA w.heap.size #[.int .i64 m, .slice (some ⟨b, o, none⟩) m0 ec, .slice ia n1 ic, .slice oa n2 oc] 30, KeepA w]) (fun _ i _ => q2 - (intOf i).toNat)
              case atStart => exact ⟨0, by omega, rfl, by simpa using HS5.out⟩
              case round =>
                obtain ⟨t, ht, rfl, hs⟩ := hrel
                have HSX := Lib.hid hs
                clear hs HS5
                by_cases hltt : t < q2
                · have hkx : t < eo.length := by rw [HQ2.out]; exact hltt
                  obtain ⟨xb, xo, rfl⟩ := IntsV.addr HEO.out (by omega)
                  have hc0 := (HEO.out.carry HSX.out.tl.tl.tl.tl.hd).cellN hkx
                  have hxr := HREO.out _ (getD_mem' hkx)
                  have htk : eo.take (t + 1) = eo.take t ++ [eo.getD t 0] := by rw [List.take_succ_eq_append_getElem hkx, List.getD_eq_getElem?_getD, List.getElem?_eq_getElem hkx]; rfl
                  have hple : (eo.take t).length ≤ eo.length := by rw [List.length_take]; omega
                  have HTK := Lib.hid htk
                  generalize eo.getD t 0 = x at *
                  obtain ⟨j, rfl⟩ := Int.eq_ofNat_of_zero_le hxr.1
                  have hjm : j < m := by omega
                  obtain ⟨c, hc, hf, hw1, hw2, hs2⟩ := cntL_step HSX.out hjm (show ((is ++ outE (es.take k)) ++ eo.take t).length ≤ 10000000 by simp only [List.length_append]; have := HN1.out; have := HN2.out; have := HLI.out; have := HLO.out; have := outE_le es k; have := inE_le es k; have := HL3.out; have := HL4.out; have := HLEO.out; have := HLEI.out; have := HQ1.out; have := HQ2.out; omega)
                  have HS2 := Lib.hid (show Sep _ (OI _ (cntL m ((is ++ outE (es.take k)) ++ eo.take (t + 1))) :: _) from by rw [HTK.out, ← List.append_assoc]; exact hs2)
                  clear hs2 hxr htk hkx hple
                  go_wp2
                  go_roundw
                  case rel => exact ⟨t + 1, by omega, by go_num, HS2.out⟩
                  case measure => simp [intOf]; omega
                · have hkm : q2 = t := by omega
                  subst hkm
                  have hs := HSX.out
                  rw [List.take_of_length_le (l := eo) (by rw [HQ2.out]; exact Nat.le_refl _)] at hs
                  obtain ⟨y0, y1, y2, y3, _⟩ := bq4 hs.tl.tl.hd
                  have HS5 := Lib.hid hs
                  clear hs HSX hltt
                  go_wp2_with fail
                  go_loopw [15, 74] (fun _ i wr => ∃ t : Nat, t ≤ q1 ∧ i = .int .i64 t ∧ Sep wr [OI (.slice (some ⟨fb, 0, none⟩) m m) (cntL m ((is ++ outE (es.take k)) ++ eo)), OI (.slice (some ⟨tb, 0, none⟩) m m) (cntL m ((os ++ inE (es.take k)) ++ ei.take t)), BxA eb #[.int .i64 ek, .int .i64 ev, .slice s1 q1 r1, .slice s2 q2 r2] 88, BxA w.heap.size #[.int .i64 m, .slice (some ⟨b, o, none⟩) m0 ec, .slice ia n1 ic, .slice oa n2 oc] 30, KeepA w]) (fun _ i _ => q1 - (intOf i).toNat)
                  case atStart => exact ⟨0, by omega, rfl, by simpa using HS5.out⟩
                  case round =>
                    obtain ⟨t, ht, rfl, hs⟩ := hrel
                    have HSX := Lib.hid hs
                    clear hs HS5
                    by_cases hltt : t < q1
                    · have hkx : t < ei.length := by rw [HQ1.out]; exact hltt
                      obtain ⟨xb, xo, rfl⟩ := IntsV.addr HEI.out (by omega)
                      have hc0 := (HEI.out.carry HSX.out.tl.tl.tl.tl.hd).cellN hkx
                      have hxr := HREI.out _ (getD_mem' hkx)
                      have htk : ei.take (t + 1) = ei.take t ++ [ei.getD t 0] := by rw [List.take_succ_eq_append_getElem hkx, List.getD_eq_getElem?_getD, List.getElem?_eq_getElem hkx]; rfl
                      have hple : (ei.take t).length ≤ ei.length := by rw [List.length_take]; omega
                      have HTK := Lib.hid htk
                      generalize ei.getD t 0 = x at *
                      obtain ⟨j, rfl⟩ := Int.eq_ofNat_of_zero_le hxr.1
                      have hjm : j < m := by omega
                      obtain ⟨c, hc, hf, hw1, hw2, hs2⟩ := cntL_step HSX.out.s2 hjm (show ((os ++ inE (es.take k)) ++ ei.take t).length ≤ 10000000 by simp only [List.length_append]; have := HN1.out; have := HN2.out; have := HLI.out; have := HLO.out; have := outE_le es k; have := inE_le es k; have := HL3.out; have := HL4.out; have := HLEO.out; have := HLEI.out; have := HQ1.out; have := HQ2.out; omega)
                      have HS2 := Lib.hid (show Sep _ (OI _ (cntL m ((os ++ inE (es.take k)) ++ ei.take (t + 1))) :: _) from by rw [HTK.out, ← List.append_assoc]; exact hs2)
                      clear hs2 hxr htk hkx hple
                      go_wp2
                      go_roundw
                      case rel => exact ⟨t + 1, by omega, by go_num, HS2.out.s2⟩
                      case measure => simp [intOf]; omega
                    · have hkm : q1 = t := by omega
                      subst hkm
                      have hs := HSX.out
                      rw [List.take_of_length_le (l := ei) (by rw [HQ1.out]; exact Nat.le_refl _)] at hs
                      have hs2 := hs.under (fun h => h.under (fun h => h.tl) (by simp +contextual)) (by simp +contextual)
                      rw [List.append_assoc, List.append_assoc, ← HTO.out, ← HTI.out] at hs2
                      have HS6 := Lib.hid hs2
                      clear hs hs2 HSX hltt
                      go_wp2
                      go_roundw
                      case rel => exact ⟨k + 1, by omega, by go_num, HS6.out⟩
                      case measure => simp [intOf]; omega
            · have hkm : m0 = k := by omega
              subst hkm
              have hs := HSX.out
              rw [List.take_of_length_le (by rw [HM0.out]; exact Nat.le_refl _)] at hs
              have HF := Lib.hid (hs.under (fun h => h.drop2) (by simp +contextual))
              clear hs hltk HSX
              go_wp2
              refine bodyPost_ret_by (v := .tuple #[.slice (some ⟨fb, 0, none⟩) m m, .slice (some ⟨tb, 0, none⟩) m m]) ?_ rfl ⟨_, _, rfl, HF.out⟩
              simp [results, go_sem, *]
end Go.Proofs.YtjagjhchnpmngaaGreatDoor

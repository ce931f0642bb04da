/-
  Products of matrices. Conditions: lengths are small.
-/
import Derived.Test.YtpeaeminjbjlnaaDoorMatFn5
import Derived.Deep.AppendLies
import Derived.Deep.RegionLaw
namespace Go.Proofs.YtpeaeminjbjlnaaDoor
open Go.RowKit
set_option linter.unusedVariables false

/-- 'out = append(out, row)' as an operation of a region. -/
theorem step_app_row {ops : Array Oper} {o : Oper} {a : Act} {K : Act → World → Prop} {Q : Exit → Act → World → Prop} {E : Prop} (hgd : o.guard = none) (s x : Operand)
    (ho : o.op = .call { callee := .builtin .append, args := #[s, x], argTypes := #[37, 37] })
    {B : Nat} {w : World} {v u : Value} {vs : List Value} {L : List (List Int)} {zs : List Int} (hs : a.eval s = v) (hx : a.eval x = .slice (some ⟨w.heap.size, 0, none⟩) 1 1)
    (hown : OwnM B w v vs L) (hu : OwnInts B w u zs) (hua : ∀ i, Apart (vs.getD i nilS) u) (hB : B ≤ w.heap.size) (hl : L.length ≤ 1000000)
    (h : ∀ g cap w', OwnM B w' (.slice (some ⟨g, 0, none⟩) (L.length + 1) cap) (vs ++ [u]) (L ++ [zs]) → Only (Hits v) w w' → K (a.put o.dst (.slice (some ⟨g, 0, none⟩) (L.length + 1) cap)) w') :
    if Region.wanted o (yielded ops a.tmps) = true then Oper.wp Tryd.prog o a (w.alloc (.cells #[u] 24)) K Q else E := by
  obtain ⟨i0, hi, hz0, hz1, hz2⟩ := info_parts info_ints
  have hlen := hown.len
  have hgr := grownBy_alloc w (.cells #[u] 24) none
  have hown1 := hown.carry hgr
  have hu1 : OwnInts B (w.alloc (.cells #[u] 24)) u zs := hu.alloc _
  refine step_append_lies _ hgd s x 37 ho B 24 i0 (.slice none 0 0) 1 24 Tryd.underlying37 hi hz0 hz1 hz2 rfl (by decide) v vs.length vs hs hown1.out
    ⟨w.heap.size, 0, none⟩ 1 1 [u] hx rfl ?_ ?_ (by decide) (by unfold maxLen; omega) (by omega) (by simp; omega) _ rfl ?_
  · intro j u' hj
    match j, hj with
    | 0, hj =>
      simp at hj
      subst hj
      simp only [Addr.add, if_true, World.cell?]
      rw [alloc_heap_new]
      rfl
    | j + 1, hj => simp at hj
  · intro u' hu'
    simp at hu'
    subst hu'
    exact ints_one hu
  · intro g cap w1 hown' hgrow _ _
    have hon : Only (Hits v) (w.alloc (.cells #[u] 24)) w1 := Only.of_grown hgrow fun k hk => hk
    rw [hlen] at hown' ⊢
    refine h g cap w1 (OwnM.join hlen (fun i => (hown1.row i).only hon fun k hk hk' => ?_) hown.ap (hu1.only hon fun k hk hk' => ?_) hua (by simpa [hlen] using hown')) ?_
    · exact apart_types hown1.out (hown1.row i) (by decide) k hk' hk
    · exact apart_types hown1.out hu1 (by decide) k hk' hk
    · exact (Only.of_grown (S := Hits v) hgr (by simp)).trans hon

/-- the variables of times, laid one after another -/
theorem times_start (w : World) (c1 c2 : Array Value) (n : Int) :
    let w0 := ((((w.alloc (.cells c1 39)).alloc (.cells c2 39)).alloc (.cells #[.int .i64 0, .slice none 0 0] 39)).alloc (.cells #[] 24)).alloc (.cells #[.int .i64 n, .slice (some ⟨w.heap.size + 1 + 1 + 1, 0, none⟩) 0 0] 39)
    w0.heap[w.heap.size]? = some (.cells c1 39 (0, 0)) ∧ w0.heap[w.heap.size + 1]? = some (.cells c2 39 (0, 0)) ∧ w0.heap[w.heap.size + 1 + 1]? = some (.cells #[.int .i64 0, .slice none 0 0] 39 (0, 0)) ∧
    w0.heap[w.heap.size + 1 + 1 + 1 + 1]? = some (.cells #[.int .i64 n, .slice (some ⟨w.heap.size + 1 + 1 + 1, 0, none⟩) 0 0] 39 (0, 0)) ∧
    OwnM (w.heap.size + 1 + 1 + 1) w0 (.slice (some ⟨w.heap.size + 1 + 1 + 1, 0, none⟩) 0 0) [] [] ∧ w.grownBy w0 none ∧ w0.heap.size = w.heap.size + 1 + 1 + 1 + 1 + 1 := by
  have hb := blk3 w (.cells c1 39) (.cells c2 39) (.cells #[.int .i64 0, .slice none 0 0] 39) (grownBy_refl _ none)
  have hg : w.grownBy (((w.alloc (.cells c1 39)).alloc (.cells c2 39)).alloc (.cells #[.int .i64 0, .slice none 0 0] 39)) none :=
    ((grownBy_alloc _ _ none).trans (grownBy_alloc _ _ none)).trans (grownBy_alloc _ _ none)
  have hs : (((w.alloc (.cells c1 39)).alloc (.cells c2 39)).alloc (.cells #[.int .i64 0, .slice none 0 0] 39)).heap.size = w.heap.size + 1 + 1 + 1 := by simp
  intro w0
  have hw0 : w0 = ((((w.alloc (.cells c1 39)).alloc (.cells c2 39)).alloc (.cells #[.int .i64 0, .slice none 0 0] 39)).alloc (.cells #[] 24)).alloc (.cells #[.int .i64 n, .slice (some ⟨w.heap.size + 1 + 1 + 1, 0, none⟩) 0 0] 39) := rfl
  clear_value w0
  generalize ((w.alloc (.cells c1 39)).alloc (.cells c2 39)).alloc (.cells #[.int .i64 0, .slice none 0 0] 39) = w3 at *
  subst hw0
  have hm := World.ownsRow_made (e := 24) (base := w.heap.size + 1 + 1 + 1) (size := 1) w3 #[] 0 (by omega) (by unfold maxLen; omega) rfl
  rw [hs] at hm
  have ho := (OwnM.start hm).carry (grownBy_alloc _ (.cells #[.int .i64 n, .slice (some ⟨w.heap.size + 1 + 1 + 1, 0, none⟩) 0 0] 39) none)
  have s4 : (w3.alloc (.cells #[] 24)).heap.size = w.heap.size + 1 + 1 + 1 + 1 := by rw [← hs]; simp
  have e4 := alloc_heap_new (w3.alloc (.cells #[] 24)) (.cells #[.int .i64 n, .slice (some ⟨w.heap.size + 1 + 1 + 1, 0, none⟩) 0 0] 39)
  rw [s4] at e4
  have g5 := World.grownBy.trans (grownBy_alloc w3 (.cells #[] 24) none) (grownBy_alloc (w3.alloc (.cells #[] 24)) (.cells #[.int .i64 n, .slice (some ⟨w.heap.size + 1 + 1 + 1, 0, none⟩) 0 0] 39) none)
  refine ⟨(g5.block _ (by omega) (by simp)).trans hb.1, (g5.block _ (by omega) (by simp)).trans hb.2.1, (g5.block _ (by omega) (by simp)).trans hb.2.2.1, e4, ho, hg.trans g5, ?_⟩
  rw [← s4]
  simp

theorem one_set {w : World} (b : Nat) (x y : Value) : Only (fun k => k = b) w ((w.setCell ⟨b, 0, none⟩ x).setCell ⟨b, 1, none⟩ y) :=
  ⟨rfl, rfl, rfl, by simp [World.setCell], fun k _ hn => by
    rw [Below.heap_setCell _ _ _ _ hn, Below.heap_setCell _ _ _ _ hn]⟩
theorem lt_of_blk {w : World} {b : Nat} {o : Obj} (h : w.heap[b]? = some o) : b < w.heap.size := by
  rcases Nat.lt_or_ge b w.heap.size with h' | h'
  · exact h'
  · rw [Array.getElem?_eq_none h'] at h; cases h
theorem cell_alloc {w : World} {a : Addr} {u : Value} (h : w.cell? a = some u) (o : Obj) : (w.alloc o).cell? a = some u :=
  (World.cell?_of_block (w := w) (alloc_heap_old w o a.block (World.block_lt_of_cell? w a h))).trans h
theorem alloc3 {w : World} {a b c : Addr} {x y z : Value} {o : Obj} (h : w.cell? a = some x ∧ w.cell? b = some y ∧ w.cell? c = some z) : (w.alloc o).cell? a = some x ∧ (w.alloc o).cell? b = some y ∧ (w.alloc o).cell? c = some z :=
  ⟨cell_alloc h.1 o, cell_alloc h.2.1 o, cell_alloc h.2.2 o⟩
theorem times_keep1 {B b : Nat} {cs : Array Value} {w2 w3 : World} {v : Value} {vs : List Value} {T : List (List Int)} (e2 : w2.heap[b]? = some (.cells cs 39 (0, 0)))
    (ho : OwnM B w2 v vs T) (hon : Only (Hits v) w2 w3) : w3.heap[b]? = some (.cells cs 39 (0, 0)) := by
  refine (hon.block b (lt_of_blk e2) fun hh => ?_).trans e2
  obtain ⟨cur, hc⟩ := own_block ho.out hh
  rw [e2] at hc
  simp at hc
theorem foot_ne {B b : Nat} {w : World} {cs : Array Value} {v : Value} {vs : List Value} {T : List (List Int)} (h : w.heap[b]? = some (.cells cs 39 (0, 0))) (ho : OwnM B w v vs T) : ¬ Foot v vs b := by
  rintro (hh | ⟨x, hx, hh⟩)
  · obtain ⟨cur, hc⟩ := own_block ho.out hh
    rw [h] at hc
    simp at hc
  · obtain ⟨i, hi, rfl⟩ := List.getElem_of_mem hx
    have hr := ho.row i
    rw [List.getD_eq_getElem?_getD, List.getElem?_eq_getElem hi] at hr
    obtain ⟨cur, hc⟩ := own_block hr hh
    rw [h] at hc
    simp at hc
theorem set_only (w : World) (a : Addr) (x : Value) : Only (fun k => k = a.block) w (w.setCell a x) :=
  ⟨rfl, rfl, rfl, by simp [World.setCell], fun k _ hn => Below.heap_setCell _ _ _ _ hn⟩
theorem times_fin {B b : Nat} {w3 : World} {n : Int} {old x : Value} {vs : List Value} {T : List (List Int)} (h : w3.heap[b]? = some (.cells #[.int .i64 n, old] 39 (0, 0))) (ho : OwnM B w3 x vs T) :
    (w3.setCell ⟨b, 1, none⟩ x).heap[b]? = some (.cells #[.int .i64 n, x] 39 (0, 0)) ∧ OwnM B (w3.setCell ⟨b, 1, none⟩ x) x vs T := by
  refine ⟨?_, ho.only (set_only w3 ⟨b, 1, none⟩ x) fun k hk hk' => ?_⟩
  · simp only [World.setCell]
    rw [Array.getElem?_modify, if_pos rfl, h]
    rfl
  · simp only at hk'
    subst hk'
    exact foot_ne h ho hk
theorem times_below {b3 b4 : Nat} {w0 wr w2 w3 : World} {v x : Value} {vs : List Value} {T : List (List Int)} (hb : Below b3 w0 wr) (hs : b3 ≤ wr.drew.heap.size) (hg : wr.drew.grownBy w2 none) (ho : OwnM b3 w2 v vs T) (hon : Only (Hits v) w2 w3) (h4 : b3 ≤ b4) :
    Below b3 w0 (w3.setCell ⟨b4, 1, none⟩ x) :=
  (((hb.drew.grown hg hs (by simp)).trans (Only.below' ho hon (Nat.le_trans hs hg.size))).trans ((set_only w3 ⟨b4, 1, none⟩ x).below (Nat.le_trans (Nat.le_trans hs hg.size) hon.size) fun k hk => by simp only at hk; omega))
/-- the variable that holds the rows stays as it is, whatever is appended to the rows -/
theorem times_keep {B b k : Nat} {n : Int} {wr w2 w3 : World} {oa : Option Addr} {oc : Nat} {vs : List Value} {T : List (List Int)} (h4 : wr.heap[b]? = some (.cells #[.int .i64 n, .slice oa k oc] 39 (0, 0)))
    (hg : wr.drew.grownBy w2 none) (ho : OwnM B w2 (.slice oa k oc) vs T) (hon : Only (Hits (.slice oa k oc)) w2 w3) : w3.heap[b]? = some (.cells #[.int .i64 n, .slice oa k oc] 39 (0, 0)) := by
  have hlt : b < wr.heap.size := by
    rcases Nat.lt_or_ge b wr.heap.size with h | h
    · exact h
    · rw [Array.getElem?_eq_none h] at h4; cases h4
  have e2 : w2.heap[b]? = some (.cells #[.int .i64 n, .slice oa k oc] 39 (0, 0)) := (hg.block b hlt (by simp)).trans h4
  refine (hon.block b (Nat.lt_of_lt_of_le hlt hg.size) fun hh => ?_).trans e2
  obtain ⟨cur, hc⟩ := own_block ho.out hh
  rw [e2] at hc
  simp at hc
def timesL (p : Int) (A L : List (List Int)) (n : Nat) : List (List Int) := A.map fun row => combTo p row L n L.length

set_option maxRecDepth 100000 in
set_option maxHeartbeats 1000000 in
theorem times_any (p : Nat) [NeZero p] (ca : Int) (n : Nat) (u v : Value) (A L : List (List Int)) (w : World) (hp : 1 < p) (hp2 : p ≤ 1000) (hu : MatV w u A) (hv : MatV w v L) (hA : RowsOk p L.length A) (hL : RowsOk p n L) (ha : A.length ≤ 1000) (hm : L.length ≤ 1000) (hn : n ≤ 1000) :
    Calls Tryd.prog 123 #[.int .i64 p, mxV ca u, mxV n v] w fun e w' => ∃ o vs, e = .returned (mxV n o) ∧ OwnM w.heap.size w' o vs (timesL p A L n) ∧ w.grownBy w' none := by
  obtain ⟨ua, uc, rfl⟩ := hu.shape
  obtain ⟨va, vc, rfl⟩ := hv.shape
  have HU := Lib.hid hu; have HV := Lib.hid hv; have HA := Lib.hid hA; have HL := Lib.hid hL
  have HCB := Lib.hid fun (row : List Int) (r : Value) (w1 : World) (hg : w.grownBy w1 none) (hr : IntsV w r row) (hok : VecOk p L.length row) => combine_any p r _ row L n w1 hp hp2 (hr.carry hg) (hv.carry hg) hok.1 hok.2 hL hm hn
  clear hu hv hA hL
  unfold mxV at *
  generalize hla : A.length = la at *
  have HLA := Lib.hid hla
  clear hla
  go_enter Tryd.func123, Tryd.ntmps123
  go_wp2_with fail
  have hw0 := times_start w #[.int .i64 ca, .slice ua la uc] #[.int .i64 n, .slice va L.length vc] (n : Int)
  generalize ((((w.alloc (.cells #[.int .i64 ca, .slice ua la uc] 39)).alloc (.cells #[.int .i64 n, .slice va L.length vc] 39)).alloc (.cells #[.int .i64 0, .slice none 0 0] 39)).alloc (.cells #[] 24)).alloc
    (.cells #[.int .i64 n, .slice (some ⟨w.heap.size + 1 + 1 + 1, 0, none⟩) 0 0] 39) = w0 at *
  obtain ⟨g0, g1, g2, g4, gow, ggr, gsz⟩ := hw0
  have G0 := Lib.hid g0; have G1 := Lib.hid g1; have G2 := Lib.hid g2; have G4 := Lib.hid g4; have GO := Lib.hid gow; have GG := Lib.hid ggr; have GS := Lib.hid gsz
  clear g0 g1 g2 g4 gow ggr gsz
  generalize hbe : w.heap.size = b at *
  have HBE := Lib.hid hbe
  clear hbe
  go_loopw [17] (fun i wr => ∃ (k : Nat) (oa : Option Addr) (oc : Nat) (vs : List Value), k ≤ la ∧ i = .int .i64 k ∧ wr.heap[b + 1 + 1 + 1 + 1]? = some (.cells #[.int .i64 n, .slice oa k oc] 39 (0, 0)) ∧
      OwnM (b + 1 + 1 + 1) wr (.slice oa k oc) vs ((timesL p A L n).take k) ∧ Below (b + 1 + 1 + 1) w0 wr) (fun i _ => la - (intOf i).toNat)
  case atStart => exact ⟨0, _, _, [], by omega, rfl, G4.out, GO.out, Below.refl _ _⟩
  case round =>
    obtain ⟨k, oa, oc, vs, hk, rfl, h4, hown, hbel⟩ := hrel
    have H4 := Lib.hid h4; have HO := Lib.hid hown; have HB := Lib.hid hbel
    have hszr := hbel.size
    have d0 := (hbel.block b (by omega)).trans G0.out
    have d1 := (hbel.block (b + 1) (by omega)).trans G1.out
    have hgr : w.grownBy wr none := grown_of_below ((Below.grown (Below.refl _ w) GG.out (Nat.le_refl _) (by simp)).trans (hbel.mono (by rw [HBE.out]; omega)))
    have HGR := Lib.hid hgr
    clear hown hbel
    by_cases hlt : k < la
    · have hka : k < A.length := by rw [HLA.out]; exact hlt
      obtain ⟨d, r, c, hae, hs, hd, hcell, hrow⟩ := HU.out.row hka
      have hrok := HA.out _ (List.getElem_mem hka)
      have hcell2 := (World.cell?_of_block (w := w) (a := ⟨d.block, d.off + k, none⟩) (hgr.block d.block hd (by simp))).trans hcell
      subst hae
      obtain ⟨db, dof, _⟩ := d
      simp only at hs hcell2
      subst hs
      have hnext : (timesL p A L n).take (k + 1) = (timesL p A L n).take k ++ [combTo p A[k] L n L.length] := by
        have : k < (timesL p A L n).length := by unfold timesL; rw [List.length_map]; exact hka
        rw [← take_push this]
        simp [timesL]
      have HN := Lib.hid hnext
      have hlk : ((timesL p A L n).take k).length = k := by rw [List.length_take]; unfold timesL; rw [List.length_map, HLA.out]; omega
      have HLK := Lib.hid hlk
      rw [hrok.1] at hcell2 hrow
      have HC := Lib.hid fun w' (h : w.grownBy w' none) => HCB.out A[k] _ w' h hrow hrok
      have c41 := cell_blk h4 1
      have c11 := cell_blk d1 1
      have c10 := cell_blk d1 0
      simp only [List.getElem?_toArray, List.getElem?_cons_zero, List.getElem?_cons_succ] at c41 c11 c10
      have hgd : w.grownBy wr.drew none := ⟨hgr.os, hgr.tape, hgr.output, hgr.size, hgr.block⟩
      have HGD := Lib.hid hgd
      have D1 := Lib.hid d1
      have hszr2 : b + 1 + 1 + 1 ≤ wr.drew.heap.size := by have := GS.out; show _ ≤ wr.heap.size; omega
      clear hnext hlk hrow hrok hcell hgd hgr d0 d1 h4
      generalize A[k] = row at *
      go_wp2_with fail
      go_region_law
        (first
        | (go_simp
           go_at_call 170
           refine (HC.out _ HGD.out).mono ?_
           rintro e w2 ⟨o, rfl, ho, hg⟩
           obtain ⟨oa2, oc2, hoe⟩ := own_shape ho
           subst hoe
           have A1 := Lib.hid (after_row (HO.out.only (Only.drew (fun _ => False) wr) (fun _ _ h => h)) hszr2 (ho) hg)
           have HG2 := Lib.hid hg
           have q4 := (hg.block (b + 1 + 1 + 1 + 1) (lt_of_blk (w := wr.drew) H4.out) (by simp)).trans H4.out
           have q1 := (hg.block (b + 1) (lt_of_blk (w := wr.drew) D1.out) (by simp)).trans D1.out
           have Q1 := Lib.hid q1
           have q41 := cell_blk q4 1
           have q11 := cell_blk q1 1
           have q10 := cell_blk q1 0
           simp only [List.getElem?_toArray, List.getElem?_cons_zero, List.getElem?_cons_succ] at q41 q11 q10
           have z41 := fun o => cell_alloc q41 o
           clear ho hg q1 q4)
        | (refine step_app_row rfl _ _ rfl rfl rfl A1.out.1 A1.out.2.1 A1.out.2.2.1 A1.out.2.2.2 (by rw [HLK.out]; omega) ?_
           intro g3 vc3 w3 hown' hon'
           rw [HLK.out] at hown' ⊢
           have HO3 := Lib.hid hown'; have HN3 := Lib.hid hon'
           have h43 := times_keep H4.out HG2.out A1.out.1 hon'
           have H43 := Lib.hid h43
           have h13 := times_keep1 Q1.out A1.out.1 hon'
           have c43 := cell_blk h43 1
           have f43 := free_blk h43 1
           have r11 := cell_blk h13 1
           have r10 := cell_blk h13 0
           simp only [List.getElem?_toArray, List.getElem?_cons_zero, List.getElem?_cons_succ] at c43 r11 r10
           clear hown' hon' h43 h13))
      all_goals
        have FIN := Lib.hid (times_fin (x := .slice (some ⟨g3, 0, none⟩) (k + 1) vc3) H43.out HO3.out)
        have FB := Lib.hid (times_below HB.out hszr2 HG2.out A1.out.1 HN3.out (b4 := b + 1 + 1 + 1 + 1) (x := .slice (some ⟨g3, 0, none⟩) (k + 1) vc3) (by omega))
        clear c43 f43 r11 r10 q41 q11 q10 z41
        go_wp2
        go_roundw
        case rel => exact ⟨k + 1, _, _, _, by omega, by go_num, FIN.out.1, by rw [HN.out]; exact FIN.out.2, FB.out⟩
        case measure => simp [intOf]; omega
    · have hkm : k = la := by omega
      subst hkm
      have hall : (timesL p A L n).take k = timesL p A L n := List.take_of_length_le (by unfold timesL; rw [List.length_map, HLA.out]; exact Nat.le_refl _)
      have HALL := Lib.hid hall
      have e2 := (HB.out.block (b + 1 + 1) (by have := GS.out; omega)).trans G2.out
      have c40 := cell_blk h4 0
      have c41 := cell_blk h4 1
      have c20 := cell_blk e2 0
      have c21 := cell_blk e2 1
      have f20 := free_blk e2 0
      have f21 := free_blk e2 1
      simp only [List.getElem?_toArray, List.getElem?_cons_zero, List.getElem?_cons_succ] at c40 c41 c20 c21
      clear d0 d1 h4 hgr hall e2
      go_wp2
      refine bodyPost_ret_by (v := .agg #[.int .i64 n, .slice oa k oc]) ?_ rfl ?_
      · simp [results, go_sem, *]
      · have o5 := one_set (w := wr) (b + 1 + 1) (.int .i64 n) (.slice oa k oc)
        refine ⟨_, vs, rfl, ?_, ?_⟩
        · have := HO.out
          rw [HALL.out] at this
          exact (this.only o5 fun q hq hq' => by have := (HO.out.lt (by exact hq)).1; omega).base (by rw [HBE.out]; omega)
        · exact grown_of_below ((Below.grown (Below.refl _ w) HGR.out (Nat.le_refl _) (by simp)).trans (o5.below HGR.out.size fun q hq => by rw [HBE.out]; omega))

end Go.Proofs.YtpeaeminjbjlnaaDoor

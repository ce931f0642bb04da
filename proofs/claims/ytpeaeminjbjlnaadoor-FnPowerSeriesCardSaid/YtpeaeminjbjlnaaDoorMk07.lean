/-
  Products of matrices. Conditions: lengths are small.
-/
import Derived.Test.YtpeaeminjbjlnaaDoorMk06
import Derived.Deep.AppendLies
import Derived.Deep.RegionLaw
namespace Go.Proofs.YtpeaeminjbjlnaaDoor
open Go.RowKit
set_option linter.unusedVariables false

/-- 'out = append(out, row)' as an operation of a region. -/
theorem step_app_row {ops : Array Oper} {o : Oper} {a : Act} {K : Act → World → Prop} {Q : Exit → Act → World → Prop} {E : Prop} (hgd : o.guard = none) (s x : Operand)
    (ho : o.op = .call { callee := .builtin .append, args := #[s, x], argTypes := #[37, 37] })
    {B : Nat} {w : World} {v u : Value} {vs : List Value} {L : List (List Int)} {zs : List Int} (hs : a.eval s = v) (hx : a.eval x = .slice (some ⟨w.heap.size, 0, none⟩) 1 1)
    (hown : OwnM B w v vs L) (hu : OwnInts B w u zs) (hua : ∀ i, Apart (vs.getD i nilS) u) (hB : B ≤ w.heap.size) (hl : L.length ≤ 1000000)
    (h : ∀ g cap w', OwnM B w' (.slice (some ⟨g, 0, none⟩) (L.length + 1) cap) (vs ++ [u]) (L ++ [zs]) → Only (Hits v) w w' → K (a.put o.dst (.slice (some ⟨g, 0, none⟩) (L.length + 1) cap)) w') :
    if Region.wanted o (yielded ops a.tmps) = true then Oper.wp Tryd.prog o a (w.alloc (.cells #[u] 24)) K Q else E := by
  obtain ⟨i0, hi, hz0, hz1, hz2⟩ := info_parts info_ints
  have hlen := hown.len
  have hgr := grownBy_alloc w (.cells #[u] 24) none
  have hown1 := hown.carry hgr
  have hu1 : OwnInts B (w.alloc (.cells #[u] 24)) u zs := hu.alloc _
  refine step_append_lies _ hgd s x 37 ho B 24 i0 (.slice none 0 0) 1 24 Tryd.underlying37 hi hz0 hz1 hz2 rfl (by decide) v vs.length vs hs hown1.out
    ⟨w.heap.size, 0, none⟩ 1 1 [u] hx rfl ?_ ?_ (by decide) (by unfold maxLen; omega) (by omega) (by simp; omega) _ rfl ?_
  · intro j u' hj
    match j, hj with
    | 0, hj =>
      simp at hj
      subst hj
      simp only [Addr.add, if_true, World.cell?]
      rw [alloc_heap_new]
      rfl
    | j + 1, hj => simp at hj
  · intro u' hu'
    simp at hu'
    subst hu'
    exact ints_one hu
  · intro g cap w1 hown' hgrow _ _
    have hon : Only (Hits v) (w.alloc (.cells #[u] 24)) w1 := Only.of_grown hgrow fun k hk => hk
    rw [hlen] at hown' ⊢
    refine h g cap w1 (OwnM.join hlen (fun i => (hown1.row i).only hon fun k hk hk' => ?_) hown.ap (hu1.only hon fun k hk hk' => ?_) hua (by simpa [hlen] using hown')) ?_
    · exact apart_types hown1.out (hown1.row i) (by decide) k hk' hk
    · exact apart_types hown1.out hu1 (by decide) k hk' hk
    · exact (Only.of_grown (S := Hits v) hgr (by simp)).trans hon

/-- the variables of times, laid one after another -/
theorem times_start (w : World) (c1 c2 : Array Value) (n : Int) :
    let w0 := ((((w.alloc (.cells c1 39)).alloc (.cells c2 39)).alloc (.cells #[.int .i64 0, .slice none 0 0] 39)).alloc (.cells #[] 24)).alloc (.cells #[.int .i64 n, .slice (some ⟨w.heap.size + 1 + 1 + 1, 0, none⟩) 0 0] 39)
    w0.heap[w.heap.size]? = some (.cells c1 39 (0, 0)) ∧ w0.heap[w.heap.size + 1]? = some (.cells c2 39 (0, 0)) ∧ w0.heap[w.heap.size + 1 + 1]? = some (.cells #[.int .i64 0, .slice none 0 0] 39 (0, 0)) ∧
    w0.heap[w.heap.size + 1 + 1 + 1 + 1]? = some (.cells #[.int .i64 n, .slice (some ⟨w.heap.size + 1 + 1 + 1, 0, none⟩) 0 0] 39 (0, 0)) ∧
    OwnM (w.heap.size + 1 + 1 + 1) w0 (.slice (some ⟨w.heap.size + 1 + 1 + 1, 0, none⟩) 0 0) [] [] ∧ w.grownBy w0 none ∧ w0.heap.size = w.heap.size + 1 + 1 + 1 + 1 + 1 := by
  have hb := blk3 w (.cells c1 39) (.cells c2 39) (.cells #[.int .i64 0, .slice none 0 0] 39) (grownBy_refl _ none)
  have hg : w.grownBy (((w.alloc (.cells c1 39)).alloc (.cells c2 39)).alloc (.cells #[.int .i64 0, .slice none 0 0] 39)) none :=
    ((grownBy_alloc _ _ none).trans (grownBy_alloc _ _ none)).trans (grownBy_alloc _ _ none)
  have hs : (((w.alloc (.cells c1 39)).alloc (.cells c2 39)).alloc (.cells #[.int .i64 0, .slice none 0 0] 39)).heap.size = w.heap.size + 1 + 1 + 1 := by simp
  intro w0
  have hw0 : w0 = ((((w.alloc (.cells c1 39)).alloc (.cells c2 39)).alloc (.cells #[.int .i64 0, .slice none 0 0] 39)).alloc (.cells #[] 24)).alloc (.cells #[.int .i64 n, .slice (some ⟨w.heap.size + 1 + 1 + 1, 0, none⟩) 0 0] 39) := rfl
  clear_value w0
  generalize ((w.alloc (.cells c1 39)).alloc (.cells c2 39)).alloc (.cells #[.int .i64 0, .slice none 0 0] 39) = w3 at *
  subst hw0
  have hm := World.ownsRow_made (e := 24) (base := w.heap.size + 1 + 1 + 1) (size := 1) w3 #[] 0 (by omega) (by unfold maxLen; omega) rfl
  rw [hs] at hm
  have ho := (OwnM.start hm).carry (grownBy_alloc _ (.cells #[.int .i64 n, .slice (some ⟨w.heap.size + 1 + 1 + 1, 0, none⟩) 0 0] 39) none)
  have s4 : (w3.alloc (.cells #[] 24)).heap.size = w.heap.size + 1 + 1 + 1 + 1 := by rw [← hs]; simp
  have e4 := alloc_heap_new (w3.alloc (.cells #[] 24)) (.cells #[.int .i64 n, .slice (some ⟨w.heap.size + 1 + 1 + 1, 0, none⟩) 0 0] 39)
  rw [s4] at e4
  have g5 := World.grownBy.trans (grownBy_alloc w3 (.cells #[] 24) none) (grownBy_alloc (w3.alloc (.cells #[] 24)) (.cells #[.int .i64 n, .slice (some ⟨w.heap.size + 1 + 1 + 1, 0, none⟩) 0 0] 39) none)
  refine ⟨(g5.block _ (by omega) (by simp)).trans hb.1, (g5.block _ (by omega) (by simp)).trans hb.2.1, (g5.block _ (by omega) (by simp)).trans hb.2.2.1, e4, ho, hg.trans g5, ?_⟩
  rw [← s4]
  simp

theorem one_set {w : World} (b : Nat) (x y : Value) : Only (fun k => k = b) w ((w.setCell ⟨b, 0, none⟩ x).setCell ⟨b, 1, none⟩ y) :=
  ⟨rfl, rfl, rfl, by simp [World.setCell], fun k _ hn => by
    rw [Below.heap_setCell _ _ _ _ hn, Below.heap_setCell _ _ _ _ hn]⟩
theorem lt_of_blk {w : World} {b : Nat} {o : Obj} (h : w.heap[b]? = some o) : b < w.heap.size := by
  rcases Nat.lt_or_ge b w.heap.size with h' | h'
  · exact h'
  · rw [Array.getElem?_eq_none h'] at h; cases h
theorem cell_alloc {w : World} {a : Addr} {u : Value} (h : w.cell? a = some u) (o : Obj) : (w.alloc o).cell? a = some u :=
  (World.cell?_of_block (w := w) (alloc_heap_old w o a.block (World.block_lt_of_cell? w a h))).trans h
theorem alloc3 {w : World} {a b c : Addr} {x y z : Value} {o : Obj} (h : w.cell? a = some x ∧ w.cell? b = some y ∧ w.cell? c = some z) : (w.alloc o).cell? a = some x ∧ (w.alloc o).cell? b = some y ∧ (w.alloc o).cell? c = some z :=
  ⟨cell_alloc h.1 o, cell_alloc h.2.1 o, cell_alloc h.2.2 o⟩
theorem times_keep1 {B b : Nat} {cs : Array Value} {w2 w3 : World} {v : Value} {vs : List Value} {T : List (List Int)} (e2 : w2.heap[b]? = some (.cells cs 39 (0, 0)))
    (ho : OwnM B w2 v vs T) (hon : Only (Hits v) w2 w3) : w3.heap[b]? = some (.cells cs 39 (0, 0)) := by
  refine (hon.block b (lt_of_blk e2) fun hh => ?_).trans e2
  obtain ⟨cur, hc⟩ := own_block ho.out hh
  rw [e2] at hc
  simp at hc
theorem foot_ne {B b : Nat} {w : World} {cs : Array Value} {v : Value} {vs : List Value} {T : List (List Int)} (h : w.heap[b]? = some (.cells cs 39 (0, 0))) (ho : OwnM B w v vs T) : ¬ Foot v vs b := by
  rintro (hh | ⟨x, hx, hh⟩)
  · obtain ⟨cur, hc⟩ := own_block ho.out hh
    rw [h] at hc
    simp at hc
  · obtain ⟨i, hi, rfl⟩ := List.getElem_of_mem hx
    have hr := ho.row i
    rw [List.getD_eq_getElem?_getD, List.getElem?_eq_getElem hi] at hr
    obtain ⟨cur, hc⟩ := own_block hr hh
    rw [h] at hc
    simp at hc
theorem set_only (w : World) (a : Addr) (x : Value) : Only (fun k => k = a.block) w (w.setCell a x) :=
  ⟨rfl, rfl, rfl, by simp [World.setCell], fun k _ hn => Below.heap_setCell _ _ _ _ hn⟩
theorem times_fin {B b : Nat} {w3 : World} {n : Int} {old x : Value} {vs : List Value} {T : List (List Int)} (h : w3.heap[b]? = some (.cells #[.int .i64 n, old] 39 (0, 0))) (ho : OwnM B w3 x vs T) :
    (w3.setCell ⟨b, 1, none⟩ x).heap[b]? = some (.cells #[.int .i64 n, x] 39 (0, 0)) ∧ OwnM B (w3.setCell ⟨b, 1, none⟩ x) x vs T := by
  refine ⟨?_, ho.only (set_only w3 ⟨b, 1, none⟩ x) fun k hk hk' => ?_⟩
  · simp only [World.setCell]
    rw [Array.getElem?_modify, if_pos rfl, h]
    rfl
  · simp only at hk'
    subst hk'
    exact foot_ne h ho hk
theorem times_below {b3 b4 : Nat} {w0 wr w2 w3 : World} {v x : Value} {vs : List Value} {T : List (List Int)} (hb : Below b3 w0 wr) (hs : b3 ≤ wr.drew.heap.size) (hg : wr.drew.grownBy w2 none) (ho : OwnM b3 w2 v vs T) (hon : Only (Hits v) w2 w3) (h4 : b3 ≤ b4) :
    Below b3 w0 (w3.setCell ⟨b4, 1, none⟩ x) :=
  (((hb.drew.grown hg hs (by simp)).trans (Only.below' ho hon (Nat.le_trans hs hg.size))).trans ((set_only w3 ⟨b4, 1, none⟩ x).below (Nat.le_trans (Nat.le_trans hs hg.size) hon.size) fun k hk => by simp only at hk; omega))
/-- the variable that holds the rows stays as it is, whatever is appended to the rows -/
theorem times_keep {B b k : Nat} {n : Int} {wr w2 w3 : World} {oa : Option Addr} {oc : Nat} {vs : List Value} {T : List (List Int)} (h4 : wr.heap[b]? = some (.cells #[.int .i64 n, .slice oa k oc] 39 (0, 0)))
    (hg : wr.drew.grownBy w2 none) (ho : OwnM B w2 (.slice oa k oc) vs T) (hon : Only (Hits (.slice oa k oc)) w2 w3) : w3.heap[b]? = some (.cells #[.int .i64 n, .slice oa k oc] 39 (0, 0)) := by
  have hlt : b < wr.heap.size := by
    rcases Nat.lt_or_ge b wr.heap.size with h | h
    · exact h
    · rw [Array.getElem?_eq_none h] at h4; cases h4
  have e2 : w2.heap[b]? = some (.cells #[.int .i64 n, .slice oa k oc] 39 (0, 0)) := (hg.block b hlt (by simp)).trans h4
  refine (hon.block b (Nat.lt_of_lt_of_le hlt hg.size) fun hh => ?_).trans e2
  obtain ⟨cur, hc⟩ := own_block ho.out hh
  rw [e2] at hc
  simp at hc
def timesL (p : Int) (A L : List (List Int)) (n : Nat) : List (List Int) := A.map fun row => combTo p row L n L.length

set_option maxRecDepth 100000 in
set_option maxHeartbeats 1000000 in
theorem times_any (p : Nat) [NeZero p] (ca : Int) (n : Nat) (u v : Value) (A L : List (List Int)) (w : World) (hp : 1 < p) (hp2 : p ≤ 1000) (hu : MatV w u A) (hv : MatV w v L) (hA : RowsOk p L.length A) (hL : RowsOk p n L) (ha : A.length ≤ 1000) (hm : L.length ≤ 1000) (hn : n ≤ 1000) :
    Calls Tryd.prog 123 #[.int .i64 p, mxV ca u, mxV n v] w fun e w' => ∃ o vs, e = .returned (mxV n o) ∧ OwnM w.heap.size w' o vs (timesL p A L n) ∧ w.grownBy w' none := by
  obtain ⟨ua, uc, rfl⟩ := hu.shape
  obtain ⟨va, vc, rfl⟩ := hv.shape
  have HU := Lib.hid hu; have HV := Lib.hid hv; have HA := Lib.hid hA; have HL := Lib.hid hL
  have HCB := Lib.hid fun (row : List Int) (r : Value) (w1 : World) (hg : w.grownBy w1 none) (hr : IntsV w r row) (hok : VecOk p L.length row) => combine_any p r _ row L n w1 hp hp2 (hr.carry hg) (hv.carry hg) hok.1 hok.2 hL hm hn
  clear hu hv hA hL
  unfold mxV at *
  generalize hla : A.length = la at *
  have HLA := Lib.hid hla
  clear hla
  go_enter Tryd.func123, Tryd.ntmps123
  go_wp2_with fail
  have hw0 := times_start w #[.int .i64 ca, .slice ua la uc] #[.int .i64 n, .slice va L.length vc] (n : Int)
  generalize ((((w.alloc (.cells #[.int .i64 ca, .slice ua la uc] 39)).alloc (.cells #[.int .i64 n, .slice va L.length vc] 39)).alloc (.cells #[.int .i64 0, .slice none 0 0] 39)).alloc (.cells #[] 24)).alloc
    (.cells #[.int .i64 n, .slice (some ⟨w.heap.size + 1 + 1 + 1, 0, none⟩) 0 0] 39) = w0 at *
  obtain ⟨g0, g1, g2, g4, gow, ggr, gsz⟩ := hw0
  have G0 := Lib.hid g0; have G1 := Lib.hid g1; have G2 := Lib.hid g2; have G4 := Lib.hid g4; have GO := Lib.hid gow; have GG := Lib.hid ggr; have GS := Lib.hid gsz
  clear g0 g1 g2 g4 gow ggr gsz
  generalize hbe : w.heap.size = b at *
  have HBE := Lib.hid hbe
  clear hbe
  go_loopw [17] (fun i wr => ∃ (k : Nat) (oa : Option Addr) (oc : Nat) (vs : List Value), k ≤ la ∧ i = .int .i64 k ∧ wr.heap[b + 1 + 1 + 1 + 1]? = some (.cells #[.int .i64 n, .slice oa k oc] 39 (0, 0)) ∧
      OwnM (b + 1 + 1 + 1) wr (.slice oa k oc) vs ((timesL p A L n).take k) ∧ Below (b + 1 + 1 + 1) w0 wr) (fun i _ => la - (intOf i).toNat)
  case atStart => exact ⟨0, _, _, [], by omega, rfl, G4.out, GO.out, Below.refl _ _⟩
  case round =>
    obtain ⟨k, oa, oc, vs, hk, rfl, h4, hown, hbel⟩ := hrel
    have H4 := Lib.hid h4; have HO := Lib.hid hown; have HB := Lib.hid hbel
    have hszr := hbel.size
    have d0 := (hbel.block b (by omega)).trans G0.out
    have d1 := (hbel.block (b + 1) (by omega)).trans G1.out
    have hgr : w.grownBy wr none := grown_of_below ((Below.grown (Below.refl _ w) GG.out (Nat.le_refl _) (by simp)).trans (hbel.mono (by rw [HBE.out]; omega)))
    have HGR := Lib.hid hgr
    clear hown hbel
    by_cases hlt : k < la
    · have hka : k < A.length := by rw [HLA.out]; exact hlt
      obtain ⟨d, r, c, hae, hs, hd, hcell, hrow⟩ := HU.out.row hka
      have hrok := HA.out _ (List.getElem_mem hka)
      have hcell2 := (World.cell?_of_block (w := w) (a := ⟨d.block, d.off + k, none⟩) (hgr.block d.block hd (by simp))).trans hcell
      subst hae
      obtain ⟨db, dof, _⟩ := d
      simp only at hs hcell2
      subst hs
      have hnext : (timesL p A L n).take (k + 1) = (timesL p A L n).take k ++ [combTo p A[k] L n L.length] := by
        have : k < (timesL p A L n).length := by unfold timesL; rw [List.length_map]; exact hka
        rw [← take_push this]
        simp [timesL]
      have HN := Lib.hid hnext
      have hlk : ((timesL p A L n).take k).length = k := by rw [List.length_take]; unfold timesL; rw [List.length_map, HLA.out]; omega
      have HLK := Lib.hid hlk
      rw [hrok.1] at hcell2 hrow
      have HC := Lib.hid fun w' (h : w.grownBy w' none) => HCB.out A[k] _ w' h hrow hrok
      have c41 := cell_blk h4 1
      have c11 := cell_blk d1 1
      have c10 := cell_blk d1 0
      simp only [List.getElem?_toArray, List.getElem?_cons_zero, List.getElem?_cons_succ] at c41 c11 c10
      have hgd : w.grownBy wr.drew none := ⟨hgr.os, hgr.tape, hgr.output, hgr.size, hgr.block⟩
      have HGD := Lib.hid hgd
      have D1 := Lib.hid d1
      have hszr2 : b + 1 + 1 + 1 ≤ wr.drew.heap.size := by have := GS.out; show _ ≤ wr.heap.size; omega
      clear hnext hlk hrow hrok hcell hgd hgr d0 d1 h4
      generalize A[k] = row at *
      go_wp2_with fail
      go_region_law
        (first
        | (go_simp
           go_at_call 170
           refine (HC.out _ HGD.out).mono ?_
           rintro e w2 ⟨o, rfl, ho, hg⟩
           obtain ⟨oa2, oc2, hoe⟩ := own_shape ho
           subst hoe
           have A1 := Lib.hid (after_row (HO.out.only (Only.drew (fun _ => False) wr) (fun _ _ h => h)) hszr2 (ho) hg)
           have HG2 := Lib.hid hg
           have q4 := (hg.block (b + 1 + 1 + 1 + 1) (lt_of_blk (w := wr.drew) H4.out) (by simp)).trans H4.out
           have q1 := (hg.block (b + 1) (lt_of_blk (w := wr.drew) D1.out) (by simp)).trans D1.out
           have Q1 := Lib.hid q1
           have q41 := cell_blk q4 1
           have q11 := cell_blk q1 1
           have q10 := cell_blk q1 0
           simp only [List.getElem?_toArray, List.getElem?_cons_zero, List.getElem?_cons_succ] at q41 q11 q10
           have z41 := fun o => cell_alloc q41 o
           clear ho hg q1 q4)
        | (refine step_app_row rfl _ _ rfl rfl rfl A1.out.1 A1.out.2.1 A1.out.2.2.1 A1.out.2.2.2 (by rw [HLK.out]; omega) ?_
           intro g3 vc3 w3 hown' hon'
           rw [HLK.out] at hown' ⊢
           have HO3 := Lib.hid hown'; have HN3 := Lib.hid hon'
           have h43 := times_keep H4.out HG2.out A1.out.1 hon'
           have H43 := Lib.hid h43
           have h13 := times_keep1 Q1.out A1.out.1 hon'
           have c43 := cell_blk h43 1
           have f43 := free_blk h43 1
           have r11 := cell_blk h13 1
           have r10 := cell_blk h13 0
           simp only [List.getElem?_toArray, List.getElem?_cons_zero, List.getElem?_cons_succ] at c43 r11 r10
           clear hown' hon' h43 h13))
      all_goals
        have FIN := Lib.hid (times_fin (x := .slice (some ⟨g3, 0, none⟩) (k + 1) vc3) H43.out HO3.out)
        have FB := Lib.hid (times_below HB.out hszr2 HG2.out A1.out.1 HN3.out (b4 := b + 1 + 1 + 1 + 1) (x := .slice (some ⟨g3, 0, none⟩) (k + 1) vc3) (by omega))
        clear c43 f43 r11 r10 q41 q11 q10 z41
        go_wp2
        go_roundw
        case rel => exact ⟨k + 1, _, _, _, by omega, by go_num, FIN.out.1, by rw [HN.out]; exact FIN.out.2, FB.out⟩
        case measure => simp [intOf]; omega
    · have hkm : k = la := by omega
      subst hkm
      have hall : (timesL p A L n).take k = timesL p A L n := List.take_of_length_le (by unfold timesL; rw [List.length_map, HLA.out]; exact Nat.le_refl _)
      have HALL := Lib.hid hall
      have e2 := (HB.out.block (b + 1 + 1) (by have := GS.out; omega)).trans G2.out
      have c40 := cell_blk h4 0
      have c41 := cell_blk h4 1
      have c20 := cell_blk e2 0
      have c21 := cell_blk e2 1
      have f20 := free_blk e2 0
      have f21 := free_blk e2 1
      simp only [List.getElem?_toArray, List.getElem?_cons_zero, List.getElem?_cons_succ] at c40 c41 c20 c21
      clear d0 d1 h4 hgr hall e2
      go_wp2
      refine bodyPost_ret_by (v := .agg #[.int .i64 n, .slice oa k oc]) ?_ rfl ?_
      · simp [results, go_sem, *]
      · have o5 := one_set (w := wr) (b + 1 + 1) (.int .i64 n) (.slice oa k oc)
        refine ⟨_, vs, rfl, ?_, ?_⟩
        · have := HO.out
          rw [HALL.out] at this
          exact (this.only o5 fun q hq hq' => by have := (HO.out.lt (by exact hq)).1; omega).base (by rw [HBE.out]; omega)
        · exact grown_of_below ((Below.grown (Below.refl _ w) HGR.out (Nat.le_refl _) (by simp)).trans (o5.below HGR.out.size fun q hq => by rw [HBE.out]; omega))

end Go.Proofs.YtpeaeminjbjlnaaDoor

/-
  Products that are checked. Conditions: lengths are small.
-/
namespace Go.Proofs.YtpeaeminjbjlnaaDoor
open Go.RowKit
set_option linter.unusedVariables false

set_option maxRecDepth 100000 in
set_option maxHeartbeats 1000000 in
theorem mulMatrices_yes (p : Nat) [NeZero p] (ca cb : Int) (u v : Value) (A L : List (List Int)) (w : World) (ht : Tab w) (hu : MatV w u A) (hv : MatV w v L) (hA : matB p ca A = true) (hL : matB p cb L = true) (hc : ca = L.length) :
    Calls Tryd.prog 29 #[.int .i64 p, mxV ca u, mxV cb v] w fun e w' => ∃ o, e = .returned (.tuple #[mxV cb o, .bool true]) ∧ MatV w' o (timesL p A L cb.toNat) ∧ w.grownBy w' none := by
  obtain ⟨hfld, hp2, n1, rfl, hn1, hm1, hA'⟩ := matB_parts hA
  obtain ⟨_, _, n, rfl, hn, hm, hL'⟩ := matB_parts hL
  have hc' : n1 = L.length := by omega
  subst hc'
  rw [Int.toNat_natCast]
  have HI1 := Lib.hid fun w1 (hg : w.grownBy w1 none) => isMatrix_any p (L.length : Int) u A w1 (ht.grown hg) (hu.carry hg) (by omega) (fun row hrow => by rw [(hA' row hrow).1]; omega)
  have HI2 := Lib.hid fun w1 (hg : w.grownBy w1 none) => isMatrix_any p (n : Int) v L w1 (ht.grown hg) (hv.carry hg) (by omega) (fun row hrow => by rw [(hL' row hrow).1]; omega)
  rw [hA] at HI1
  rw [hL] at HI2
  have HT := Lib.hid fun w1 (hg : w.grownBy w1 none) => times_any p (L.length : Int) n u v A L w1 (lt_p hfld) hp2 (hu.carry hg) (hv.carry hg) hA' hL' (by omega) (by omega) (by omega)
  obtain ⟨ua, uc, rfl⟩ := hu.shape
  obtain ⟨va, vc, rfl⟩ := hv.shape
  clear hu hv hA hL hA' hL' ht hc hfld
  unfold mxV at *
  go_enter Tryd.func29, Tryd.ntmps29
  go_wp2_with (first
      | (go_at_call 117
         with_reducible refine (HI1.out _ ?_).mono ?_
         · exact ((grownBy_alloc _ _ none).trans (grownBy_alloc _ _ none)).trans (grownBy_alloc _ _ none)
         rintro e w1 ⟨rfl, hg1⟩
         obtain ⟨b1, b2, b3, b4⟩ := blk3 w _ _ _ hg1
         have HW1 := Lib.hid (grown_of_below (Below.grown ((((Below.refl _ w).alloc (Nat.le_refl _) _).alloc (by simp) _).alloc (by simp; omega) _) hg1 (by simp; omega) (by simp)))
         have c10 := cell_blk b1 0
         have c11 := cell_blk b1 1
         have c20 := cell_blk b2 0
         have c21 := cell_blk b2 1
         simp only [List.getElem?_toArray, List.getElem?_cons_zero, List.getElem?_cons_succ] at c10 c11 c20 c21
         have B1 := Lib.hid b1; have B2 := Lib.hid b2; have B3 := Lib.hid b3; have B4 := Lib.hid b4
         clear hg1 b1 b2 b3 b4)
      | (go_at_call 117
         with_reducible refine (HI2.out _ HW1.out).mono ?_
         rintro e w2 ⟨rfl, hg2⟩
         have b1 := (hg2.block _ (lt_of_blk B1.out) (by simp)).trans B1.out
         have b2 := (hg2.block _ (lt_of_blk B2.out) (by simp)).trans B2.out
         have b3 := (hg2.block _ (lt_of_blk B3.out) (by simp)).trans B3.out
         have HW2 := Lib.hid (HW1.out.trans hg2)
         have d10 := cell_blk b1 0
         have d11 := cell_blk b1 1
         have d20 := cell_blk b2 0
         have d21 := cell_blk b2 1
         simp only [List.getElem?_toArray, List.getElem?_cons_zero, List.getElem?_cons_succ] at d10 d11 d20 d21
         have E3 := Lib.hid b3
         have hsz2 := Lib.hid (lt_of_blk b3)
         clear hg2 b1 b2 b3)
      | (go_at_call 123
         with_reducible refine (HT.out _ HW2.out).mono ?_
         rintro e w3 ⟨o, ovs, rfl, ho, hg3⟩
         have b3 := (hg3.block _ (lt_of_blk E3.out) (by simp)).trans E3.out
         have HW3 := Lib.hid (HW2.out.trans hg3)
         obtain ⟨oa, oc, hoe, _, _⟩ := own_form ho
         subst hoe
         have HO := Lib.hid ho
         have e30 := cell_blk b3 0
         have e31 := cell_blk b3 1
         have f30 := free_blk b3 0
         have f31 := free_blk b3 1
         simp only [List.getElem?_toArray, List.getElem?_cons_zero, List.getElem?_cons_succ] at e30 e31
         clear hg3 ho b3))
  refine bodyPost_ret_by (v := .tuple #[.agg #[.int .i64 n, .slice oa (timesL p A L n).length oc], .bool true]) ?_ rfl ?_
  · simp [results, go_sem, *]
  · have o5 := one_set (w := w3) (w.heap.size + 1 + 1) (.int .i64 n) (.slice oa (timesL p A L n).length oc)
    refine ⟨_, rfl, (HO.out.only o5 fun q hq hq' => by have h1 := (HO.out.lt hq).1; have h2 := hsz2.out; omega).read, ?_⟩
    exact grown_of_below ((Below.grown (Below.refl _ w) HW3.out (Nat.le_refl _) (by simp)).trans (o5.below HW3.out.size fun q hq => by omega))

end Go.Proofs.YtpeaeminjbjlnaaDoor

/-
  Identities, squares, inverses. Conditions: lengths are small.
-/
namespace Go.Proofs.YtpeaeminjbjlnaaDoor
open Go.RowKit
set_option linter.unusedVariables false

theorem isSquare_any (cols : Int) (v : Value) (L : List (List Int)) (w : World) (hv : MatV w v L) (hl : L.length ≤ 1000000) :
    Calls Tryd.prog 124 #[mxV cols v] w fun e w' => e = .returned (.bool (decide ((L.length : Int) = cols))) ∧ w.grownBy w' none := by
  unfold mxV
  obtain ⟨a, c, rfl⟩ := hv.shape
  clear hv
  by_cases h : (L.length : Int) = cols
  · have hd : decide ((L.length : Int) = cols) = true := decide_eq_true h
    have hb : ((L.length : Int) == cols) = true := by rw [beq_iff_eq]; exact h
    have HD := Lib.hid hd
    clear hd h
    generalize L.length = l at *
    go_enter Tryd.func124, Tryd.ntmps124
    go_wp2
    go_ret
    exact ⟨by rw [HD.out]; rfl, grownBy_alloc _ _ _⟩
  · have hd : decide ((L.length : Int) = cols) = false := decide_eq_false h
    have hb : ((L.length : Int) == cols) = false := by rw [beq_eq_false_iff_ne]; exact h
    have HD := Lib.hid hd
    clear hd h
    generalize L.length = l at *
    go_enter Tryd.func124, Tryd.ntmps124
    go_wp2
    go_ret
    exact ⟨by rw [HD.out]; rfl, grownBy_alloc _ _ _⟩

set_option maxRecDepth 100000 in
theorem identity_any (n : Nat) (w : World) (hn : n ≤ 24) :
    Calls Tryd.prog 31 #[.int .i64 n] w fun e w' => ∃ o, e = .returned (.tuple #[mxV n o, .bool true]) ∧ MatV w' o (idL n) ∧ w.grownBy w' none := by
  unfold mxV
  have hd : decide ((0 : Int) ≤ n ∧ (n : Int) ≤ 24) = true := decide_eq_true (by omega)
  have HD := Lib.hid hd
  clear hd
  go_enter Tryd.func31, Tryd.ntmps31
  go_wp2_with (first
    | (go_at_call 125; refine (within_any _ _ _ _).mono ?_; rintro e w' ⟨he, rfl⟩; rw [HD.out] at he; subst he)
    | (go_at_call 119
       refine (identityRows_any n _ (by omega)).mono ?_
       rintro e w1 ⟨o, vs, rfl, ho, hg⟩
       obtain ⟨oa, oc, hoe, _, _⟩ := own_form ho
       rw [idL_len] at hoe
       subst hoe
       obtain ⟨hbl, hgw⟩ := box1 w _ _ hg
       have HO := Lib.hid ho; have HG := Lib.hid hgw
       have HS := Lib.hid (show w.heap.size + 1 ≤ (w.alloc (.cells #[.int .i64 0, .slice none 0 0] 39)).heap.size by simp)
       have c0 := cell_blk hbl 0
       have c1 := cell_blk hbl 1
       have f0 := free_blk hbl 0
       have f1 := free_blk hbl 1
       simp only [List.getElem?_toArray, List.getElem?_cons_zero, List.getElem?_cons_succ] at c0 c1
       clear ho hg hbl hgw))
  refine bodyPost_ret_by (v := .tuple #[.agg #[.int .i64 n, .slice oa n oc], .bool true]) ?_ rfl ?_
  · simp [results, go_sem, *]
  · have o5 := one_set (w := w1) w.heap.size (.int .i64 n) (.slice oa n oc)
    refine ⟨_, rfl, (HO.out.only o5 fun q hq hq' => by have h1 := (HO.out.lt hq).1; have h2 := HS.out; omega).read, ?_⟩
    exact grown_of_below ((Below.grown (Below.refl _ w) HG.out (Nat.le_refl _) (by simp)).trans (o5.below HG.out.size fun q hq => by omega))

end Go.Proofs.YtpeaeminjbjlnaaDoor

/-
  Inverses. Conditions: lengths are small; the rank is whole.
-/
namespace Go.Proofs.YtpeaeminjbjlnaaDoor
open Go.RowKit
set_option linter.unusedVariables false

theorem blk2 (w : World) (o1 o2 : Obj) {w' : World} (h : ((w.alloc o1).alloc o2).grownBy w' none) :
    w'.heap[w.heap.size]? = some o1 ∧ w'.heap[w.heap.size + 1]? = some o2 ∧ w.heap.size + 1 + 1 ≤ w'.heap.size := by
  have s1 : (w.alloc o1).heap.size = w.heap.size + 1 := by simp
  have s2 : ((w.alloc o1).alloc o2).heap.size = w.heap.size + 1 + 1 := by simp
  have e1 := alloc_heap_new w o1
  have e2 := alloc_heap_new (w.alloc o1) o2
  have f1 := alloc_heap_old (w.alloc o1) o2 w.heap.size (by omega)
  rw [s1] at e2
  refine ⟨?_, ?_, by rw [← s2]; exact h.size⟩
  · rw [h.block _ (by omega) (by simp), f1, e1]
  · rw [h.block _ (by omega) (by simp), e2]

set_option maxRecDepth 100000 in
set_option maxHeartbeats 1000000 in
theorem inverseOf_yes (p n : Nat) [NeZero p] (u : Value) (L : List (List Int)) (w : World) (ht : Tab w) (hv : MatV w u L) (hb : matB p n L = true) (hsq : L.length = n) (hrank : (redTo p L (idL n) n).r = n) :
    Calls Tryd.prog 30 #[.int .i64 p, mxV n u] w fun e w' => ∃ o, e = .returned (.tuple #[mxV n o, .bool true]) ∧ MatV w' o (redTo p L (idL n) n).T ∧ w.grownBy w' none := by
  obtain ⟨hfld, hp2, n', hn', hn, hm, hL⟩ := matB_parts hb
  have : n' = n := by omega
  subst this
  have hsh := hv.shape
  have HIS := Lib.hid fun w1 (hg : w.grownBy w1 none) => isMatrix_any p n' u L w1 (ht.grown hg) (hv.carry hg) (by omega) (fun row hrow => by rw [(hL row hrow).1]; omega)
  rw [hb] at HIS
  have HSQ := Lib.hid fun w1 (hg : w.grownBy w1 none) => isSquare_any n' u L w1 (hv.carry hg) (by omega)
  rw [show decide ((L.length : Int) = n') = true from decide_eq_true (by omega)] at HSQ
  have HCL := Lib.hid fun w1 (hg : w.grownBy w1 none) => clones_any u L w1 (hv.carry hg) (by omega) (fun row hrow => by rw [(hL row hrow).1]; omega)
  unfold mxV at *
  rw [hsq] at hsh
  obtain ⟨ua, uc, rfl⟩ := hsh
  have HLEN := Lib.hid hsq
  clear hv ht hb hsq hn'
  go_enter Tryd.func30, Tryd.ntmps30
  go_wp2_with (first
    | (go_at_call 117
       with_reducible refine (HIS.out _ ?_).mono ?_
       · exact (grownBy_alloc _ _ none).trans (grownBy_alloc _ _ none)
       rintro e w1 ⟨rfl, hg1⟩
       obtain ⟨b1, b2, b3⟩ := blk2 w _ _ hg1
       have HW1 := Lib.hid (((grownBy_alloc w _ none).trans (grownBy_alloc _ _ none)).trans hg1)
       have c0 := cell_blk b1 0
       have c1 := cell_blk b1 1
       simp only [List.getElem?_toArray, List.getElem?_cons_zero, List.getElem?_cons_succ] at c0 c1
       have B1 := Lib.hid b1; have B2 := Lib.hid b2; have B3 := Lib.hid b3
       clear hg1 b1 b2 b3)
    | (go_at_call 124
       with_reducible refine (HSQ.out _ HW1.out).mono ?_
       rintro e w2 ⟨rfl, hg2⟩
       have b1 := (hg2.block _ (lt_of_blk B1.out) (by simp)).trans B1.out
       have b2 := (hg2.block _ (lt_of_blk B2.out) (by simp)).trans B2.out
       have HW2 := Lib.hid (HW1.out.trans hg2)
       have d0 := cell_blk b1 0
       have d1 := cell_blk b1 1
       simp only [List.getElem?_toArray, List.getElem?_cons_zero, List.getElem?_cons_succ] at d0 d1
       have D1 := Lib.hid b1; have D2 := Lib.hid b2
       clear hg2 b1 b2))
  have HWD := Lib.hid (show w.grownBy w2.drew none from ⟨HW2.out.os, HW2.out.tape, HW2.out.output, HW2.out.size, HW2.out.block⟩)
  have hb2 := lt_of_blk D2.out
  generalize hbe : w.heap.size = b at *
  have HBE := Lib.hid hbe
  clear hbe
  go_region_held3 (fun w' => w'.cell? ⟨b, 1, none⟩ = some (.slice ua n' uc) ∧ w'.cell? ⟨b, 0, none⟩ = some (.int .i64 n')) (first | exact ⟨d1, d0⟩ | exact ⟨e1, e0⟩ | exact ⟨f1, f0⟩)
    (first
      | (go_at_call 118
         refine (HCL.out _ HWD.out).mono ?_
         rintro e w3 ⟨v, vs, rfl, hown, hg⟩
         have b1 := (hg.block b (by show b < w2.heap.size; omega) (by simp)).trans D1.out
         have e0 := cell_blk b1 0
         have e1 := cell_blk b1 1
         simp only [List.getElem?_toArray, List.getElem?_cons_zero, List.getElem?_cons_succ] at e0 e1
         have HO := Lib.hid hown; have HG := Lib.hid hg; have E1 := Lib.hid b1
         clear hown hg b1)
      | (go_at_call 119
         refine (identityRows_any n' _ (by omega)).mono ?_
         rintro e w4 ⟨v2, vs2, rfl, hown2, hg2⟩
         have b1 := (hg2.block b (lt_of_blk E1.out) (by simp)).trans E1.out
         have f0 := cell_blk b1 0
         have f1 := cell_blk b1 1
         simp only [List.getElem?_toArray, List.getElem?_cons_zero, List.getElem?_cons_succ] at f0 f1
         have HO2 := Lib.hid hown2; have HG2 := Lib.hid hg2; have F1 := Lib.hid b1
         clear hown2 hg2 b1))
  obtain ⟨va, vc, hve, hvi, hcap⟩ := own_form HO.out
  obtain ⟨va2, vc2, hve2, hvi2, hcap2⟩ := own_form HO2.out
  rw [HLEN.out] at hve
  rw [idL_len] at hve2
  subst hve hve2
  have HTW := Lib.hid (two_ids HO.out HG.out HO2.out HG2.out)
  have HFIT := Lib.hid (show Fit p n' n' n' L (idL n') from ⟨HLEN.out, idL_len _, hL, idL_ok (lt_p hfld)⟩)
  have hbel4 : Below w2.heap.size w2 w4 := Below.grown (Below.grown (show Below w2.heap.size w2 w2.drew from ⟨rfl, rfl, rfl, Nat.le_refl _, fun _ _ => rfl⟩) HG.out (Nat.le_refl _) (by simp)) HG2.out HG.out.size (by simp)
  have HB4 := Lib.hid hbel4
  have HB4D := Lib.hid (show Below w2.heap.size w2 w4.drew from ⟨hbel4.os, hbel4.tape, hbel4.output, hbel4.size, hbel4.block⟩)
  have HTWD := Lib.hid (show Two w2.drew.heap.size w4.drew _ _ _ _ L (idL n') from ⟨HTW.out.mR.only (Only.drew (fun _ => False) w4) (fun _ _ h => h), HTW.out.mT.only (Only.drew (fun _ => False) w4) (fun _ _ h => h), HTW.out.ap⟩)
  have HRK := Lib.hid hrank
  clear e1 e0 d1 d0 c0 c1 hbel4 hvi hvi2 hcap hcap2 hrank
  go_wp2_with fail
  go_region_held3 (fun w' => w'.cell? ⟨b, 0, none⟩ = some (.int .i64 n')) (first | exact f0 | exact g0)
    (first
      | (go_at_call 120
         refine (reduction_any p _ _ _ _ L _ n' n' n' _ _ hfld HTWD.out HFIT.out (by omega) (by omega) (by omega) hp2).mono ?_
         rintro e w5 ⟨rfl, vs', us', t, on⟩
         rw [HRK.out]
         have HB5 := Lib.hid (HB4D.out.trans (on.below HB4D.out.size fun k hk => HTWD.out.base hk))
         have g0 : w5.cell? ⟨b, 0, none⟩ = some (.int .i64 n') := cell_blk ((HB5.out.block b (by omega)).trans D1.out) 0
         have HT5 := Lib.hid t
         clear t on))
  have b2 := (HB5.out.block (b + 1) hb2).trans D2.out
  have B5 := Lib.hid b2
  have k0 := cell_blk b2 0
  have k1 := cell_blk b2 1
  have x0 := free_blk b2 0
  have x1 := free_blk b2 1
  simp only [List.getElem?_toArray, List.getElem?_cons_zero, List.getElem?_cons_succ] at k0 k1
  clear b2 f0 f1
  go_wp2
  refine bodyPost_ret_by (v := .tuple #[.agg #[.int .i64 n', .slice va2 n' vc2], .bool true]) ?_ rfl ?_
  · simp [results, go_sem, *]
  · have o5 := one_set (w := w5) (b + 1) (.int .i64 n') (.slice va2 n' vc2)
    refine ⟨_, rfl, (HT5.out.mT.only o5 fun q hq hq' => by have h1 := (HT5.out.mT.lt hq).1; have h2 : w2.drew.heap.size = w2.heap.size := rfl; omega).read, ?_⟩
    exact grown_of_below (((Below.grown (Below.refl _ w) HW2.out (Nat.le_refl _) (by simp)).trans (HB5.out.mono HW2.out.size)).trans (o5.below (Nat.le_trans HW2.out.size HB5.out.size) fun q hq => by rw [HBE.out]; omega))

end Go.Proofs.YtpeaeminjbjlnaaDoor

/-
  Comparisons of lists: what is answered, and that nothing but draws happens. Conditions: lengths are small.
-/
namespace Go.Proofs.YtpeaeminjbjlnaaDoor
open Go.RowKit
set_option linter.unusedVariables false

/-- sameInts: nothing but draws. -/
theorem sameInts_q (v1 v2 : Value) (x y : List Int) (w : World) (h1 : IntsV w v1 x) (h2 : IntsV w v2 y) (l1 : x.length ≤ 1000000000) (l2 : y.length ≤ 1000000000) :
    Calls Tryd.prog 17 #[v1, v2] w fun e w' => e = .returned (.bool (x == y)) ∧ ∃ q, w' = w.drewN q := by
  obtain ⟨a1, c1, rfl, r1⟩ := h1
  obtain ⟨a2, c2, rfl, r2⟩ := h2
  have R1 := Lib.hid r1; have R2 := Lib.hid r2
  clear r1 r2
  by_cases hl : x.length = y.length
  · generalize hlx : x.length = l at *
    have HLX := Lib.hid hlx; have HLY := Lib.hid hl
    rw [← HLY.out]
    clear hlx hl
    go_enter Tryd.func17, Tryd.ntmps17
    go_wp2
    go_loopw [13] (fun i wr => ∃ k : Nat, k ≤ l ∧ i = .int .i64 k ∧ (∀ j (h : j < x.length) (h' : j < y.length), j < k → x[j] = y[j]) ∧ ∃ q, wr = w.drewN q) (fun i _ => l - (intOf i).toNat)
    case atStart => exact ⟨0, by omega, rfl, fun _ _ _ h => absurd h (by omega), 0, rfl⟩
    case round =>
      obtain ⟨k, hk, rfl, ho, q0, rfl⟩ := hrel
      have HO := Lib.hid ho
      clear ho
      by_cases hlt : k < l
      · have hkx : k < x.length := by rw [HLX.out]; exact hlt
        have hky : k < y.length := by rw [← HLY.out]; exact hlt
        obtain ⟨d1, ha1, hs1, hd1, hi1⟩ := R1.out (by intro h; rw [h] at hkx; simp at hkx)
        obtain ⟨d2, ha2, hs2, hd2, hi2⟩ := R2.out (by intro h; rw [h] at hky; simp at hky)
        subst ha1 ha2
        obtain ⟨b1, o1, _⟩ := d1
        obtain ⟨b2, o2, _⟩ := d2
        simp only at hs1 hs2 hd1 hd2
        subst hs1 hs2
        have hc1 := hi1 k hkx
        have hc2 := hi2 k hky
        generalize hzx : x[k] = zx at hc1
        generalize hzy : y[k] = zy at hc2
        have HZX := Lib.hid hzx; have HZY := Lib.hid hzy
        clear hzx hzy hi1 hi2 hd1 hd2
        by_cases he : zx = zy
        · subst he
          go_wp2
          go_quiet (fail)
          go_wp2
          go_roundw
          case rel => exact ⟨k + 1, by omega, by go_num, fun j h h' hj => by
            by_cases hjk : j = k
            · subst hjk; rw [HZX.out, HZY.out]
            · exact HO.out j h h' (by omega), ⟨_, rfl⟩⟩
          case measure => simp [intOf]; omega
        · have hb : (zx != zy) = true := by rw [bne_iff_ne]; exact he
          have hfin : (x == y) = false := by
            rw [beq_eq_false_iff_ne]
            intro h
            subst h
            exact he (HZX.out.symm.trans HZY.out)
          have HF := Lib.hid hfin
          clear hfin he
          go_wp2
          go_quiet (fail)
          go_wp2
          go_ret
          exact ⟨by rw [HF.out]; rfl, _, World.drewN_drewN _ _ _⟩
      · have hfin : (x == y) = true := by
          rw [beq_iff_eq]
          refine List.ext_getElem (by rw [HLX.out, HLY.out]) fun j h h' => HO.out j h h' (by have := HLX.out; omega)
        have HF := Lib.hid hfin
        clear hfin
        go_wp2
        go_ret
        exact ⟨by rw [HF.out]; rfl, _, rfl⟩
  · have hfin : (x == y) = false := by
      rw [beq_eq_false_iff_ne]
      intro h
      exact hl (by rw [h])
    have hb : ((x.length : Int) != y.length) = true := by rw [bne_iff_ne]; omega
    have HF := Lib.hid hfin
    clear hfin hl
    go_enter Tryd.func17, Tryd.ntmps17
    go_wp2
    go_ret
    exact ⟨by rw [HF.out]; rfl, 0, rfl⟩

theorem grown_drewN (w : World) (q : Nat) : w.grownBy (w.drewN q) none := ⟨rfl, rfl, rfl, Nat.le_refl _, fun _ _ _ => rfl⟩
theorem quiet_more {P : Program} {f : FuncId} {args : Array Value} {w : World} {a n : Nat} {v : Value}
    (h : ∀ W : World, w.grownBy W none → Calls P f args W fun e w' => e = .returned v ∧ ∃ m, w' = W.drewN m) :
    Calls P f args (w.drewN (a + n)) fun e w'' => e = .returned v ∧ ∃ m, w'' = w.drewN (a + m) :=
  (h _ (grown_drewN _ _)).mono fun _ _ ⟨he, m, hm⟩ => ⟨he, n + m, by rw [hm, World.drewN_drewN, Nat.add_assoc]⟩

theorem sameLists_q (v1 v2 : Value) (X Y : List (List Int)) (w : World) (h1 : MatV w v1 X) (h2 : MatV w v2 Y) (l1 : X.length ≤ 1000000) (l2 : Y.length ≤ 1000000) (m1 : ∀ row ∈ X, row.length ≤ 1000000) (m2 : ∀ row ∈ Y, row.length ≤ 1000000) :
    Calls Tryd.prog 53 #[v1, v2] w fun e w' => e = .returned (.bool (X == Y)) ∧ ∃ q, w' = w.drewN q := by
  obtain ⟨a1, c1, rfl⟩ := h1.shape
  obtain ⟨a2, c2, rfl⟩ := h2.shape
  have R1 := Lib.hid h1; have R2 := Lib.hid h2; have M1 := Lib.hid m1; have M2 := Lib.hid m2
  clear h1 h2 m1 m2
  by_cases hl : X.length = Y.length
  · rw [← hl]
    generalize hlx : X.length = l at *
    have HLX := Lib.hid hlx; have HLY := Lib.hid hl
    clear hlx hl
    go_enter Tryd.func53, Tryd.ntmps53
    go_wp2
    go_loopw [13] (fun i wr => ∃ k : Nat, k ≤ l ∧ i = .int .i64 k ∧ (∀ j (h : j < X.length) (h' : j < Y.length), j < k → X[j] = Y[j]) ∧ ∃ q, wr = w.drewN q) (fun i _ => l - (intOf i).toNat)
    case atStart => exact ⟨0, by omega, rfl, fun _ _ _ h => absurd h (by omega), 0, rfl⟩
    case round =>
      obtain ⟨k, hk, rfl, ho, q0, rfl⟩ := hrel
      have HO := Lib.hid ho
      clear ho
      by_cases hlt : k < l
      · have hkx : k < X.length := by rw [HLX.out]; exact hlt
        have hky : k < Y.length := by rw [← HLY.out]; exact hlt
        obtain ⟨d1, r1, rc1, ha1, hs1, hd1, hc1, hr1⟩ := R1.out.row hkx
        obtain ⟨d2, r2, rc2, ha2, hs2, hd2, hc2, hr2⟩ := R2.out.row hky
        subst ha1 ha2
        obtain ⟨b1, o1, _⟩ := d1
        obtain ⟨b2, o2, _⟩ := d2
        simp only at hs1 hs2 hd1 hd2 hc1 hc2
        subst hs1 hs2
        have A := Lib.hid fun W (h : w.grownBy W none) => sameInts_q _ _ X[k] Y[k] W (hr1.carry h) (hr2.carry h) (by have := M1.out _ (List.getElem_mem hkx); omega) (by have := M2.out _ (List.getElem_mem hky); omega)
        clear hr1 hr2 hd1 hd2
        generalize X[k].length = n1 at *
        generalize Y[k].length = n2 at *
        cases he : (X[k] == Y[k])
        · rw [he] at A
          have hfin : (X == Y) = false := by
            rw [beq_eq_false_iff_ne]
            intro h
            subst h
            simp at he
          have HF := Lib.hid hfin
          clear hfin he
          go_wp2
          go_quiet ((go_at_call 17; exact quiet_more A.out))
          go_wp2
          go_ret
          exact ⟨by rw [HF.out]; rfl, _, World.drewN_drewN _ _ _⟩
        · rw [he] at A
          have HE := Lib.hid (eq_of_beq he)
          clear he
          go_wp2
          go_quiet ((go_at_call 17; exact quiet_more A.out))
          go_wp2
          go_roundw
          case rel => exact ⟨k + 1, by omega, by go_num, fun j h h' hj => by
            by_cases hjk : j = k
            · subst hjk; exact HE.out
            · exact HO.out j h h' (by omega), _, rfl⟩
          case measure => simp [intOf]; omega
      · have hfin : (X == Y) = true := by
          rw [beq_iff_eq]
          refine List.ext_getElem (by rw [HLX.out, HLY.out]) fun j h h' => HO.out j h h' (by have := HLX.out; omega)
        have HF := Lib.hid hfin
        clear hfin
        go_wp2
        go_ret
        exact ⟨by rw [HF.out]; rfl, _, rfl⟩
  · have hfin : (X == Y) = false := by
      rw [beq_eq_false_iff_ne]
      intro h
      exact hl (by rw [h])
    have hb : ((X.length : Int) != Y.length) = true := by rw [bne_iff_ne]; omega
    have HF := Lib.hid hfin
    clear hfin hl
    go_enter Tryd.func53, Tryd.ntmps53
    go_wp2
    go_ret
    exact ⟨by rw [HF.out]; rfl, 0, rfl⟩

end Go.Proofs.YtpeaeminjbjlnaaDoor

/-
  Separators: the program's and the specification's. Conditions: the sizes are small.
-/
import Derived.Test.YtpeaeminjbjlnaaDoorMs18
import Derived.Test.YtpeaeminjbjlnaaDoorMs15
import Derived.Test.YtpeaeminjbjlnaaDoorMs08
import Derived.Test.YtpeaeminjbjlnaaDoorMs13
import Derived.Deep.RegionHeld3
import Derived.Deep.RegionLaw
namespace Go.Proofs.YtpeaeminjbjlnaaDoor
open Go.RowKit
set_option linter.unusedVariables false

theorem IsRed.len_le {p n : Nat} [NeZero p] {L : List (List Int)} (h : IsRed p n L) : L.length ≤ n := by
  obtain ⟨hok, piv, hr⟩ := h
  have key : ∀ i, i < L.length → i ≤ piv i := by
    intro i
    induction i with
    | zero => intro _; omega
    | succ i ih =>
      intro hi
      have h1 := ih (by omega)
      have h2 := hr.inc i (i + 1) (by omega) hi
      omega
  rcases Nat.eq_zero_or_pos L.length with h0 | h0
  · omega
  · have h1 := key (L.length - 1) (by omega)
    have h2 := hr.lt (L.length - 1) (by omega)
    omega
theorem Pre.rowOwn {B : Nat} {w : World} {v : Value} {K : List (List Int)} (h : Pre B w v K) {k : Nat} (hk : k < K.length) :
    ∃ g cap r c, v = .slice (some ⟨g, 0, none⟩) K.length cap ∧ w.cell? ⟨g, k, none⟩ = some (.slice r (K.getD k []).length c) ∧ OwnInts B w (.slice r (K.getD k []).length c) (K.getD k []) := by
  obtain ⟨a, m, c, c', vs, R, rfl, ho, hl, hK⟩ := h
  obtain ⟨g, cap, he, _, _, _⟩ := ho.head (fun h => by rw [h] at hl; have h2 : K.length ≤ 0 := hl; omega)
  cases he
  have hc := ho.cell rfl (show k < R.length by omega)
  have hr := ho.row k
  have e : K.getD k [] = R.getD k [] := by
    rw [hK]
    simp only [List.getD_eq_getElem?_getD]
    rw [List.getElem?_take, if_pos hk]
  obtain ⟨r, rc, hre⟩ := own_shape hr
  rw [hre] at hc hr
  rw [e]
  exact ⟨g, c', r, rc, rfl, hc, hr⟩
def SepPost (w : World) (so : Option (List Int)) (e : Ending) (w' : World) : Prop :=
  match so with
  | some z => ∃ o, e = .returned (.tuple #[o, .bool true]) ∧ IntsV w' o z ∧ w.grownBy w' none
  | none => e = .returned (.tuple #[nilS, .bool false]) ∧ w.grownBy w' none
theorem sepOf_at {p : Int} {K : List (List Int)} {x : List Int} {k : Nat} (hk : k < K.length) (h0 : ∀ i, i < k → dotP p (K.getD i []) x = 0) (h1 : dotP p (K.getD k []) x ≠ 0) : sepOf p K x = some (scaleV p (K.getD k []) (invI p (dotP p (K.getD k []) x))) := by
  unfold sepOf
  have e : K = K.take k ++ (K.getD k [] :: K.drop (k + 1)) := by
    rw [List.getD_eq_getElem?_getD, List.getElem?_eq_getElem hk, Option.getD_some, List.getElem_cons_drop, List.take_append_drop]
  have hn : (K.take k).find? (fun w => dotP p w x != 0) = none := by
    rw [List.find?_eq_none]
    intro w hw
    obtain ⟨i, hi, rfl⟩ := List.getElem_of_mem hw
    have hi' : i < k := by rw [List.length_take] at hi; omega
    have := h0 i hi'
    rw [List.getD_eq_getElem?_getD, List.getElem?_eq_getElem (by omega)] at this
    rw [List.getElem_take]
    simp only [Option.getD_some] at this
    rw [this]; decide
  have h2 : (K.take k ++ (K.getD k [] :: K.drop (k + 1))).find? (fun w => dotP p w x != 0) = some (K.getD k []) := by
    rw [List.find?_append, hn, Option.none_or, List.find?_cons_of_pos (by rw [bne_iff_ne]; exact h1)]
  rw [← e] at h2
  rw [h2]; rfl
theorem sepOf_end {p : Int} {K : List (List Int)} {x : List Int} (h0 : ∀ i, i < K.length → dotP p (K.getD i []) x = 0) : sepOf p K x = none := by
  unfold sepOf
  rw [Option.map_eq_none_iff, List.find?_eq_none]
  intro w hw
  obtain ⟨i, hi, rfl⟩ := List.getElem_of_mem hw
  have := h0 i hi
  rw [List.getD_eq_getElem?_getD, List.getElem?_eq_getElem hi, Option.getD_some] at this
  rw [this]; decide
theorem one_mat {w : World} {rv : Value} {z : List Int} (ho : OwnInts 0 w rv z) : OwnM 0 (w.alloc (.cells #[rv] 24)) (.slice (some ⟨w.heap.size, 0, none⟩) 1 1) [rv] [z] := by
  have hl := World.ownsRow_lit (e := 24) (base := 0) (size := 1) w #[rv] 1 (Nat.zero_le _) (by unfold maxLen; omega) rfl
  exact OwnM.join (vs := []) (L := []) rfl (fun i => by simp only [List.getD_nil]; exact OwnInts.nil 0 _) (fun i j _ k hk => absurd hk (by simp only [List.getD_nil]; exact nil_hits)) (ho.alloc _) (fun i k hk => absurd hk (by simp only [List.getD_nil]; exact nil_hits)) (by simpa using hl)

section
variable (p n : Int) (u v : Value) (L : List (List Int)) (x : List Int) (w : World) (hu : MatV w u L) (hv : IntsV w v x) (hl : L.length ≤ 1000000) (hll : ∀ row ∈ L, row.length ≤ 1000000) (hxl : x.length ≤ 1000000)
include hu hv hl hll hxl
set_option maxRecDepth 100000 in
theorem separatorOf_no (ht : Tab w) (hno : vectorB p n L x = false) : Calls Tryd.prog 72 #[.int .i64 p, mxV n u, v] w (SepPost w none) := by
  have HS := Lib.hid fun w' (hg : w.grownBy w' none) => isSpace_any p n u L w' (ht.grown hg) (hu.carry hg) hl hll
  have HX := Lib.hid fun w' (hg : w.grownBy w' none) => isVector_any p n v x w' (hv.carry hg) hxl
  unfold vectorB at hno
  unfold mxV at *
  obtain ⟨a, c, rfl⟩ := hu.shape
  obtain ⟨xa, xc, rfl, hvx⟩ := hv
  have e0 := Lib.hid (alloc_heap_new w (.cells #[.int .i64 n, .slice a L.length c] 74))
  clear hu hvx hll ht
  generalize L.length = l at *
  generalize x.length = xl at *
  cases h1 : spaceB p n L <;> cases h2 : vecB p n x
  all_goals
    rw [h1] at HS
    rw [h2] at HX
    first
      | (exfalso; rw [h1, h2] at hno; exact absurd hno (by decide))
      | (clear h1 h2 hno
         go_enter Tryd.func72, Tryd.ntmps72
         go_wp2_with (first
           | (go_at_call 171
              with_reducible refine (HS.out _ (grownBy_alloc _ _ none)).mono ?_
              rintro e w1 ⟨rfl, hg⟩
              obtain ⟨c0, c1, f0, f1⟩ := bx (bx_on e0.out hg)
              have HG := Lib.hid ((grownBy_alloc w _ none).trans hg)
              clear hg)
           | (go_at_call 173; with_reducible refine (HX.out _ HG.out).mono ?_; rintro e w' ⟨rfl, rfl⟩))
         go_ret2
         exact ⟨rfl, HG.out⟩)
set_option maxRecDepth 100000 in
set_option maxHeartbeats 1000000 in
theorem separatorOf_yes (ht : Tab w) (hb : vectorB p n L x = true) : Calls Tryd.prog 72 #[.int .i64 p, mxV n u, v] w (SepPost w (sepOf p (orthL p L n.toNat) x)) := by
  have HS := fun w' (hg : w.grownBy w' none) => isSpace_any p n u L w' (ht.grown hg) (hu.carry hg) hl hll
  have HX := fun w' (hg : w.grownBy w' none) => isVector_any p n v x w' (hv.carry hg) hxl
  have hb' := hb
  unfold vectorB at hb'
  rw [Bool.and_eq_true] at hb'
  rw [hb'.1] at HS
  rw [hb'.2] at HX
  have HS := Lib.hid HS; have HX := Lib.hid HX
  obtain ⟨q, i, m, rfl, rfl, h1, h2, h3, h4, h5, h6, h7⟩ := vectorB_nat hb
  rw [Int.toNat_natCast]
  have hxm := h7.1
  subst hxm
  have hp1 := lt_p h1
  have HO := Lib.hid fun w' (hg : w.grownBy w' none) => orthogonal_any q u L x.length w' h1 (by omega) (hu.carry hg) h6 (by omega) (by omega)
  have hor := (orth_red h1 h6).1
  have hkb := (orth_red h1 h6).len_le
  have HOR := Lib.hid hor
  have HF := Lib.hid h1
  have HV := Lib.hid hv
  have H7 := Lib.hid h7
  unfold mxV at *
  obtain ⟨a, c, rfl⟩ := hu.shape
  obtain ⟨xa, xc, rfl, hvx⟩ := hv
  have e0 := Lib.hid (alloc_heap_new w (.cells #[.int .i64 x.length, .slice a L.length c] 74))
  clear hu hvx hll ht hb hb' h5 h6 h7 hor
  generalize orthL q L x.length = K at *
  have hkl : K.length ≤ K.length := Nat.le_refl _
  generalize hKl : K.length = kl at *
  have HKL := Lib.hid hKl
  clear hKl hkl
  generalize L.length = l at *
  generalize x.length = m at *
  go_enter Tryd.func72, Tryd.ntmps72
  go_wp2_with (first
    | (go_at_call 171
       with_reducible refine (HS.out _ (grownBy_alloc _ _ none)).mono ?_
       rintro e w1 ⟨rfl, hg⟩
       obtain ⟨c0, c1, f0, f1⟩ := bx (bx_on e0.out hg)
       have HG := Lib.hid ((grownBy_alloc w _ none).trans hg)
       clear hg)
    | (go_at_call 173; with_reducible refine (HX.out _ HG.out).mono ?_; rintro e w' ⟨rfl, rfl⟩)
    | (go_at_call 172
       with_reducible refine (HO.out _ HG.out).mono ?_
       rintro e w2 ⟨ka, kc, rfl, hp, hg⟩
       have HP := Lib.hid hp; have HG2 := Lib.hid (HG.out.trans hg)
       clear hp hg c0 c1 f0 f1))
  go_loop [30] (fun i => ∃ k : Nat, k ≤ kl ∧ i = .int .i64 k ∧ (∀ j, j < k → dotP q (K.getD j []) x = 0)) (fun i => kl - (intOf i).toNat)
  case atStart => exact ⟨0, by omega, rfl, fun j h => absurd h (by omega)⟩
  case round =>
    obtain ⟨k, hk, rfl, hz⟩ := hrel
    have HZ := Lib.hid hz
    clear hz
    by_cases hlt : k < kl
    · have hkk : k < K.length := by rw [HKL.out]; exact hlt
      obtain ⟨g, cap, r, rc, he, hcell, hrow⟩ := HP.out.rowOwn hkk
      cases he
      have hro := HOR.out _ (getD_mem hkk)
      have hdb := dotP_bd (p := q) (K.getD k []) x
      have HDOT := Lib.hid (dot_any q _ _ (K.getD k []) x w2 hrow.read (HV.out.carry HG2.out) (by rw [hro.1, H7.out.1]) (by rw [hro.1]; omega) (by omega) (by omega) (fun z hz => by have := hro.2 z hz; omega) (fun z hz => by have := H7.out.2 z hz; omega))
      rw [show dotTo (K.getD k []) x (K.getD k []).length % q = dotP q (K.getD k []) x from rfl] at HDOT
      rw [hro.1] at hcell hrow HDOT
      have HRO := Lib.hid hro
      clear hro
      by_cases hd0 : dotP q (K.getD k []) x = 0
      · rw [hd0] at HDOT
        have HD0 := Lib.hid hd0
        clear hd0 hdb hrow hkk
        go_wp2_with (go_at_call 195
                     with_reducible refine HDOT.out.mono ?_
                     rintro e w' ⟨rfl, rfl⟩)
        go_round
        case rel => exact ⟨k + 1, by omega, by go_num, fun j hj => by
          by_cases hjk : j = k
          · rw [hjk]; exact HD0.out
          · exact HZ.out j (by omega)⟩
        case measure => simp [intOf]; omega
      · have HSEP := Lib.hid (sepOf_at hkk HZ.out hd0)
        have hw : w.heap.size ≤ w2.heap.size := HG2.out.size
        have HAP := Lib.hid (divide_any q 0 (dotP q (K.getD k []) x) _ _ _ 0 _ (one_mat (hrow.base (Nat.zero_le _))) (by simp) (by simp) (fun row hrow => by rw [List.mem_singleton] at hrow; rw [hrow]; have := HRO.out.1; omega) (by omega) (by omega) hdb.1 (by omega)
          (fun row hrow z hz => by rw [List.mem_singleton] at hrow; rw [hrow] at hz; have := HRO.out.2 z hz; omega))
        have HRW := Lib.hid hrow
        generalize hby : dotP q (K.getD k []) x = by' at *
        have hbb : (by' != 0) = true := by rw [bne_iff_ne]; exact hd0
        unfold opV at HAP
        rw [show ((0 : Nat) : Int) = 0 from rfl] at HAP
        clear hby hrow hkk
        go_wp2_with (first
          | (go_at_call 195
             with_reducible refine HDOT.out.mono ?_
             rintro e w' ⟨rfl, rfl⟩)
          | (go_at_call 196
             go_loud (with_reducible refine HAP.out.mono ?_)
             rintro e w3 ⟨rfl, ho3, hon3⟩
             have HO3 := Lib.hid ho3; have HN3 := Lib.hid hon3
             clear ho3 hon3))
        go_ret2
        rw [HSEP.out]
        have hrow3 := HO3.out.row 0
        refine ⟨_, rfl, ?_, ?_⟩
        · have h := hrow3.read
          simpa [divL] using h
        · refine grown_of_below (((Below.grown (Below.refl _ w) HG2.out (Nat.le_refl _) (by simp)).alloc hw _).trans (HN3.out.below (by simp; omega) fun t ht => ?_))
          rcases ht with ht | ⟨y, hy, ht⟩
          · simp only [Hits, Value.ownBlock, Option.some.injEq] at ht
            omega
          · rw [List.mem_singleton] at hy
            rw [hy] at ht
            have h1 := (HRW.out.lt t ht).1
            have h2 := HG.out.size
            omega
    · have HEND := Lib.hid (sepOf_end fun j hj => HZ.out j (by have := HKL.out; omega))
      go_wp2
      go_ret2
      rw [HEND.out]
      exact ⟨rfl, HG2.out⟩
end
end Go.Proofs.YtpeaeminjbjlnaaDoor

/-
  Drawn spaces. Conditions: small sizes.
-/
namespace Go.Proofs.YtpeaeminjbjlnaaDoor
open Go.RowKit
set_option linter.unusedVariables false

theorem elok_rows {p : Int} {n : Nat} {L : List (List Int)} (hp : 2 ≤ p) (h : ∀ row ∈ L, row.length = n ∧ ElOk p row) : RowsOk p n L := fun row hr => ⟨(h row hr).1, fun z hz => by have := (h row hr).2 z hz; omega⟩
theorem Sep.upM {w w' : World} {l : List Asrt} {v : Value} {vs : List Value} {L : List (List Int)} (h : Sep w (OM v vs L :: l)) {v' : Value} {vs' : List Value} {L' : List (List Int)} (hg : w.grownBy w' none) (ho : OwnM w.heap.size w' v' vs' L') : Sep w' (OM v' vs' L' :: l) := (h.tl).newM hg ho

set_option maxRecDepth 100000 in
theorem space_any {N : Nat} (p sz : Nat) [NeZero p] (b : Nat) (n : Int) (w : World) (hf : fldN p = true) (hp2 : p ≤ 1000) (hc : Bd.Cur N w b n) (hsz : sz ≤ 100) (hn : n + 10000000 ≤ 1000000000000) :
    Calls Tryd.prog 273 #[.pointer (some ⟨b, 0, none⟩), .int .i64 p, .int .i64 sz] w fun e w' => ∃ o, e = .returned (mxV sz o) ∧ ∃ vs L, OwnM w.heap.size w' o vs L ∧ L.length ≤ sz ∧ (∀ row ∈ L, row.length = sz) ∧ Bd.Cur N w' b (n + 10000000) ∧ w.grownBy w' (some b) := by
  have hp1 := lt_p hf
  have HS0 := Lib.hid (Sep.startX hc)
  have HS := Lib.hid ((Sep.startX hc).box #[.int .i64 0, .slice none 0 0] 74)
  have hbw := hc.lt
  unfold mxV
  clear hc
  go_enter Tryd.func273, Tryd.ntmps273
  go_wp2_with (first
    | (go_at_call 202
       refine (rows_any p sz (1 + sz) b _ _ HS.out.s2.hd (by omega) (by omega) (by omega) (by omega)).mono ?_
       rintro e w1 ⟨ro, rfl, vs, L, ho, hl, hok, c1, g1⟩
       have HS1 := Lib.hid (HS.out.s2.drawM c1 g1 ho)
       have HOK := Lib.hid (elok_rows (show (2 : Int) ≤ p by omega) hok)
       have HL := Lib.hid hl
       clear ho hl hok c1 g1)
    | (go_at_call 168
       go_loud (refine (spReduce_own p sz _ _ _ hf hp2 HS1.out.hd.read HOK.out (Nat.le_trans HL.out (by omega)) (by omega)).mono ?_)
       rintro e w2 ⟨ra, rc, rfl, ⟨vs2, ho2⟩, hg2⟩
       have hred := reducedL_red hf HOK.out
       have HLE := Lib.hid hred.len_le
       have HRO := Lib.hid hred.1
       have HS2 := Lib.hid (HS1.out.upM hg2 ho2)
       generalize reducedL p sz L = red at *
       obtain ⟨c0, c1, f0, f1⟩ := bx HS2.out.s3.hd
       clear hred hg2 ho2))
  refine bodyPost_ret_by (v := .agg #[.int .i64 sz, .slice ra red.length rc]) ?_ rfl ?_
  · simp [results, go_sem, *]
  · have h := ((HS2.out.s3.setB 0 (.int .i64 sz)).setB 1 (.slice ra red.length rc)).tl
    exact ⟨_, rfl, vs2, red, h.matX, HLE.out, fun row hr => (HRO.out row hr).1, h.s2.hd, h.s3.hd⟩

end Go.Proofs.YtpeaeminjbjlnaaDoor

/-
  Drawn spaces, seldom bent. Conditions: small sizes.
-/
namespace Go.Proofs.YtpeaeminjbjlnaaDoor
open Go.RowKit
set_option linter.unusedVariables false

/-- a drawn space, whatever was bent in it -/
def DSpace (N b : Nat) (n : Int) (w : World) (sz : Int) (e : Ending) (w' : World) : Prop :=
  ∃ (c : Int) (o : Value) (vs : List Value) (L : List (List Int)), e = .returned (mxV c o) ∧ 0 ≤ c ∧ c ≤ sz + 1 ∧ OwnM w.heap.size w' o vs L ∧ L.length ≤ 1000 ∧ (∀ row ∈ L, row.length ≤ 1000) ∧ Bd.Cur N w' b n ∧ w.grownBy w' (some b)
theorem fin_space {N b s r : Nat} {n m sz c : Int} {w W : World} {o : Value} {vs : List Value} {L : List (List Int)} {cs cs2 : Array Value} {t : TypeId} (h : Sep W [OM o vs L, CA N b m, BxA s cs2 t, BxA r cs t, KeepX w b]) (hm : m ≤ n) (h0 : 0 ≤ c) (h1 : c ≤ sz + 1) (hl : L.length ≤ 1000) (hll : ∀ row ∈ L, row.length ≤ 1000) (x y : Value) :
    DSpace N b n w sz (.returned (mxV c o)) ((W.setCell ⟨r, 0, none⟩ x).setCell ⟨r, 1, none⟩ y) := by
  have h2 := ((h.s4.setB 0 x).setB 1 y).tl.under (fun t => t.drop2) (by simp +contextual)
  exact ⟨c, o, vs, L, rfl, h0, h1, h2.matX, hl, hll, h2.s2.hd.mono hm, h2.s3.hd⟩
theorem fin_spaceD {N b s r : Nat} {n m sz c : Int} {w W : World} {o : Value} {vs : List Value} {L : List (List Int)} {cs cs2 : Array Value} {t : TypeId} (h : Sep W [OM o vs L, CA N b m, BxA s cs2 t, BxA r cs t, KeepX w b]) (hm : m ≤ n) (h0 : 0 ≤ c) (h1 : c ≤ sz + 1) (hl : L.length ≤ 1000) (hll : ∀ row ∈ L, row.length ≤ 1000) (x y : Value) :
    DSpace N b n w sz (.returned (mxV c o)) ((W.setCell ⟨r, 0, none⟩ x).setCell ⟨r, 1, none⟩ y).drew := by
  have h2 := ((h.s4.setB 0 x).setB 1 y).tl.under (fun t => t.drop2) (by simp +contextual)
  have h2 := h2.dr
  exact ⟨c, o, vs, L, rfl, h0, h1, h2.matX, hl, hll, h2.s2.hd.mono hm, h2.s3.hd⟩
/-- the rows' places -/
theorem row_names {B g m c cn : Nat} {w : World} {vs : List Value} {L : List (List Int)} (h : OwnM B w (.slice (some ⟨g, 0, none⟩) m c) vs L) (hr : ∀ row ∈ L, row.length = cn) (hc : 0 < cn) :
    ∃ G C : Nat → Nat, ∀ i, i < L.length → vs.getD i nilS = .slice (some ⟨G i, 0, none⟩) cn (C i) := by
  have key : ∀ i, ∃ gc : Nat × Nat, i < L.length → vs.getD i nilS = .slice (some ⟨gc.1, 0, none⟩) cn gc.2 := by
    intro i
    by_cases hi : i < L.length
    · have hl := hr _ (getD_mem hi)
      obtain ⟨gi, ci, he, _⟩ := (h.row i).parts (by intro h0; rw [h0] at hl; simp at hl; omega)
      rw [hl] at he
      exact ⟨(gi, ci), fun _ => he⟩
    · exact ⟨(0, 0), fun h => absurd h hi⟩
  obtain ⟨F, hF⟩ := Classical.axiomOfChoice key
  exact ⟨fun i => (F i).1, fun i => (F i).2, hF⟩
theorem heads {W : World} {g l oc sz : Nat} {vs : List Value} {L : List (List Int)} {rest : List Asrt} {G C : Nat → Nat} (h : Sep W (OM (.slice (some ⟨g, 0, none⟩) l oc) vs L :: rest)) (hl : L.length = l)
    (hGC : ∀ i, i < l → vs.getD i nilS = .slice (some ⟨G i, 0, none⟩) sz (C i)) : ∀ i, i < l → W.cell? ⟨g, i, none⟩ = some (.slice (some ⟨G i, 0, none⟩) sz (C i)) := fun i hi => by
  rw [h.hd.cell hl.symm (by omega), hGC i hi]
theorem bend_elem {W : World} {g l oc sz : Nat} {vs : List Value} {L : List (List Int)} {rest : List Asrt} {G C : Nat → Nat} (h : Sep W (OM (.slice (some ⟨g, 0, none⟩) l oc) vs L :: rest)) (hl : L.length = l)
    (hGC : ∀ i, i < l → vs.getD i nilS = .slice (some ⟨G i, 0, none⟩) sz (C i)) (hr : ∀ row ∈ L, row.length = sz) {k j : Nat} (hk : k < l) (hj : j < sz) :
    ∃ old, W.cell? ⟨G k, j, none⟩ = some (.int .i64 old) ∧ W.frozen? ⟨G k, j, none⟩ = false ∧ ∀ x, Sep (W.setCell ⟨G k, j, none⟩ (.int .i64 x)) (OM (.slice (some ⟨g, 0, none⟩) l oc) vs (L.set k ((L.getD k []).set j x)) :: rest) := by
  have hlr := hr _ (getD_mem (show k < L.length by omega))
  obtain ⟨gi, ci, _, f1, f2, f3, f4⟩ := h.setM hl.symm (show k < L.length by omega) (show j < (L.getD k []).length by omega)
  rw [heads h hl hGC k hk] at f1
  simp only [Option.some.injEq, Value.slice.injEq, Addr.mk.injEq, and_true] at f1
  obtain ⟨rfl, _, _⟩ := f1
  exact ⟨_, f2, f3, f4⟩
theorem bend_len {L : List (List Int)} {k : Nat} {row : List Int} {B : Nat} (h : ∀ r ∈ L, r.length ≤ B) (hr : row.length ≤ B) : ∀ r ∈ L.set k row, r.length ≤ B := by
  intro r hr'
  rcases List.mem_or_eq_of_mem_set hr' with h1 | h1
  · exact h r h1
  · rw [h1]; exact hr
/-- what the assignments that exchange two rows read and leave, with the rows' lengths -/
theorem Sep.swapN {w : World} {l : List Asrt} {g n cap c : Nat} {vs : List Value} {L : List (List Int)} (h : Sep w (OM (.slice (some ⟨g, 0, none⟩) n cap) vs L :: l)) (hn : n = L.length) (hr' : ∀ row ∈ L, row.length = c) {r j : Nat} (hr : r < L.length) (hj : j < L.length) :
    ∃ ar cr aj cj, w.cell? ⟨g, r, none⟩ = some (.slice ar c cr) ∧ w.cell? ⟨g, j, none⟩ = some (.slice aj c cj) ∧ w.frozen? ⟨g, r, none⟩ = false ∧ w.frozen? ⟨g, j, none⟩ = false ∧
      ∃ vs', Sep ((w.setCell ⟨g, r, none⟩ (.slice aj c cj)).setCell ⟨g, j, none⟩ (.slice ar c cr)) (OM (.slice (some ⟨g, 0, none⟩) n cap) vs' (swapL L r j) :: l) := by
  obtain ⟨h1, h2, h3, h4, h5⟩ := h.swapM hn hr hj
  obtain ⟨ar, cr, er⟩ := own_shape (h.hd.row r)
  obtain ⟨aj, cj, ej⟩ := own_shape (h.hd.row j)
  rw [hr' _ (getD_mem hr)] at er
  rw [hr' _ (getD_mem hj)] at ej
  rw [er] at h1 h5
  rw [ej] at h2 h5
  exact ⟨ar, cr, aj, cj, h1, h2, h3, h4, h5⟩
theorem swapL_all {L : List (List Int)} {r j B : Nat} (h : ∀ row ∈ L, row.length ≤ B) (hr : r < L.length) (hj : j < L.length) : ∀ row ∈ swapL L r j, row.length ≤ B := by
  unfold swapL
  exact bend_len (bend_len h (h _ (getD_mem hj))) (h _ (getD_mem hr))
set_option maxRecDepth 100000 in
set_option maxHeartbeats 2000000 in
theorem anySpace_any {N : Nat} (p : Int) (sz : Nat) (b : Nat) (n : Int) (w : World) (hp : -1000 ≤ p) (hp2 : p ≤ 1000) (hc : Bd.Cur N w b n) (hsz : sz ≤ 24) (hn : n + 20000000 ≤ 1000000000000) :
    Calls Tryd.prog 164 #[.pointer (some ⟨b, 0, none⟩), .int .i64 p, .int .i64 sz] w (DSpace N b (n + 20000000) w sz) := by
  have HS := Lib.hid ((Sep.startX hc).box #[.int .i64 0, .slice none 0 0] 74)
  have HG := Lib.hid fun w' => fdGood_any p w' hp hp2
  have hs0 : (w.alloc (.cells #[.int .i64 0, .slice none 0 0] 74)).heap.size = w.heap.size + 1 := by simp
  clear hc
  cases h1 : fldB p
  · rw [h1] at HG
    clear h1
    go_enter Tryd.func164, Tryd.ntmps164
    go_wp2_with (go_at_call 206; with_reducible refine (HG.out _).mono ?_; rintro e w' ⟨rfl, rfl⟩)
    refine bodyPost_ret_by (v := .agg #[.int .i64 0, .slice none 0 0]) ?_ rfl ?_
    · simp [results, go_sem, *]
    · have h := HS.out.tl.nilM
      exact ⟨0, nilS, [], [], rfl, by omega, by omega, h.matX, by simp, fun r hr => by simp at hr, h.s2.hd.mono (by omega), h.s3.hd⟩
  · obtain ⟨b1, b2⟩ := fldB_bd h1
    obtain ⟨q, rfl⟩ := Int.eq_ofNat_of_zero_le (show 0 ≤ p by omega)
    haveI : NeZero q := ⟨by omega⟩
    rw [h1] at HG
    rw [fldB_nat] at h1
    have HF := Lib.hid h1
    clear h1
    go_enter Tryd.func164, Tryd.ntmps164
    go_wp2_with (first
      | (go_at_call 206; with_reducible refine (HG.out _).mono ?_; rintro e w' ⟨rfl, rfl⟩)
      | (go_at_call 273
         refine (space_any q sz b _ _ HF.out (by omega) HS.out.s2.hd (by omega) (by omega)).mono ?_
         rintro e w1 ⟨o, rfl, vs, L, ho, hl, hll, c1, g1⟩
         obtain ⟨oa, oc, hoe, _, _⟩ := own_form ho
         subst hoe
         have HS1 := Lib.hid (HS.out.s2.drawM c1 g1 ho)
         have HL := Lib.hid hl; have HLL := Lib.hid hll
         unfold mxV
         clear ho hl hll c1 g1))
    have HS2 := Lib.hid (HS1.out.box #[.int .i64 sz, .slice oa L.length oc] 74)
    have hml : L.length ≤ 1000 := Nat.le_trans HL.out (by omega)
    generalize hlen : L.length = l at *
    have HLEN := Lib.hid hlen
    clear hlen
    have hrs : w.heap.size ≠ w1.heap.size := fun e => (HS2.out.s4.apt.symm).1 _ rfl e.symm
    generalize w.heap.size = r at *
    generalize w1.heap.size = s at *
    have hsr : s ≠ r := fun e => hrs e.symm
    refine (Bd.pick_any 20 b _ _ HS2.out.s3.hd (by omega) (by omega)).mono ?_
    rintro e w3 ⟨x, rfl, ⟨x0, x1⟩, c3, g3⟩
    have HS3 := Lib.hid (HS2.out.s3.draw c3 g3).s3
    clear c3 g3
    have hrow : ∀ row ∈ L, row.length ≤ 1000 := fun row hr => by have := HLL.out row hr; omega
    have HROW := Lib.hid hrow
    clear hrow
    obtain ⟨d0, d1, e0, e1⟩ := bx HS3.out.s3.hd
    obtain ⟨d2, d3, e2, e3⟩ := bx HS3.out.s4.hd
    by_cases h0 : x = 0
    · subst h0
      have HS4 := Lib.hid ((HS3.out.s3.setB 0 (.int .i64 (sz + 1))).s2.under Sep.s2 (by simp +contextual))
      go_wp2
      refine bodyPost_ret_by (v := .agg #[.int .i64 (sz + 1), .slice oa l oc]) ?_ rfl ?_
      · simp [results, go_sem, *]
      · exact fin_space HS4.out (by omega) (by omega) (by omega) (by rw [HLEN.out]; exact hml) HROW.out _ _
    · by_cases h1 : x = 1
      · subst h1
        by_cases hl0 : l = 0
        · subst hl0
          go_wp2
          refine bodyPost_ret_by (v := .agg #[.int .i64 sz, .slice oa 0 oc]) ?_ rfl ?_
          · simp [results, go_sem, *]
          · exact fin_space HS3.out (by omega) (by omega) (by omega) (by rw [HLEN.out]; exact hml) HROW.out _ _
        · have hl1 : (0 : Int) < (l : Int) := by omega
          by_cases hz0 : sz = 0
          · subst hz0
            go_wp2
            refine bodyPost_ret_by (v := .agg #[.int .i64 0, .slice oa l oc]) ?_ rfl ?_
            · simp [results, go_sem, *]
            · exact fin_space HS3.out (by omega) (by omega) (by omega) (by rw [HLEN.out]; exact hml) HROW.out _ _
          · have hz1 : (0 : Int) < (sz : Int) := by omega
            obtain ⟨g, gc, hge, _, _, _⟩ := HS3.out.hd.head (by intro h; have := HLEN.out; rw [h] at this; simp at this; omega)
            rw [HLEN.out] at hge
            cases hge
            obtain ⟨G, C, hGC⟩ := row_names HS3.out.hd HLL.out (by omega)
            rw [HLEN.out] at hGC
            have HGC := Lib.hid hGC
            clear hGC
            have HSS := Lib.hid fun W m (L' : List (List Int)) (hl' : L'.length = l) (h : Sep W [OM (.slice (some ⟨g, 0, none⟩) l oc) vs L', CA N b m, BxA s #[.int .i64 sz, .slice (some ⟨g, 0, none⟩) l oc] 74, BxA r #[.int .i64 0, .slice none 0 0] 74, KeepX w b]) => And.intro (bx h.s3.hd).2.1 (heads h hl' HGC.out)
            have X0 := Lib.hid (HSS.out _ _ _ HLEN.out HS3.out.dr)
            have HC3 := Lib.hid (show Bd.Cur N w3.drew b _ from HS3.out.dr.s2.hd)
            go_wp2_with fail
            go_region_held3 (fun w' => w'.cell? ⟨s, 1, none⟩ = some (.slice (some ⟨g, 0, none⟩) l oc) ∧ ∀ i, i < l → w'.cell? ⟨g, i, none⟩ = some (.slice (some ⟨G i, 0, none⟩) sz (C i)))
              (first | with_reducible exact X0.out | with_reducible exact X5.out | with_reducible exact X6.out | with_reducible exact X7.out | with_reducible exact X8.out)
              (first
                | (go_at_call 131
                   first
                     | (with_reducible refine (Bd.pick_any l b _ _ HC3.out (by omega) (by omega)).mono ?_
                        rintro e w5 ⟨k, rfl, ⟨hk0, hk1⟩, c5, g5⟩
                        obtain ⟨k, rfl⟩ := Int.eq_ofNat_of_zero_le hk0
                        have hkl : k < l := by omega
                        have hki : (k : Int) < (l : Int) := by omega
                        have HS5 := Lib.hid (HS3.out.dr.s2.draw c5 g5).s2
                        have X5 := Lib.hid (HSS.out _ _ _ HLEN.out HS5.out)
                        have HC5 := Lib.hid c5
                        clear c5 g5 hk1)
                     | (with_reducible refine (Bd.pick_any sz b _ _ HC5.out (by omega) (by omega)).mono ?_
                        rintro e w6 ⟨j, rfl, ⟨hj0, hj1⟩, c6, g6⟩
                        obtain ⟨j, rfl⟩ := Int.eq_ofNat_of_zero_le hj0
                        have hjl : j < sz := by omega
                        have hji : (j : Int) < (sz : Int) := by omega
                        have HS6 := Lib.hid (HS5.out.s2.draw c6 g6).s2
                        have X6 := Lib.hid (HSS.out _ _ _ HLEN.out HS6.out)
                        have HC6 := Lib.hid c6
                        clear c6 g6 hj1))
                | (go_at_call 203
                   with_reducible refine (Bd.anyElem_any q b _ _ HC6.out (by omega) (by omega) (by omega)).mono ?_
                   rintro e w7 ⟨z, rfl, hz, c7, g7⟩
                   have HS7 := Lib.hid (HS6.out.s2.draw c7 g7).s2
                   have X7 := Lib.hid (HSS.out _ _ _ HLEN.out HS7.out)
                   obtain ⟨old, t1, t2, t3⟩ := bend_elem HS7.out HLEN.out HGC.out HLL.out hkl hjl
                   have HS8 := Lib.hid (t3 z)
                   have X8 := Lib.hid (HSS.out _ _ _ (by rw [List.length_set]; exact HLEN.out) HS8.out)
                   clear c7 g7 hz t3))
            have HLR := Lib.hid (show ∀ row ∈ L.set k ((L.getD k []).set j z), row.length ≤ 1000 from bend_len HROW.out (by rw [List.length_set]; exact HROW.out _ (getD_mem (by rw [HLEN.out]; exact hkl))))
            obtain ⟨d0, d1, e0, e1⟩ := bx HS8.out.s3.hd
            obtain ⟨d2, d3, e2, e3⟩ := bx HS8.out.s4.hd
            generalize w7.setCell ⟨G k, j, none⟩ (.int .i64 z) = w8 at *
            clear t1 t2
            go_wp2
            refine bodyPost_ret_by (v := .agg #[.int .i64 sz, .slice (some ⟨g, 0, none⟩) l oc]) ?_ rfl ?_
            · simp [results, go_sem, *]
            · exact fin_space HS8.out (by omega) (by omega) (by omega) (by rw [List.length_set, HLEN.out]; exact hml) HLR.out _ _
      · by_cases h2 : x = 2
        · subst h2
          have hmk := make_row sz (by omega)
          have HZ := Lib.hid (HS3.out.newI (grownBy_alloc w3 _ none) (row_made sz (by omega) w3 (Nat.le_refl _))).dr
          have z1 := fun o => cell_alloc (w := w3) d1 o
          have z2 := fun o o' => cell_alloc (w := w3.alloc o) (z1 o) o'
          have HSZ := Lib.hid (show ((w3.alloc (.cells (zeroCells sz) 3)).drew).heap.size = w3.heap.size + 1 by show (w3.alloc _).heap.size = _; simp)
          go_wp2_with fail
          go_region_law
            (first
              | (go_loud (refine step_app_rowS (w := (w3.alloc (.cells (zeroCells sz) 3)).drew) rfl _ _ rfl rfl (by rw [HSZ.out]; rfl) HZ.out (by rw [HLEN.out]; omega) ?_)
                 intro g6 vc6 w6 hs6
                 rw [HLEN.out] at hs6 ⊢
                 obtain ⟨k0, k1, k2, k3⟩ := bx hs6.s3.hd
                 obtain ⟨k4, k5, k6, k7⟩ := bx hs6.s4.hd
                 have HS6 := Lib.hid ((hs6.s3.setB 1 (.slice (some ⟨g6, 0, none⟩) (l + 1) vc6)).s2.under Sep.s2 (by simp +contextual))
                 clear hs6))
          all_goals
            go_wp2
            refine bodyPost_ret_by (v := .agg #[.int .i64 sz, .slice (some ⟨g6, 0, none⟩) (l + 1) vc6]) ?_ rfl ?_
            · simp [results, go_sem, *]
            · exact fin_space HS6.out (by omega) (by omega) (by omega) (by have := HL.out; rw [List.length_append, HLEN.out]; simp; omega) (fun row hr => by
                rcases List.mem_append.1 hr with h1 | h1
                · exact HROW.out row h1
                · rw [List.mem_singleton] at h1; rw [h1, List.length_replicate]; omega) _ _
        · by_cases h3 : x = 3
          · subst h3
            by_cases hl1 : 1 < (l : Int)
            · obtain ⟨m, rfl⟩ : ∃ m, l = m + 1 := ⟨l - 1, by omega⟩
              obtain ⟨g, gc, hge, _, _, _⟩ := HS3.out.hd.head (by intro h; have := HLEN.out; rw [h] at this; simp at this)
              rw [HLEN.out] at hge
              cases hge
              obtain ⟨ar, cr, aj, cj, t1, t2, t3, t4, vs', t5⟩ := HS3.out.swapN HLEN.out.symm HLL.out (r := 0) (j := m) (by rw [HLEN.out]; omega) (by rw [HLEN.out]; omega)
              have HS8 := Lib.hid t5
              have HLR := Lib.hid (swapL_all (r := 0) (j := m) HROW.out (by rw [HLEN.out]; omega) (by rw [HLEN.out]; omega))
              have hm0 : m ≠ 0 := by omega
              have hm1 : 0 ≠ m := fun e => hm0 e.symm
              have hgs : g ≠ s := fun e => (HS3.out.drop2).apt.1 g (Or.inl rfl) e
              have hgr : g ≠ r := fun e => (HS3.out.drop2.drop2).apt.1 g (Or.inl rfl) e
              have hsg : s ≠ g := fun e => hgs e.symm
              have hrg : r ≠ g := fun e => hgr e.symm
              clear t5
              go_wp2_with fail
              go_region
              go_wp2
              refine bodyPost_ret_by (v := .agg #[.int .i64 sz, .slice (some ⟨g, 0, none⟩) (m + 1) oc]) ?_ rfl ?_
              · simp [results, go_sem, *]
              · exact fin_spaceD HS8.out (by omega) (by omega) (by omega) (by rw [swapL_len, HLEN.out]; exact hml) HLR.out _ _
            · go_wp2
              refine bodyPost_ret_by (v := .agg #[.int .i64 sz, .slice oa l oc]) ?_ rfl ?_
              · simp [results, go_sem, *]
              · exact fin_space HS3.out (by omega) (by omega) (by omega) (by rw [HLEN.out]; exact hml) HROW.out _ _
          · have hx0 : (x == 0) = false := by rw [beq_eq_false_iff_ne]; exact h0
            have hx1 : (x == 1) = false := by rw [beq_eq_false_iff_ne]; exact h1
            have hx2 : (x == 2) = false := by rw [beq_eq_false_iff_ne]; exact h2
            have hx3 : (x == 3) = false := by rw [beq_eq_false_iff_ne]; exact h3
            clear h0 h1 h2 h3 x1
            go_wp2
            refine bodyPost_ret_by (v := .agg #[.int .i64 sz, .slice oa l oc]) ?_ rfl ?_
            · simp [results, go_sem, *]
            · exact fin_space HS3.out (by omega) (by omega) (by omega) (by rw [HLEN.out]; exact hml) HROW.out _ _
end Go.Proofs.YtpeaeminjbjlnaaDoor

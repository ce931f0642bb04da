/-
  Reduced lists and kernels, as values that can be read. Conditions: lengths are small; rows of elements.
-/
import Derived.Test.YtpeaeminjbjlnaaDoorMk05
import Derived.Deep.RegionHeld3
namespace Go.Proofs.YtpeaeminjbjlnaaDoor
open Go.RowKit
set_option linter.unusedVariables false

theorem MatV.part {w : World} {a : Option Addr} {n cap : Nat} {L : List (List Int)} (h : MatV w (.slice a n cap) L) (s t c : Nat) (ht : t ≤ L.length) (a' : Option Addr)
    (ha : ∀ d, a = some d → s < t → ∃ d', a' = some d' ∧ d'.block = d.block ∧ d'.off = d.off + s ∧ d'.spot = none) : MatV w (.slice a' (t - s) c) ((L.take t).drop s) := by
  obtain ⟨a0, c0, he, hi⟩ := h
  cases he
  have hlen : ((L.take t).drop s).length = t - s := by simp; omega
  refine ⟨a', c, by rw [hlen], fun hz => ?_⟩
  have hst : s < t := by
    rcases Nat.lt_or_ge s t with h | h
    · exact h
    · exact absurd (List.eq_nil_of_length_eq_zero (by rw [hlen]; omega)) hz
  obtain ⟨d, had, hs, hd, hr⟩ := hi (by intro h; rw [h] at ht; simp at ht; omega)
  obtain ⟨d', ha', hb, ho, hsp⟩ := ha d had hst
  refine ⟨d', ha', hsp, by rw [hb]; exact hd, fun i hi' => ?_⟩
  have hi2 : s + i < L.length := by rw [hlen] at hi'; omega
  obtain ⟨u, hu, hv⟩ := hr (s + i) hi2
  refine ⟨u, ?_, ?_⟩
  · rw [hb, ho, Nat.add_assoc]; exact hu
  · have e : ((L.take t).drop s)[i] = L[s + i] := by rw [List.getElem_drop, List.getElem_take]
    rw [e]; exact hv

theorem madeCells_nil (n : Nat) : (madeCells (Value.slice none 0 0).cells (n * 1)).toList = List.replicate n nilS := by
  refine List.ext_getElem (by simp [madeCells]) fun j h1 h2 => ?_
  simp [madeCells, Value.cells, Nat.mod_one, nilS]
theorem getD_repl {n i : Nat} : (List.replicate n nilS).getD i nilS = nilS := by
  rw [List.getD_eq_getElem?_getD, List.getElem?_replicate]
  split <;> rfl
theorem getD_repl' {n i : Nat} : (List.replicate n ([] : List Int)).getD i [] = [] := by
  rw [List.getD_eq_getElem?_getD, List.getElem?_replicate]
  split <;> rfl
theorem OwnM.nils {B : Nat} {w : World} {v : Value} {n : Nat} (h : w.ownsRow B 24 1 v n (List.replicate n nilS)) : OwnM B w v (List.replicate n nilS) (List.replicate n []) :=
  ⟨by simp, by rw [List.length_replicate]; exact h, fun i => by rw [getD_repl, getD_repl']; exact OwnInts.nil B w, fun i j _ k hk => by rw [getD_repl] at hk; exact absurd hk nil_hits⟩
theorem nils_ok (p : Int) (n : Nat) : RowsOk p 0 (List.replicate n []) := by
  intro row hrow
  rw [List.eq_of_mem_replicate hrow]
  exact ⟨rfl, fun x hx => by simp at hx⟩

theorem own_form {B : Nat} {w : World} {v : Value} {vs : List Value} {L : List (List Int)} (h : OwnM B w v vs L) : ∃ a c, v = .slice a L.length c ∧ (a = none ∨ ∃ g, a = some ⟨g, 0, none⟩) ∧ L.length ≤ c := by
  have h1 := h.len
  rcases h.out.2 with ⟨rfl, h0⟩ | ⟨g, cap, cur, rfl, _, _, hc, _⟩
  · exact ⟨none, 0, by rw [← h1, h0], Or.inl rfl, by omega⟩
  · exact ⟨some ⟨g, 0, none⟩, cap, by rw [h1], Or.inr ⟨g, rfl⟩, by omega⟩
theorem Two.base {B : Nat} {w : World} {v u : Value} {vs us : List Value} {R T : List (List Int)} (h : Two B w v vs u us R T) {k : Nat} (hk : Feet v vs u us k) : B ≤ k := by
  rcases hk with hk | hk
  · exact (h.mR.lt hk).1
  · exact (h.mT.lt hk).1
theorem two_nils {B m : Nat} {w1 w2 : World} {v : Value} {vs : List Value} {L : List (List Int)} (h : OwnM B w1 v vs L)
    (h2 : w2.ownsRow B 24 1 (.slice (some ⟨w1.heap.size, 0, none⟩) m m) m (madeCells (Value.slice none 0 0).cells (m * 1)).toList) (hg : w1.grownBy w2 none) :
    Two B w2 v vs (.slice (some ⟨w1.heap.size, 0, none⟩) m m) (List.replicate m nilS) L (List.replicate m []) := by
  rw [madeCells_nil] at h2
  refine ⟨h.carry hg, OwnM.nils h2, fun k hk hk' => ?_⟩
  have h3 := (h.lt hk).2
  rcases hk' with hk' | ⟨x, hx, hk'⟩
  · simp only [Hits, Value.ownBlock, Option.some.injEq] at hk'
    omega
  · rw [List.eq_of_mem_replicate hx] at hk'
    exact nil_hits hk'

/-- The first rows of a list of the call's own. -/
def Pre (B : Nat) (w : World) (v : Value) (L : List (List Int)) : Prop :=
  ∃ a m c c' vs R, v = .slice a L.length c' ∧ OwnM B w (.slice a m c) vs R ∧ L.length ≤ R.length ∧ L = R.take L.length
theorem Pre.read {B : Nat} {w : World} {v : Value} {L : List (List Int)} (h : Pre B w v L) : MatV w v L := by
  obtain ⟨a, m, c, c', vs, R, rfl, ho, hl, hL⟩ := h
  obtain ⟨va, vc, hve, hvi, hcap⟩ := own_form ho
  cases hve
  have h := ho.read.part 0 L.length c' hl a fun d hd _ => by
    subst hd
    rcases hvi with h | ⟨g, h⟩
    · cases h
    · cases h; exact ⟨_, rfl, rfl, rfl, rfl⟩
  rw [← hL] at h
  simpa using h
theorem Pre.carry {B : Nat} {w w' : World} {v : Value} {L : List (List Int)} (h : Pre B w v L) (hg : w.grownBy w' none) : Pre B w' v L := by
  obtain ⟨a, m, c, c', vs, R, h1, ho, h2, h3⟩ := h
  exact ⟨a, m, c, c', vs, R, h1, ho.carry hg, h2, h3⟩
theorem Pre.base {B B' : Nat} {w : World} {v : Value} {L : List (List Int)} (h : Pre B w v L) (hB : B' ≤ B) : Pre B' w v L := by
  obtain ⟨a, m, c, c', vs, R, h1, ho, h2, h3⟩ := h
  exact ⟨a, m, c, c', vs, R, h1, ho.base hB, h2, h3⟩

set_option maxRecDepth 100000 in
set_option maxHeartbeats 1000000 in
theorem reduced_own (p : Nat) [NeZero p] (u : Value) (L : List (List Int)) (n : Nat) (w : World) (hfld : fldN p = true) (hp2 : p ≤ 1000) (hv : MatV w u L) (hL : RowsOk p n L) (hm : L.length ≤ 1000) (hn : n ≤ 1000) :
    Calls Tryd.prog 126 #[.int .i64 p, u, .int .i64 n] w fun e w' => ∃ v c, e = .returned (.slice v (reducedL p n L).length c) ∧ Pre w.heap.size w' (.slice v (reducedL p n L).length c) (reducedL p n L) ∧ w.grownBy w' none := by
  have hsh : ∃ a c, u = .slice a L.length c := hv.shape
  have HCL := Lib.hid (clones_any u L w hv (by omega) (fun row hrow => by rw [(hL row hrow).1]; omega))
  obtain ⟨i0, hi, hz0, hz1, hz2⟩ := info_parts info_ints
  have HI := Lib.hid hi; have HZ0 := Lib.hid hz0; have HZ1 := Lib.hid hz1; have HZ2 := Lib.hid hz2
  have HUN := Lib.hid Tryd.underlying37
  have HBY := Lib.hid (show i0.bytes * L.length ≤ 281474976710656 by rw [hz2]; omega)
  have HBY2 := Lib.hid (show L.length ≤ maxLen by unfold maxLen; omega)
  have HL := Lib.hid hL; have HFLD := Lib.hid hfld
  clear hv hi hz0 hz1 hz2 hL
  generalize hlen : L.length = m at *
  have HLEN := Lib.hid hlen
  clear hlen
  have hfit : Fit p m n 0 L (List.replicate m []) := ⟨HLEN.out, List.length_replicate, HL.out, nils_ok p m⟩
  have HFIT := Lib.hid hfit
  obtain ⟨hfn, hrm⟩ := at_round hfld hfit (Nat.le_refl n)
  have hred : reducedL p n L = (redTo p L (List.replicate m []) n).R.take (redTo p L (List.replicate m []) n).r := reducedL_eq _ _ _ _
  have HRED := Lib.hid hred
  have hrl : (reducedL p n L).length = (redTo p L (List.replicate m []) n).r := by rw [hred, List.length_take, hfn.lR]; omega
  have HRL := Lib.hid hrl
  have HFN := Lib.hid hfn
  clear hred hrl hfit hfn hfld
  generalize hr : (redTo p L (List.replicate m []) n).r = r at *
  have HR := Lib.hid hr
  clear hr
  obtain ⟨ua, uc, rfl⟩ := hsh
  go_enter Tryd.func126, Tryd.ntmps126
  go_wp2_with (first
    | (go_at_call 118
       refine HCL.out.mono ?_
       rintro e w1 ⟨v, vs, rfl, hown, hg⟩
       have HO := Lib.hid hown; have HG := Lib.hid hg
       obtain ⟨va, vc, hve, hvi, hcap⟩ := own_form hown
       rw [HLEN.out] at hve hcap
       subst hve
       have hsz := hg.size
       clear hown hg)
    | (at_make
       refine wpList_make_full _ rfl _ _ 37 rfl w.heap.size 24 i0 (.slice none 0 0) 1 HUN.out HI.out HZ0.out HZ1.out .i64 .i64 (m : Int) (m : Int) m rfl rfl rfl rfl HBY.out HBY2.out hsz ?_
       intro w2 hown2 hgr2
       have HT2 := Lib.hid (two_nils HO.out hown2 hgr2)
       have HG2 := Lib.hid hgr2
       clear hown2 hgr2)
    | (go_at_call 120
       refine (reduction_any p _ _ _ _ L _ m n 0 w.heap.size _ HFLD.out HT2.out HFIT.out (by omega) (by omega) (by omega) hp2).mono ?_
       rintro e w3 ⟨rfl, vs', us', t, on⟩
       rw [HR.out]
       have HT3 := Lib.hid t; have HON := Lib.hid on
       clear t on))
  go_ret
  have hlen := HRL.out
  refine ⟨va, r, by rw [hlen]; rfl, ?_, grown_of_below ((Below.grown (Below.grown (Below.refl _ w) HG.out (Nat.le_refl _) (by simp)) HG2.out hsz (by simp)).trans (HON.out.below (Nat.le_trans hsz HG2.out.size) fun k hk => HT2.out.base hk))⟩
  exact ⟨va, m, vc, r, vs', (redTo p L (List.replicate m []) n).R, by rw [hlen], HT3.out.mR, by rw [HFN.out.lR, hlen]; exact hrm, by rw [hlen]; exact HRED.out⟩
theorem reduced_any (p : Nat) [NeZero p] (u : Value) (L : List (List Int)) (n : Nat) (w : World) (hfld : fldN p = true) (hp2 : p ≤ 1000) (hv : MatV w u L) (hL : RowsOk p n L) (hm : L.length ≤ 1000) (hn : n ≤ 1000) :
    Calls Tryd.prog 126 #[.int .i64 p, u, .int .i64 n] w fun e w' => ∃ v c, e = .returned (.slice v (reducedL p n L).length c) ∧ MatV w' (.slice v (reducedL p n L).length c) (reducedL p n L) ∧ w.grownBy w' none := by
  refine (reduced_own p u L n w hfld hp2 hv hL hm hn).mono ?_
  rintro e w' ⟨v, c, rfl, h, hg⟩
  exact ⟨v, c, rfl, h.read, hg⟩

theorem tail_eq {L : List (List Int)} {m r : Nat} (hl : L.length = m) : (L.take m).drop r = L.drop r := by rw [List.take_of_length_le (by omega)]
theorem tail_a {w : World} {a : Option Addr} {m c r : Nat} {L : List (List Int)} (h : MatV w (.slice a m c) L) (hl : L.length = m) (hr : r ≤ m) (c' : Nat) (hrm : m ≤ r) : MatV w (.slice a (m - r) c') (L.drop r) := by
  rw [← tail_eq hl]
  exact h.part r m c' (by omega) a fun d _ hlt => absurd hlt (by omega)
theorem tail_b {w : World} {a : Option Addr} {m c r : Nat} {L : List (List Int)} (h : MatV w (.slice a m c) L) (hl : L.length = m) (hr : r ≤ m) (ha : a = none ∨ ∃ g, a = some ⟨g, 0, none⟩) (c' : Nat) : MatV w (.slice (Option.map (fun x => x.add r) a) (m - r) c') (L.drop r) := by
  rw [← tail_eq hl]
  refine h.part r m c' (by omega) _ fun d hd _ => ?_
  subst hd
  rcases ha with ha | ⟨g, ha⟩
  · cases ha
  · cases ha
    refine ⟨_, rfl, ?_, ?_, ?_⟩ <;> (unfold Addr.add; split <;> first | rfl | (simp; omega))
theorem low_frame {w w1 w2 w3 : World} {v u : Value} {vs us : List Value} {R T : List (List Int)} (h1 : w.grownBy w1 none) (h2 : w1.grownBy w2 none) (t : Two w.heap.size w2 v vs u us R T) (on : Only (Feet v vs u us) w2 w3) : Below w.heap.size w w3 :=
  (Below.grown (Below.grown (Below.refl _ w) h1 (Nat.le_refl _) (by simp)) h2 h1.size (by simp)).trans (on.below (Nat.le_trans h1.size h2.size) fun k hk => t.base hk)
theorem two_ids {w w1 w2 : World} {v u : Value} {vs us : List Value} {R T : List (List Int)} (h : OwnM w.heap.size w1 v vs R) (hg : w.grownBy w1 none) (h2 : OwnM w1.heap.size w2 u us T) (hg2 : w1.grownBy w2 none) : Two w.heap.size w2 v vs u us R T := by
  refine ⟨h.carry hg2, h2.base hg.size, fun k hk hk' => ?_⟩
  have h3 := (h.lt hk).2
  have h4 := (h2.lt hk').1
  omega

set_option maxRecDepth 100000 in
set_option maxHeartbeats 1000000 in
theorem kernel_own (p : Nat) [NeZero p] (u : Value) (L : List (List Int)) (n : Nat) (w : World) (hfld : fldN p = true) (hp2 : p ≤ 1000) (hv : MatV w u L) (hL : RowsOk p n L) (hm : L.length ≤ 1000) (hn : n ≤ 1000) :
    Calls Tryd.prog 127 #[.int .i64 p, u, .int .i64 n] w fun e w' => ∃ v c, e = .returned (.slice v (kernelL p n L).length c) ∧ Pre w.heap.size w' (.slice v (kernelL p n L).length c) (kernelL p n L) ∧ w.grownBy w' none := by
  have hsh : ∃ a c, u = .slice a L.length c := hv.shape
  have HCL := Lib.hid (clones_any u L w hv (by omega) (fun row hrow => by rw [(hL row hrow).1]; omega))
  have HFLD := Lib.hid hfld
  have g := ge hfld hL rfl
  have hfit : Fit p L.length n L.length L (idL L.length) := ⟨rfl, idL_len _, hL, idL_ok (lt_p hfld)⟩
  have hkl : kernelL p n L = reducedL p L.length ((redTo p L (idL L.length) n).T.drop (redTo p L (idL L.length) n).r) := rfl
  have HKL := Lib.hid hkl
  have hrm := g.rm
  have hTl := Lib.hid g.lenT
  have hTo := Lib.hid (drop_ok (k := (redTo p L (idL L.length) n).r) g.okT)
  clear hv hL hfld g hkl
  generalize hlen : L.length = m at *
  have HLEN := Lib.hid hlen
  have HFIT := Lib.hid hfit
  clear hlen hfit
  generalize hS : redTo p L (idL m) n = s at *
  have HS := Lib.hid hS
  clear hS
  generalize hr : s.r = r at *
  have HR := Lib.hid hr
  clear hr
  obtain ⟨ua, uc, rfl⟩ := hsh
  go_enter Tryd.func127, Tryd.ntmps127
  go_wp2_with (first
    | (go_at_call 118
       refine HCL.out.mono ?_
       rintro e w1 ⟨v, vs, rfl, hown, hg⟩
       have HO := Lib.hid hown; have HG := Lib.hid hg
       obtain ⟨va, vc, hve, hvi, hcap⟩ := own_form hown
       rw [HLEN.out] at hve hcap
       subst hve
       have hsz := hg.size
       clear hown hg)
    | (go_at_call 119
       refine (identityRows_any m w1 (by omega)).mono ?_
       rintro e w2 ⟨v2, vs2, rfl, hown2, hg2⟩
       obtain ⟨va2, vc2, hve2, hvi2, hcap2⟩ := own_form hown2
       rw [idL_len] at hve2 hcap2
       subst hve2
       have HT2 := Lib.hid (two_ids HO.out HG.out hown2 hg2); have HG2 := Lib.hid hg2
       clear hown2 hg2)
    | (go_at_call 120
       refine (reduction_any p _ _ _ _ L _ m n m w.heap.size _ HFLD.out HT2.out HFIT.out (by omega) (by omega) (by omega) hp2).mono ?_
       rintro e w3 ⟨rfl, vs', us', t, on⟩
       rw [HS.out, HR.out]
       have hrd : MatV w3 (.slice va2 m vc2) s.T := by have := t.mT.read; rwa [HS.out] at this
       have HA := Lib.hid fun hle => reduced_own p _ (s.T.drop r) m w3 HFLD.out hp2 (tail_a (r := r) hrd hTl.out hrm 0 hle) hTo.out (by rw [List.length_drop, hTl.out]; omega) (by omega)
       have HB := Lib.hid fun c' => reduced_own p _ (s.T.drop r) m w3 HFLD.out hp2 (tail_b (r := r) hrd hTl.out hrm hvi2 c') hTo.out (by rw [List.length_drop, hTl.out]; omega) (by omega)
       have HT3 := Lib.hid (low_frame HG.out HG2.out HT2.out on)
       clear t on hrd)
    | (go_at_call 126
       first
         | (with_reducible refine (HA.out (by omega)).mono ?_
            rintro e w4 ⟨v4, c4, rfl, hv4, hg4⟩
            rw [← HKL.out] at hv4
            rw [← HKL.out]
            have HV4 := Lib.hid hv4; have HG4 := Lib.hid hg4
            clear hv4 hg4)
         | (with_reducible refine (HB.out _).mono ?_
            rintro e w4 ⟨v4, c4, rfl, hv4, hg4⟩
            rw [← HKL.out] at hv4
            rw [← HKL.out]
            have HV4 := Lib.hid hv4; have HG4 := Lib.hid hg4
            clear hv4 hg4)))
  all_goals
    go_ret
    exact ⟨v4, c4, rfl, HV4.out.base HT3.out.size, grown_of_below ((HT3.out).grown HG4.out HT3.out.size (by simp))⟩
theorem kernel_any (p : Nat) [NeZero p] (u : Value) (L : List (List Int)) (n : Nat) (w : World) (hfld : fldN p = true) (hp2 : p ≤ 1000) (hv : MatV w u L) (hL : RowsOk p n L) (hm : L.length ≤ 1000) (hn : n ≤ 1000) :
    Calls Tryd.prog 127 #[.int .i64 p, u, .int .i64 n] w fun e w' => ∃ v c, e = .returned (.slice v (kernelL p n L).length c) ∧ MatV w' (.slice v (kernelL p n L).length c) (kernelL p n L) ∧ w.grownBy w' none := by
  refine (kernel_own p u L n w hfld hp2 hv hL hm hn).mono ?_
  rintro e w' ⟨v, c, rfl, h, hg⟩
  exact ⟨v, c, rfl, h.read, hg⟩
end Go.Proofs.YtpeaeminjbjlnaaDoor

/-
  The reduction of a matrix. Conditions: lengths are small.
-/
namespace Go.Proofs.YtpeaeminjbjlnaaDoor
open Go.RowKit
set_option linter.unusedVariables false

theorem matB_parts {p : Nat} {cols : Int} {L : List (List Int)} (h : matB p cols L = true) : fldN p = true ∧ p ≤ 1000 ∧ ∃ n : Nat, cols = n ∧ n ≤ 24 ∧ L.length ≤ 24 ∧ RowsOk p n L := by
  unfold matB at h
  simp only [Bool.and_eq_true, decide_eq_true_eq] at h
  obtain ⟨h1, ⟨h2, h3⟩, h4, h5⟩ := h
  obtain ⟨n, rfl⟩ := Int.eq_ofNat_of_zero_le h2
  have h6 : fldN p = true := by rw [← fldB_nat]; exact h1
  exact ⟨h6, by have := (of_decide_eq_true h6).2.1; omega, n, rfl, by omega, h4, rowsB_ok.1 h5⟩

/-- three blocks laid one after another stay as long as only later ones are written -/
theorem blk3 (w : World) (o1 o2 o3 : Obj) {w' : World} (h : (((w.alloc o1).alloc o2).alloc o3).grownBy w' none) :
    w'.heap[w.heap.size]? = some o1 ∧ w'.heap[w.heap.size + 1]? = some o2 ∧ w'.heap[w.heap.size + 1 + 1]? = some o3 ∧ w.heap.size + 1 + 1 + 1 ≤ w'.heap.size := by
  have s1 : (w.alloc o1).heap.size = w.heap.size + 1 := by simp
  have s2 : ((w.alloc o1).alloc o2).heap.size = w.heap.size + 1 + 1 := by simp
  have s3 : (((w.alloc o1).alloc o2).alloc o3).heap.size = w.heap.size + 1 + 1 + 1 := by simp
  have e1 := alloc_heap_new w o1
  have e2 := alloc_heap_new (w.alloc o1) o2
  have e3 := alloc_heap_new ((w.alloc o1).alloc o2) o3
  have f1 := alloc_heap_old (w.alloc o1) o2 w.heap.size (by omega)
  have f2 := alloc_heap_old ((w.alloc o1).alloc o2) o3 w.heap.size (by omega)
  have f3 := alloc_heap_old ((w.alloc o1).alloc o2) o3 (w.heap.size + 1) (by omega)
  rw [s1] at e2
  rw [s2] at e3
  refine ⟨?_, ?_, ?_, by rw [← s3]; exact h.size⟩
  · rw [h.block _ (by omega) (by simp), f2, f1, e1]
  · rw [h.block _ (by omega) (by simp), f3, e2]
  · rw [h.block _ (by omega) (by simp), e3]
theorem cell_blk {w : World} {b : Nat} {cs : Array Value} {t : TypeId} {fr : Nat × Nat} (h : w.heap[b]? = some (.cells cs t fr)) (j : Nat) : w.cell? ⟨b, j, none⟩ = cs[j]? := by
  simp [World.cell?, h]
theorem free_blk {w : World} {b : Nat} {cs : Array Value} {t : TypeId} (h : w.heap[b]? = some (.cells cs t (0, 0))) (j : Nat) : w.frozen? ⟨b, j, none⟩ = false := by
  simp [World.frozen?, h]

theorem two_set {w : World} (b c : Nat) (x y z t : Value) : Only (fun k => k = b ∨ k = c) w ((((w.setCell ⟨b, 0, none⟩ x).setCell ⟨b, 1, none⟩ y).setCell ⟨c, 0, none⟩ z).setCell ⟨c, 1, none⟩ t) :=
  ⟨rfl, rfl, rfl, by simp [World.setCell], fun k _ hn => by
    rw [Below.heap_setCell _ _ _ _ (fun h => hn (Or.inr h)), Below.heap_setCell _ _ _ _ (fun h => hn (Or.inr h)), Below.heap_setCell _ _ _ _ (fun h => hn (Or.inl h)), Below.heap_setCell _ _ _ _ (fun h => hn (Or.inl h))]⟩

set_option maxRecDepth 100000 in
set_option maxHeartbeats 1000000 in
theorem rowReduce_any (p : Nat) [NeZero p] (cols : Int) (u : Value) (L : List (List Int)) (w : World) (ht : Tab w) (hv : MatV w u L) (hl : L.length ≤ 1000000) (hll : ∀ row ∈ L, row.length ≤ 1000000) (hb : matB p cols L = true) :
    Calls Tryd.prog 26 #[.int .i64 p, mxV cols u] w fun e w' => ∃ v1 v2, e = .returned (.tuple #[mxV cols v1, mxV L.length v2, .bool true]) ∧ MatV w' v1 (redTo p L (idL L.length) cols.toNat).R ∧ MatV w' v2 (redTo p L (idL L.length) cols.toNat).T ∧ w.grownBy w' none := by
  obtain ⟨hfld, hp2, n, rfl, hn, hm, hL⟩ := matB_parts hb
  rw [Int.toNat_natCast]
  have hsh := hv.shape
  have HIS := Lib.hid fun w1 (hg : w.grownBy w1 none) => isMatrix_any p n u L w1 (ht.grown hg) (hv.carry hg) hl hll
  rw [hb] at HIS
  have HCL := Lib.hid fun w1 (hg : w.grownBy w1 none) => clones_any u L w1 (hv.carry hg) (by omega) (fun row hrow => by rw [(hL row hrow).1]; omega)
  unfold mxV at *
  obtain ⟨ua, uc, rfl⟩ := hsh
  clear hv ht hb hll
  go_enter Tryd.func26, Tryd.ntmps26
  go_wp2_with (first
    | (go_at_call 117
       with_reducible refine (HIS.out _ ?_).mono ?_
       · exact ((grownBy_alloc _ _ none).trans (grownBy_alloc _ _ none)).trans (grownBy_alloc _ _ none)
       rintro e w1 ⟨rfl, hg1⟩
       have HG1 := Lib.hid hg1
       clear hg1))
  have HBL := Lib.hid (blk3 w _ _ _ HG1.out)
  have HW1 := Lib.hid (grown_of_below (Below.grown ((((Below.refl _ w).alloc (Nat.le_refl _) _).alloc (by simp) _).alloc (by simp; omega) _) HG1.out (by simp; omega) (by simp)))
  have c1 : w1.cell? ⟨w.heap.size, 1, none⟩ = some (.slice ua L.length uc) := cell_blk HBL.out.1 1
  clear HG1
  have HWD := Lib.hid (show w.grownBy w1.drew none from ⟨HW1.out.os, HW1.out.tape, HW1.out.output, HW1.out.size, HW1.out.block⟩)
  generalize hbe : w.heap.size = b at *
  have HBE := Lib.hid hbe
  clear hbe
  go_region_held3 (fun w' => w'.cell? ⟨b, 1, none⟩ = some (.slice ua L.length uc)) (first | exact c1 | exact c2 | exact c3)
    (first
      | (go_at_call 118
         refine (HCL.out _ HWD.out).mono ?_
         rintro e w2 ⟨v, vs, rfl, hown, hg⟩
         have c2 : w2.cell? ⟨b, 1, none⟩ = some (.slice ua L.length uc) := (World.cell?_of_block (w := w1.drew) (a := ⟨b, 1, none⟩) (hg.block b (Nat.lt_of_lt_of_le (by omega) HBL.out.2.2.2) (by simp))).trans c1
         have HO := Lib.hid hown; have HG := Lib.hid hg
         clear hown hg)
      | (go_at_call 119
         refine (identityRows_any L.length _ (by omega)).mono ?_
         rintro e w3 ⟨v2, vs2, rfl, hown2, hg2⟩
         have c3 : w3.cell? ⟨b, 1, none⟩ = some (.slice ua L.length uc) := (World.cell?_of_block (w := w2) (a := ⟨b, 1, none⟩) (hg2.block b (Nat.lt_of_lt_of_le (Nat.lt_of_lt_of_le (by omega) HBL.out.2.2.2) HG.out.size) (by simp))).trans c2
         have HO2 := Lib.hid hown2; have HG2 := Lib.hid hg2
         clear hown2 hg2))
  obtain ⟨va, vc, hve, hvi, hcap⟩ := own_form HO.out
  obtain ⟨va2, vc2, hve2, hvi2, hcap2⟩ := own_form HO2.out
  rw [idL_len] at hve2
  subst hve hve2
  have HTW := Lib.hid (two_ids HO.out HG.out HO2.out HG2.out)
  have HFIT := Lib.hid (show Fit p L.length n L.length L (idL L.length) from ⟨rfl, idL_len _, hL, idL_ok (lt_p hfld)⟩)
  have hbel3 : Below w1.heap.size w1 w3 := Below.grown (Below.grown (show Below w1.heap.size w1 w1.drew from ⟨rfl, rfl, rfl, Nat.le_refl _, fun _ _ => rfl⟩) HG.out (Nat.le_refl _) (by simp)) HG2.out HG.out.size (by simp)
  have HB3 := Lib.hid hbel3
  have bl : ∀ w', Below w1.heap.size w1 w' → w'.heap[b]? = w1.heap[b]? ∧ w'.heap[b + 1]? = w1.heap[b + 1]? ∧ w'.heap[b + 1 + 1]? = w1.heap[b + 1 + 1]? := by
    intro w' h
    have := HBL.out.2.2.2
    exact ⟨h.block _ (by omega), h.block _ (by omega), h.block _ (by omega)⟩
  have BL := Lib.hid bl
  have c0 : w3.cell? ⟨b, 0, none⟩ = some (.int .i64 n) := cell_blk ((bl _ hbel3).1.trans HBL.out.1) 0
  clear c1 c2 c3 bl hbel3 hvi hvi2 hcap hcap2
  go_wp2_with (
    go_at_call 120
    refine (reduction_any p _ _ _ _ L _ L.length n L.length _ _ hfld HTW.out HFIT.out (by omega) (by omega) (by omega) hp2).mono ?_
    rintro e w4 ⟨rfl, vs', us', t, on⟩
    have HB4 := HB3.out.trans (on.below HB3.out.size fun k hk => HTW.out.base hk)
    have d1 := (BL.out _ HB4).1.trans HBL.out.1
    have d2 := (BL.out _ HB4).2.1.trans HBL.out.2.1
    have d3 := (BL.out _ HB4).2.2.trans HBL.out.2.2.1
    have HB4 := Lib.hid HB4
    have c0 := cell_blk d1 0
    have c20 := cell_blk d2 0
    have c21 := cell_blk d2 1
    have c30 := cell_blk d3 0
    have c31 := cell_blk d3 1
    have f20 := free_blk d2 0
    have f21 := free_blk d2 1
    have f30 := free_blk d3 0
    have f31 := free_blk d3 1
    have D2 := Lib.hid d2; have D3 := Lib.hid d3
    have HT4 := Lib.hid t
    simp only [List.getElem?_toArray, List.getElem?_cons_zero, List.getElem?_cons_succ] at c0 c20 c21 c30 c31
    clear t on d1 d2 d3)
  refine bodyPost_ret_by (v := .tuple #[.agg #[.int .i64 n, .slice va L.length vc], .agg #[.int .i64 L.length, .slice va2 L.length vc2], .bool true]) ?_ rfl ?_
  · simp [results, go_sem, *]
  · have o5 := two_set (w := w4) (b + 1) (b + 1 + 1) (.int .i64 n) (.slice va L.length vc) (.int .i64 L.length) (.slice va2 L.length vc2)
    have hsz := HBL.out.2.2.2
    have hne : ∀ k, w1.heap.size ≤ k → ¬ (k = b + 1 ∨ k = b + 1 + 1) := fun k hk => by omega
    refine ⟨_, _, rfl, (HT4.out.mR.only o5 fun k hk => hne k (HT4.out.mR.lt hk).1).read, (HT4.out.mT.only o5 fun k hk => hne k (HT4.out.mT.lt hk).1).read, ?_⟩
    refine grown_of_below ?_
    have h1 := (Below.grown (Below.refl _ w) HW1.out (Nat.le_refl _) (by simp)).trans (HB4.out.mono HW1.out.size)
    exact h1.trans (o5.below h1.size fun k hk => by rw [HBE.out]; omega)

end Go.Proofs.YtpeaeminjbjlnaaDoor

/-
  Ranks, kernels, identities, and what is no matrix. Conditions: lengths are small.
-/
namespace Go.Proofs.YtpeaeminjbjlnaaDoor
open Go.RowKit
set_option linter.unusedVariables false

set_option maxRecDepth 100000 in
set_option maxHeartbeats 1000000 in
theorem rowReduce_no (p : Int) (cols : Int) (u : Value) (L : List (List Int)) (w : World) (ht : Tab w) (hv : MatV w u L) (hl : L.length ≤ 1000000) (hll : ∀ row ∈ L, row.length ≤ 1000000) (hb : matB p cols L = false) :
    Calls Tryd.prog 26 #[.int .i64 p, mxV cols u] w fun e w' => e = .returned (.tuple #[mxV 0 nilS, mxV 0 nilS, .bool false]) ∧ w.grownBy w' none := by
  have hsh := hv.shape
  have HIS := Lib.hid fun w1 (hg : w.grownBy w1 none) => isMatrix_any p cols u L w1 (ht.grown hg) (hv.carry hg) hl hll
  rw [hb] at HIS
  unfold mxV at *
  unfold nilS
  obtain ⟨ua, uc, rfl⟩ := hsh
  clear hv ht hb hll
  go_enter Tryd.func26, Tryd.ntmps26
  go_wp2_with (first
    | (go_at_call 117
       with_reducible refine (HIS.out _ ?_).mono ?_
       · exact ((grownBy_alloc _ _ none).trans (grownBy_alloc _ _ none)).trans (grownBy_alloc _ _ none)
       rintro e w1 ⟨rfl, hg1⟩
       have hbl := blk3 w _ _ _ hg1
       have HW1 := Lib.hid (grown_of_below (Below.grown ((((Below.refl _ w).alloc (Nat.le_refl _) _).alloc (by simp) _).alloc (by simp; omega) _) hg1 (by simp; omega) (by simp)))
       have c20 := cell_blk hbl.2.1 0
       have c21 := cell_blk hbl.2.1 1
       have c30 := cell_blk hbl.2.2.1 0
       have c31 := cell_blk hbl.2.2.1 1
       have f20 := free_blk hbl.2.1 0
       have f21 := free_blk hbl.2.1 1
       have f30 := free_blk hbl.2.2.1 0
       have f31 := free_blk hbl.2.2.1 1
       simp only [List.getElem?_toArray, List.getElem?_cons_zero, List.getElem?_cons_succ] at c20 c21 c30 c31
       clear hg1 hbl))
  refine bodyPost_ret_by (v := .tuple #[.agg #[.int .i64 0, .slice none 0 0], .agg #[.int .i64 0, .slice none 0 0], .bool false]) ?_ rfl ?_
  · simp [results, go_sem, *]
  · refine ⟨rfl, grown_of_below ?_⟩
    have h1 := Below.grown (Below.refl _ w) HW1.out (Nat.le_refl _) (by simp)
    exact h1.trans ((two_set _ _ _ _ _ _).below h1.size fun k hk => by omega)

theorem box1 (w : World) (cs : Array Value) (t : TypeId) {w' : World} (h : (w.alloc (.cells cs t)).grownBy w' none) : w'.heap[w.heap.size]? = some (.cells cs t (0, 0)) ∧ w.grownBy w' none :=
  ⟨(h.block _ (by simp) (by simp)).trans (alloc_heap_new w _), grown_of_below (Below.grown ((Below.refl _ w).alloc (Nat.le_refl _) _) h (by simp) (by simp))⟩

set_option maxRecDepth 100000 in
set_option maxHeartbeats 1000000 in
theorem rankOf_any (p : Nat) [NeZero p] (cols : Int) (u : Value) (L : List (List Int)) (w : World) (ht : Tab w) (hv : MatV w u L) (hl : L.length ≤ 1000000) (hll : ∀ row ∈ L, row.length ≤ 1000000) (hb : matB p cols L = true) :
    Calls Tryd.prog 32 #[.int .i64 p, mxV cols u] w fun e w' => e = .returned (.tuple #[.int .i64 (rankL p cols.toNat L), .bool true]) ∧ w.grownBy w' none := by
  obtain ⟨hfld, hp2, n, rfl, hn, hm, hL⟩ := matB_parts hb
  rw [Int.toNat_natCast]
  have hsh := hv.shape
  have HIS := Lib.hid fun w1 (hg : w.grownBy w1 none) => isMatrix_any p n u L w1 (ht.grown hg) (hv.carry hg) hl hll
  rw [hb] at HIS
  have HRD := Lib.hid fun w1 (hg : w.grownBy w1 none) => reduced_any p u L n w1 hfld hp2 (hv.carry hg) hL (by omega) (by omega)
  have hrl := reducedL_len hfld hL
  rw [hrl] at HRD
  unfold mxV at *
  obtain ⟨ua, uc, rfl⟩ := hsh
  clear hv ht hb hll
  go_enter Tryd.func32, Tryd.ntmps32
  go_wp2_with (first
    | (go_at_call 117
       with_reducible refine (HIS.out _ ?_).mono ?_
       · exact grownBy_alloc _ _ none
       rintro e w1 ⟨rfl, hg1⟩
       obtain ⟨hbl, hgw⟩ := box1 w _ _ hg1
       have HW1 := Lib.hid hgw
       have c0 := cell_blk hbl 0
       have c1 := cell_blk hbl 1
       simp only [List.getElem?_toArray, List.getElem?_cons_zero, List.getElem?_cons_succ] at c0 c1
       clear hg1 hbl hgw)
    | (go_at_call 126
       with_reducible refine (HRD.out _ HW1.out).mono ?_
       rintro e w2 ⟨v2, c2, rfl, hm2, hg2⟩
       have HW2 := Lib.hid (HW1.out.trans hg2)
       clear hm2 hg2))
  go_ret2
  exact ⟨rfl, HW2.out⟩

set_option maxRecDepth 100000 in
set_option maxHeartbeats 1000000 in
theorem kernelOf_any (p : Nat) [NeZero p] (cols : Int) (u : Value) (L : List (List Int)) (w : World) (ht : Tab w) (hv : MatV w u L) (hl : L.length ≤ 1000000) (hll : ∀ row ∈ L, row.length ≤ 1000000) (hb : matB p cols L = true) :
    Calls Tryd.prog 33 #[.int .i64 p, mxV cols u] w fun e w' => ∃ v c, e = .returned (.tuple #[.slice v (kernelL p cols.toNat L).length c, .bool true]) ∧ MatV w' (.slice v (kernelL p cols.toNat L).length c) (kernelL p cols.toNat L) ∧ w.grownBy w' none := by
  obtain ⟨hfld, hp2, n, rfl, hn, hm, hL⟩ := matB_parts hb
  rw [Int.toNat_natCast]
  have hsh := hv.shape
  have HIS := Lib.hid fun w1 (hg : w.grownBy w1 none) => isMatrix_any p n u L w1 (ht.grown hg) (hv.carry hg) hl hll
  rw [hb] at HIS
  have HRD := Lib.hid fun w1 (hg : w.grownBy w1 none) => kernel_any p u L n w1 hfld hp2 (hv.carry hg) hL (by omega) (by omega)
  generalize kernelL p n L = K at *
  generalize K.length = kl at *
  unfold mxV at *
  obtain ⟨ua, uc, rfl⟩ := hsh
  clear hv ht hb hll
  go_enter Tryd.func33, Tryd.ntmps33
  go_wp2_with (first
    | (go_at_call 117
       with_reducible refine (HIS.out _ ?_).mono ?_
       · exact grownBy_alloc _ _ none
       rintro e w1 ⟨rfl, hg1⟩
       obtain ⟨hbl, hgw⟩ := box1 w _ _ hg1
       have HW1 := Lib.hid hgw
       have c0 := cell_blk hbl 0
       have c1 := cell_blk hbl 1
       simp only [List.getElem?_toArray, List.getElem?_cons_zero, List.getElem?_cons_succ] at c0 c1
       clear hg1 hbl hgw)
    | (go_at_call 127
       with_reducible refine (HRD.out _ HW1.out).mono ?_
       rintro e w2 ⟨v2, c2, rfl, hm2, hg2⟩
       have HW2 := Lib.hid (HW1.out.trans hg2)
       have HM2 := Lib.hid hm2
       clear hm2 hg2))
  go_ret2
  exact ⟨v2, c2, rfl, HM2.out, HW2.out⟩

end Go.Proofs.YtpeaeminjbjlnaaDoor

/-
  Identities, combinations, products, inverses. Conditions: lengths are small.
-/
namespace Go.Proofs.YtpeaeminjbjlnaaDoor
open Go.RowKit
set_option linter.unusedVariables false

def combTo (p : Int) (x : List Int) (L : List (List Int)) (n : Nat) : Nat → List Int
  | 0 => List.replicate n 0
  | k + 1 => addT p (combTo p x L n k) (x.getD k 0) (L.getD k [])
theorem combTo_ok {p n : Nat} [NeZero p] {x : List Int} {L : List (List Int)} (hp : 1 < p) (hL : RowsOk p n L) : ∀ k, k ≤ L.length → VecOk p n (combTo p x L n k) := by
  intro k
  induction k with
  | zero =>
    intro _
    refine ⟨by simp [combTo], fun z hz => ?_⟩
    have := List.eq_of_mem_replicate hz
    omega
  | succ k ih =>
    intro hk
    exact addT_ok _ (ih (by omega)).1 (hL _ (getD_mem (show k < L.length by omega))).1

set_option maxRecDepth 100000 in
set_option maxHeartbeats 1000000 in
theorem combine_any (p : Nat) [NeZero p] (u v : Value) (x : List Int) (L : List (List Int)) (n : Nat) (w : World) (hp : 1 < p) (hp2 : p ≤ 1000) (hu : IntsV w u x) (hv : MatV w v L) (hxl : x.length = L.length) (hx : ∀ z ∈ x, 0 ≤ z ∧ z < p) (hL : RowsOk p n L) (hm : L.length ≤ 1000) (hn : n ≤ 1000) :
    Calls Tryd.prog 170 #[.int .i64 p, u, v, .int .i64 n] w fun e w' => ∃ o, e = .returned o ∧ OwnInts w.heap.size w' o (combTo p x L n L.length) ∧ w.grownBy w' none := by
  have HU := Lib.hid hu; have HV := Lib.hid hv; have HX := Lib.hid hx; have HL := Lib.hid hL
  have HOK := Lib.hid (combTo_ok (x := x) hp hL)
  obtain ⟨ua, uc, rfl, hui⟩ := hu
  obtain ⟨va, vc, rfl⟩ := hv.shape
  clear hv hx hL hui
  have HXL := Lib.hid hxl
  rw [hxl]
  clear hxl
  generalize hlen : L.length = m at *
  have HLEN := Lib.hid hlen
  clear hlen
  go_enter Tryd.func170, Tryd.ntmps170
  go_wp2_with (
    go_at_call 243
    refine (zeros_any n w (by omega)).mono ?_
    rintro e w1 ⟨o, rfl, ho, hg⟩
    obtain ⟨oa, oc, hoe⟩ := own_shape ho
    rw [List.length_replicate] at hoe
    subst hoe
    have HO1 := Lib.hid ho; have HG1 := Lib.hid hg
    clear ho hg)
  go_loopw [16] (fun i wr => ∃ k : Nat, k ≤ m ∧ i = .int .i64 k ∧ OwnInts w.heap.size wr (.slice oa n oc) (combTo p x L n k) ∧ Below w.heap.size w wr) (fun i _ => m - (intOf i).toNat)
  case atStart => exact ⟨0, by omega, rfl, HO1.out, Below.grown (Below.refl _ w) HG1.out (Nat.le_refl _) (by simp)⟩
  case round =>
    obtain ⟨k, hk, rfl, ho, hb⟩ := hrel
    have HO := Lib.hid ho; have HB := Lib.hid hb
    clear ho hb
    by_cases hlt : k < m
    · have hkl : k < L.length := by rw [HLEN.out]; exact hlt
      obtain ⟨d, r, c, rfl, hs, hd, hcell, hrow⟩ := HV.out.row hkl
      have hcell2 := (HB.out.cell (p := ⟨d.block, d.off + k, none⟩) hd).trans hcell
      clear hcell
      obtain ⟨db, dof, _⟩ := d
      simp only at hs hcell2
      subst hs
      have hkx : k < x.length := by rw [HXL.out]; exact hlt
      obtain ⟨xd, rfl, hs, hxd, hxc⟩ := HU.out.at hkx
      have hxc := (HB.out.cell (p := ⟨xd.block, xd.off + k, none⟩) hxd).trans hxc
      obtain ⟨xb, xof, _⟩ := xd
      simp only at hs hxc
      subst hs
      have hrok := HL.out _ (List.getElem_mem hkl)
      rw [hrok.1] at hcell2 hrow
      have hxz := HX.out _ (List.getElem_mem hkx)
      have hnext : combTo p x L n (k + 1) = addT p (combTo p x L n k) x[k] L[k] := by
        show addT p (combTo p x L n k) (x.getD k 0) (L.getD k []) = _
        rw [getD_lt hkx, getD_row hkl]
      have HN := Lib.hid hnext
      have hcok := HOK.out k hk
      have A := Lib.hid (addTimes_any p x[k] _ _ _ _ w.heap.size wr HO.out (hrow.carry (grown_of_below HB.out)) (fun hne q h1 h2 => by
        have h3 := (HO.out.lt q h1).1
        obtain ⟨d', hd', _, hlt', _⟩ : ∃ d' : Addr, r = some d' ∧ d'.spot = none ∧ d'.block < w.heap.size ∧ True := by
          obtain ⟨a', c', he, hi⟩ := hrow
          cases he
          have hne' : L[k] ≠ [] := by
            intro h
            exact hne (List.eq_nil_of_length_eq_zero (hcok.1.trans (by rw [h]; rfl)))
          obtain ⟨d', h4, h5, h6, _⟩ := hi hne'
          exact ⟨d', h4, h5, h6, trivial⟩
        subst hd'
        simp only [Value.blk', Option.some.injEq] at h2
        omega) (by rw [hcok.1, hrok.1]) (by rw [hcok.1]; omega) (by omega) (by omega) (by omega) (by omega) (fun z hz => by have := hcok.2 z hz; omega) (fun z hz => by have := hrok.2 z hz; omega))
      clear hnext hcok hrow hrok
      generalize x[k] = xk at *
      go_wp2_with (
        go_at_call 244
        with_reducible refine A.out.mono ?_
        rintro e w2 ⟨rfl, h1, h2⟩
        have H1 := Lib.hid h1; have H2 := Lib.hid h2
        clear h1 h2)
      go_roundw
      case rel => exact ⟨k + 1, by omega, by go_num, by rw [HN.out]; exact H1.out, HB.out.trans (H2.out.below HB.out.size fun q hq => (HO.out.lt q hq).1)⟩
      case measure => simp [intOf]; omega
    · have hkm : k = m := by omega
      subst hkm
      go_wp2
      go_ret
      exact ⟨_, rfl, HO.out, grown_of_below HB.out⟩

end Go.Proofs.YtpeaeminjbjlnaaDoor

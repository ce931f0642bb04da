/-
  Reduced lists and kernels, as values that can be read. Conditions: lengths are small; rows of elements.
-/
import Derived.Test.YtpeaeminjbjlnaaDoorMv03
import Derived.Deep.RegionHeld3
import Derived.Deep.AppendLies
import Derived.Deep.RegionLaw
namespace Go.Proofs.YtpeaeminjbjlnaaDoor
open Go.RowKit
set_option linter.unusedVariables false

theorem MatV.part {w : World} {a : Option Addr} {n cap : Nat} {L : List (List Int)} (h : MatV w (.slice a n cap) L) (s t c : Nat) (ht : t ≤ L.length) (a' : Option Addr)
    (ha : ∀ d, a = some d → s < t → ∃ d', a' = some d' ∧ d'.block = d.block ∧ d'.off = d.off + s ∧ d'.spot = none) : MatV w (.slice a' (t - s) c) ((L.take t).drop s) := by
  obtain ⟨a0, c0, he, hi⟩ := h
  cases he
  have hlen : ((L.take t).drop s).length = t - s := by simp; omega
  refine ⟨a', c, by rw [hlen], fun hz => ?_⟩
  have hst : s < t := by
    rcases Nat.lt_or_ge s t with h | h
    · exact h
    · exact absurd (List.eq_nil_of_length_eq_zero (by rw [hlen]; omega)) hz
  obtain ⟨d, had, hs, hd, hr⟩ := hi (by intro h; rw [h] at ht; simp at ht; omega)
  obtain ⟨d', ha', hb, ho, hsp⟩ := ha d had hst
  refine ⟨d', ha', hsp, by rw [hb]; exact hd, fun i hi' => ?_⟩
  have hi2 : s + i < L.length := by rw [hlen] at hi'; omega
  obtain ⟨u, hu, hv⟩ := hr (s + i) hi2
  refine ⟨u, ?_, ?_⟩
  · rw [hb, ho, Nat.add_assoc]; exact hu
  · have e : ((L.take t).drop s)[i] = L[s + i] := by rw [List.getElem_drop, List.getElem_take]
    rw [e]; exact hv

theorem madeCells_nil (n : Nat) : (madeCells (Value.slice none 0 0).cells (n * 1)).toList = List.replicate n nilS := by
  refine List.ext_getElem (by simp [madeCells]) fun j h1 h2 => ?_
  simp [madeCells, Value.cells, Nat.mod_one, nilS]
theorem getD_repl {n i : Nat} : (List.replicate n nilS).getD i nilS = nilS := by
  rw [List.getD_eq_getElem?_getD, List.getElem?_replicate]
  split <;> rfl
theorem getD_repl' {n i : Nat} : (List.replicate n ([] : List Int)).getD i [] = [] := by
  rw [List.getD_eq_getElem?_getD, List.getElem?_replicate]
  split <;> rfl
theorem OwnM.nils {B : Nat} {w : World} {v : Value} {n : Nat} (h : w.ownsRow B 24 1 v n (List.replicate n nilS)) : OwnM B w v (List.replicate n nilS) (List.replicate n []) :=
  ⟨by simp, by rw [List.length_replicate]; exact h, fun i => by rw [getD_repl, getD_repl']; exact OwnInts.nil B w, fun i j _ k hk => by rw [getD_repl] at hk; exact absurd hk nil_hits⟩
theorem nils_ok (p : Int) (n : Nat) : RowsOk p 0 (List.replicate n []) := by
  intro row hrow
  rw [List.eq_of_mem_replicate hrow]
  exact ⟨rfl, fun x hx => by simp at hx⟩

theorem own_form {B : Nat} {w : World} {v : Value} {vs : List Value} {L : List (List Int)} (h : OwnM B w v vs L) : ∃ a c, v = .slice a L.length c ∧ (a = none ∨ ∃ g, a = some ⟨g, 0, none⟩) ∧ L.length ≤ c := by
  have h1 := h.len
  rcases h.out.2 with ⟨rfl, h0⟩ | ⟨g, cap, cur, rfl, _, _, hc, _⟩
  · exact ⟨none, 0, by rw [← h1, h0], Or.inl rfl, by omega⟩
  · exact ⟨some ⟨g, 0, none⟩, cap, by rw [h1], Or.inr ⟨g, rfl⟩, by omega⟩
theorem Two.base {B : Nat} {w : World} {v u : Value} {vs us : List Value} {R T : List (List Int)} (h : Two B w v vs u us R T) {k : Nat} (hk : Feet v vs u us k) : B ≤ k := by
  rcases hk with hk | hk
  · exact (h.mR.lt hk).1
  · exact (h.mT.lt hk).1
theorem two_nils {B m : Nat} {w1 w2 : World} {v : Value} {vs : List Value} {L : List (List Int)} (h : OwnM B w1 v vs L)
    (h2 : w2.ownsRow B 24 1 (.slice (some ⟨w1.heap.size, 0, none⟩) m m) m (madeCells (Value.slice none 0 0).cells (m * 1)).toList) (hg : w1.grownBy w2 none) :
    Two B w2 v vs (.slice (some ⟨w1.heap.size, 0, none⟩) m m) (List.replicate m nilS) L (List.replicate m []) := by
  rw [madeCells_nil] at h2
  refine ⟨h.carry hg, OwnM.nils h2, fun k hk hk' => ?_⟩
  have h3 := (h.lt hk).2
  rcases hk' with hk' | ⟨x, hx, hk'⟩
  · simp only [Hits, Value.ownBlock, Option.some.injEq] at hk'
    omega
  · rw [List.eq_of_mem_replicate hx] at hk'
    exact nil_hits hk'

/-- The first rows of a list of the call's own. -/
def Pre (B : Nat) (w : World) (v : Value) (L : List (List Int)) : Prop :=
  ∃ a m c c' vs R, v = .slice a L.length c' ∧ OwnM B w (.slice a m c) vs R ∧ L.length ≤ R.length ∧ L = R.take L.length
theorem Pre.read {B : Nat} {w : World} {v : Value} {L : List (List Int)} (h : Pre B w v L) : MatV w v L := by
  obtain ⟨a, m, c, c', vs, R, rfl, ho, hl, hL⟩ := h
  obtain ⟨va, vc, hve, hvi, hcap⟩ := own_form ho
  cases hve
  have h := ho.read.part 0 L.length c' hl a fun d hd _ => by
    subst hd
    rcases hvi with h | ⟨g, h⟩
    · cases h
    · cases h; exact ⟨_, rfl, rfl, rfl, rfl⟩
  rw [← hL] at h
  simpa using h
theorem Pre.carry {B : Nat} {w w' : World} {v : Value} {L : List (List Int)} (h : Pre B w v L) (hg : w.grownBy w' none) : Pre B w' v L := by
  obtain ⟨a, m, c, c', vs, R, h1, ho, h2, h3⟩ := h
  exact ⟨a, m, c, c', vs, R, h1, ho.carry hg, h2, h3⟩
theorem Pre.base {B B' : Nat} {w : World} {v : Value} {L : List (List Int)} (h : Pre B w v L) (hB : B' ≤ B) : Pre B' w v L := by
  obtain ⟨a, m, c, c', vs, R, h1, ho, h2, h3⟩ := h
  exact ⟨a, m, c, c', vs, R, h1, ho.base hB, h2, h3⟩

set_option maxRecDepth 100000 in
set_option maxHeartbeats 1000000 in
theorem reduced_own (p : Nat) [NeZero p] (u : Value) (L : List (List Int)) (n : Nat) (w : World) (hfld : fldN p = true) (hp2 : p ≤ 1000) (hv : MatV w u L) (hL : RowsOk p n L) (hm : L.length ≤ 1000) (hn : n ≤ 1000) :
    Calls Tryd.prog 126 #[.int .i64 p, u, .int .i64 n] w fun e w' => ∃ v c, e = .returned (.slice v (reducedL p n L).length c) ∧ Pre w.heap.size w' (.slice v (reducedL p n L).length c) (reducedL p n L) ∧ w.grownBy w' none := by
  have hsh : ∃ a c, u = .slice a L.length c := hv.shape
  have HCL := Lib.hid (clones_any u L w hv (by omega) (fun row hrow => by rw [(hL row hrow).1]; omega))
  obtain ⟨i0, hi, hz0, hz1, hz2⟩ := info_parts info_ints
  have HI := Lib.hid hi; have HZ0 := Lib.hid hz0; have HZ1 := Lib.hid hz1; have HZ2 := Lib.hid hz2
  have HUN := Lib.hid Tryd.underlying37
  have HBY := Lib.hid (show i0.bytes * L.length ≤ 281474976710656 by rw [hz2]; omega)
  have HBY2 := Lib.hid (show L.length ≤ maxLen by unfold maxLen; omega)
  have HL := Lib.hid hL; have HFLD := Lib.hid hfld
  clear hv hi hz0 hz1 hz2 hL
  generalize hlen : L.length = m at *
  have HLEN := Lib.hid hlen
  clear hlen
  have hfit : Fit p m n 0 L (List.replicate m []) := ⟨HLEN.out, List.length_replicate, HL.out, nils_ok p m⟩
  have HFIT := Lib.hid hfit
  obtain ⟨hfn, hrm⟩ := at_round hfld hfit (Nat.le_refl n)
  have hred : reducedL p n L = (redTo p L (List.replicate m []) n).R.take (redTo p L (List.replicate m []) n).r := reducedL_eq _ _ _ _
  have HRED := Lib.hid hred
  have hrl : (reducedL p n L).length = (redTo p L (List.replicate m []) n).r := by rw [hred, List.length_take, hfn.lR]; omega
  have HRL := Lib.hid hrl
  have HFN := Lib.hid hfn
  clear hred hrl hfit hfn hfld
  generalize hr : (redTo p L (List.replicate m []) n).r = r at *
  have HR := Lib.hid hr
  clear hr
  obtain ⟨ua, uc, rfl⟩ := hsh
  go_enter Tryd.func126, Tryd.ntmps126
  go_wp2_with (first
    | (go_at_call 118
       refine HCL.out.mono ?_
       rintro e w1 ⟨v, vs, rfl, hown, hg⟩
       have HO := Lib.hid hown; have HG := Lib.hid hg
       obtain ⟨va, vc, hve, hvi, hcap⟩ := own_form hown
       rw [HLEN.out] at hve hcap
       subst hve
       have hsz := hg.size
       clear hown hg)
    | (at_make
       refine wpList_make_full _ rfl _ _ 37 rfl w.heap.size 24 i0 (.slice none 0 0) 1 HUN.out HI.out HZ0.out HZ1.out .i64 .i64 (m : Int) (m : Int) m rfl rfl rfl rfl HBY.out HBY2.out hsz ?_
       intro w2 hown2 hgr2
       have HT2 := Lib.hid (two_nils HO.out hown2 hgr2)
       have HG2 := Lib.hid hgr2
       clear hown2 hgr2)
    | (go_at_call 120
       refine (reduction_any p _ _ _ _ L _ m n 0 w.heap.size _ HFLD.out HT2.out HFIT.out (by omega) (by omega) (by omega) hp2).mono ?_
       rintro e w3 ⟨rfl, vs', us', t, on⟩
       rw [HR.out]
       have HT3 := Lib.hid t; have HON := Lib.hid on
       clear t on))
  go_ret
  have hlen := HRL.out
  refine ⟨va, r, by rw [hlen]; rfl, ?_, grown_of_below ((Below.grown (Below.grown (Below.refl _ w) HG.out (Nat.le_refl _) (by simp)) HG2.out hsz (by simp)).trans (HON.out.below (Nat.le_trans hsz HG2.out.size) fun k hk => HT2.out.base hk))⟩
  exact ⟨va, m, vc, r, vs', (redTo p L (List.replicate m []) n).R, by rw [hlen], HT3.out.mR, by rw [HFN.out.lR, hlen]; exact hrm, by rw [hlen]; exact HRED.out⟩
theorem reduced_any (p : Nat) [NeZero p] (u : Value) (L : List (List Int)) (n : Nat) (w : World) (hfld : fldN p = true) (hp2 : p ≤ 1000) (hv : MatV w u L) (hL : RowsOk p n L) (hm : L.length ≤ 1000) (hn : n ≤ 1000) :
    Calls Tryd.prog 126 #[.int .i64 p, u, .int .i64 n] w fun e w' => ∃ v c, e = .returned (.slice v (reducedL p n L).length c) ∧ MatV w' (.slice v (reducedL p n L).length c) (reducedL p n L) ∧ w.grownBy w' none := by
  refine (reduced_own p u L n w hfld hp2 hv hL hm hn).mono ?_
  rintro e w' ⟨v, c, rfl, h, hg⟩
  exact ⟨v, c, rfl, h.read, hg⟩

theorem tail_eq {L : List (List Int)} {m r : Nat} (hl : L.length = m) : (L.take m).drop r = L.drop r := by rw [List.take_of_length_le (by omega)]
theorem tail_a {w : World} {a : Option Addr} {m c r : Nat} {L : List (List Int)} (h : MatV w (.slice a m c) L) (hl : L.length = m) (hr : r ≤ m) (c' : Nat) (hrm : m ≤ r) : MatV w (.slice a (m - r) c') (L.drop r) := by
  rw [← tail_eq hl]
  exact h.part r m c' (by omega) a fun d _ hlt => absurd hlt (by omega)
theorem tail_b {w : World} {a : Option Addr} {m c r : Nat} {L : List (List Int)} (h : MatV w (.slice a m c) L) (hl : L.length = m) (hr : r ≤ m) (ha : a = none ∨ ∃ g, a = some ⟨g, 0, none⟩) (c' : Nat) : MatV w (.slice (Option.map (fun x => x.add r) a) (m - r) c') (L.drop r) := by
  rw [← tail_eq hl]
  refine h.part r m c' (by omega) _ fun d hd _ => ?_
  subst hd
  rcases ha with ha | ⟨g, ha⟩
  · cases ha
  · cases ha
    refine ⟨_, rfl, ?_, ?_, ?_⟩ <;> (unfold Addr.add; split <;> first | rfl | (simp; omega))
theorem low_frame {w w1 w2 w3 : World} {v u : Value} {vs us : List Value} {R T : List (List Int)} (h1 : w.grownBy w1 none) (h2 : w1.grownBy w2 none) (t : Two w.heap.size w2 v vs u us R T) (on : Only (Feet v vs u us) w2 w3) : Below w.heap.size w w3 :=
  (Below.grown (Below.grown (Below.refl _ w) h1 (Nat.le_refl _) (by simp)) h2 h1.size (by simp)).trans (on.below (Nat.le_trans h1.size h2.size) fun k hk => t.base hk)
theorem two_ids {w w1 w2 : World} {v u : Value} {vs us : List Value} {R T : List (List Int)} (h : OwnM w.heap.size w1 v vs R) (hg : w.grownBy w1 none) (h2 : OwnM w1.heap.size w2 u us T) (hg2 : w1.grownBy w2 none) : Two w.heap.size w2 v vs u us R T := by
  refine ⟨h.carry hg2, h2.base hg.size, fun k hk hk' => ?_⟩
  have h3 := (h.lt hk).2
  have h4 := (h2.lt hk').1
  omega

set_option maxRecDepth 100000 in
set_option maxHeartbeats 1000000 in
theorem kernel_own (p : Nat) [NeZero p] (u : Value) (L : List (List Int)) (n : Nat) (w : World) (hfld : fldN p = true) (hp2 : p ≤ 1000) (hv : MatV w u L) (hL : RowsOk p n L) (hm : L.length ≤ 1000) (hn : n ≤ 1000) :
    Calls Tryd.prog 127 #[.int .i64 p, u, .int .i64 n] w fun e w' => ∃ v c, e = .returned (.slice v (kernelL p n L).length c) ∧ Pre w.heap.size w' (.slice v (kernelL p n L).length c) (kernelL p n L) ∧ w.grownBy w' none := by
  have hsh : ∃ a c, u = .slice a L.length c := hv.shape
  have HCL := Lib.hid (clones_any u L w hv (by omega) (fun row hrow => by rw [(hL row hrow).1]; omega))
  have HFLD := Lib.hid hfld
  have g := ge hfld hL rfl
  have hfit : Fit p L.length n L.length L (idL L.length) := ⟨rfl, idL_len _, hL, idL_ok (lt_p hfld)⟩
  have hkl : kernelL p n L = reducedL p L.length ((redTo p L (idL L.length) n).T.drop (redTo p L (idL L.length) n).r) := rfl
  have HKL := Lib.hid hkl
  have hrm := g.rm
  have hTl := Lib.hid g.lenT
  have hTo := Lib.hid (drop_ok (k := (redTo p L (idL L.length) n).r) g.okT)
  clear hv hL hfld g hkl
  generalize hlen : L.length = m at *
  have HLEN := Lib.hid hlen
  have HFIT := Lib.hid hfit
  clear hlen hfit
  generalize hS : redTo p L (idL m) n = s at *
  have HS := Lib.hid hS
  clear hS
  generalize hr : s.r = r at *
  have HR := Lib.hid hr
  clear hr
  obtain ⟨ua, uc, rfl⟩ := hsh
  go_enter Tryd.func127, Tryd.ntmps127
  go_wp2_with (first
    | (go_at_call 118
       refine HCL.out.mono ?_
       rintro e w1 ⟨v, vs, rfl, hown, hg⟩
       have HO := Lib.hid hown; have HG := Lib.hid hg
       obtain ⟨va, vc, hve, hvi, hcap⟩ := own_form hown
       rw [HLEN.out] at hve hcap
       subst hve
       have hsz := hg.size
       clear hown hg)
    | (go_at_call 119
       refine (identityRows_any m w1 (by omega)).mono ?_
       rintro e w2 ⟨v2, vs2, rfl, hown2, hg2⟩
       obtain ⟨va2, vc2, hve2, hvi2, hcap2⟩ := own_form hown2
       rw [idL_len] at hve2 hcap2
       subst hve2
       have HT2 := Lib.hid (two_ids HO.out HG.out hown2 hg2); have HG2 := Lib.hid hg2
       clear hown2 hg2)
    | (go_at_call 120
       refine (reduction_any p _ _ _ _ L _ m n m w.heap.size _ HFLD.out HT2.out HFIT.out (by omega) (by omega) (by omega) hp2).mono ?_
       rintro e w3 ⟨rfl, vs', us', t, on⟩
       rw [HS.out, HR.out]
       have hrd : MatV w3 (.slice va2 m vc2) s.T := by have := t.mT.read; rwa [HS.out] at this
       have HA := Lib.hid fun hle => reduced_own p _ (s.T.drop r) m w3 HFLD.out hp2 (tail_a (r := r) hrd hTl.out hrm 0 hle) hTo.out (by rw [List.length_drop, hTl.out]; omega) (by omega)
       have HB := Lib.hid fun c' => reduced_own p _ (s.T.drop r) m w3 HFLD.out hp2 (tail_b (r := r) hrd hTl.out hrm hvi2 c') hTo.out (by rw [List.length_drop, hTl.out]; omega) (by omega)
       have HT3 := Lib.hid (low_frame HG.out HG2.out HT2.out on)
       clear t on hrd)
    | (go_at_call 126
       first
         | (with_reducible refine (HA.out (by omega)).mono ?_
            rintro e w4 ⟨v4, c4, rfl, hv4, hg4⟩
            rw [← HKL.out] at hv4
            rw [← HKL.out]
            have HV4 := Lib.hid hv4; have HG4 := Lib.hid hg4
            clear hv4 hg4)
         | (with_reducible refine (HB.out _).mono ?_
            rintro e w4 ⟨v4, c4, rfl, hv4, hg4⟩
            rw [← HKL.out] at hv4
            rw [← HKL.out]
            have HV4 := Lib.hid hv4; have HG4 := Lib.hid hg4
            clear hv4 hg4)))
  all_goals
    go_ret
    exact ⟨v4, c4, rfl, HV4.out.base HT3.out.size, grown_of_below ((HT3.out).grown HG4.out HT3.out.size (by simp))⟩
theorem kernel_any (p : Nat) [NeZero p] (u : Value) (L : List (List Int)) (n : Nat) (w : World) (hfld : fldN p = true) (hp2 : p ≤ 1000) (hv : MatV w u L) (hL : RowsOk p n L) (hm : L.length ≤ 1000) (hn : n ≤ 1000) :
    Calls Tryd.prog 127 #[.int .i64 p, u, .int .i64 n] w fun e w' => ∃ v c, e = .returned (.slice v (kernelL p n L).length c) ∧ MatV w' (.slice v (kernelL p n L).length c) (kernelL p n L) ∧ w.grownBy w' none := by
  refine (kernel_own p u L n w hfld hp2 hv hL hm hn).mono ?_
  rintro e w' ⟨v, c, rfl, h, hg⟩
  exact ⟨v, c, rfl, h.read, hg⟩
end Go.Proofs.YtpeaeminjbjlnaaDoor

/-
  The reduction of a matrix. Conditions: lengths are small.
-/
namespace Go.Proofs.YtpeaeminjbjlnaaDoor
open Go.RowKit
set_option linter.unusedVariables false

theorem matB_parts {p : Nat} {cols : Int} {L : List (List Int)} (h : matB p cols L = true) : fldN p = true ∧ p ≤ 1000 ∧ ∃ n : Nat, cols = n ∧ n ≤ 24 ∧ L.length ≤ 24 ∧ RowsOk p n L := by
  unfold matB at h
  simp only [Bool.and_eq_true, decide_eq_true_eq] at h
  obtain ⟨h1, ⟨h2, h3⟩, h4, h5⟩ := h
  obtain ⟨n, rfl⟩ := Int.eq_ofNat_of_zero_le h2
  have h6 : fldN p = true := by rw [← fldB_nat]; exact h1
  exact ⟨h6, by have := (of_decide_eq_true h6).2.1; omega, n, rfl, by omega, h4, rowsB_ok.1 h5⟩

/-- three blocks laid one after another stay as long as only later ones are written -/
theorem blk3 (w : World) (o1 o2 o3 : Obj) {w' : World} (h : (((w.alloc o1).alloc o2).alloc o3).grownBy w' none) :
    w'.heap[w.heap.size]? = some o1 ∧ w'.heap[w.heap.size + 1]? = some o2 ∧ w'.heap[w.heap.size + 1 + 1]? = some o3 ∧ w.heap.size + 1 + 1 + 1 ≤ w'.heap.size := by
  have s1 : (w.alloc o1).heap.size = w.heap.size + 1 := by simp
  have s2 : ((w.alloc o1).alloc o2).heap.size = w.heap.size + 1 + 1 := by simp
  have s3 : (((w.alloc o1).alloc o2).alloc o3).heap.size = w.heap.size + 1 + 1 + 1 := by simp
  have e1 := alloc_heap_new w o1
  have e2 := alloc_heap_new (w.alloc o1) o2
  have e3 := alloc_heap_new ((w.alloc o1).alloc o2) o3
  have f1 := alloc_heap_old (w.alloc o1) o2 w.heap.size (by omega)
  have f2 := alloc_heap_old ((w.alloc o1).alloc o2) o3 w.heap.size (by omega)
  have f3 := alloc_heap_old ((w.alloc o1).alloc o2) o3 (w.heap.size + 1) (by omega)
  rw [s1] at e2
  rw [s2] at e3
  refine ⟨?_, ?_, ?_, by rw [← s3]; exact h.size⟩
  · rw [h.block _ (by omega) (by simp), f2, f1, e1]
  · rw [h.block _ (by omega) (by simp), f3, e2]
  · rw [h.block _ (by omega) (by simp), e3]
theorem cell_blk {w : World} {b : Nat} {cs : Array Value} {t : TypeId} {fr : Nat × Nat} (h : w.heap[b]? = some (.cells cs t fr)) (j : Nat) : w.cell? ⟨b, j, none⟩ = cs[j]? := by
  simp [World.cell?, h]
theorem free_blk {w : World} {b : Nat} {cs : Array Value} {t : TypeId} (h : w.heap[b]? = some (.cells cs t (0, 0))) (j : Nat) : w.frozen? ⟨b, j, none⟩ = false := by
  simp [World.frozen?, h]

theorem two_set {w : World} (b c : Nat) (x y z t : Value) : Only (fun k => k = b ∨ k = c) w ((((w.setCell ⟨b, 0, none⟩ x).setCell ⟨b, 1, none⟩ y).setCell ⟨c, 0, none⟩ z).setCell ⟨c, 1, none⟩ t) :=
  ⟨rfl, rfl, rfl, by simp [World.setCell], fun k _ hn => by
    rw [Below.heap_setCell _ _ _ _ (fun h => hn (Or.inr h)), Below.heap_setCell _ _ _ _ (fun h => hn (Or.inr h)), Below.heap_setCell _ _ _ _ (fun h => hn (Or.inl h)), Below.heap_setCell _ _ _ _ (fun h => hn (Or.inl h))]⟩

set_option maxRecDepth 100000 in
set_option maxHeartbeats 1000000 in
theorem rowReduce_any (p : Nat) [NeZero p] (cols : Int) (u : Value) (L : List (List Int)) (w : World) (ht : Tab w) (hv : MatV w u L) (hl : L.length ≤ 1000000) (hll : ∀ row ∈ L, row.length ≤ 1000000) (hb : matB p cols L = true) :
    Calls Tryd.prog 26 #[.int .i64 p, mxV cols u] w fun e w' => ∃ v1 v2, e = .returned (.tuple #[mxV cols v1, mxV L.length v2, .bool true]) ∧ MatV w' v1 (redTo p L (idL L.length) cols.toNat).R ∧ MatV w' v2 (redTo p L (idL L.length) cols.toNat).T ∧ w.grownBy w' none := by
  obtain ⟨hfld, hp2, n, rfl, hn, hm, hL⟩ := matB_parts hb
  rw [Int.toNat_natCast]
  have hsh := hv.shape
  have HIS := Lib.hid fun w1 (hg : w.grownBy w1 none) => isMatrix_any p n u L w1 (ht.grown hg) (hv.carry hg) hl hll
  rw [hb] at HIS
  have HCL := Lib.hid fun w1 (hg : w.grownBy w1 none) => clones_any u L w1 (hv.carry hg) (by omega) (fun row hrow => by rw [(hL row hrow).1]; omega)
  unfold mxV at *
  obtain ⟨ua, uc, rfl⟩ := hsh
  clear hv ht hb hll
  go_enter Tryd.func26, Tryd.ntmps26
  go_wp2_with (first
    | (go_at_call 117
       with_reducible refine (HIS.out _ ?_).mono ?_
       · exact ((grownBy_alloc _ _ none).trans (grownBy_alloc _ _ none)).trans (grownBy_alloc _ _ none)
       rintro e w1 ⟨rfl, hg1⟩
       have HG1 := Lib.hid hg1
       clear hg1))
  have HBL := Lib.hid (blk3 w _ _ _ HG1.out)
  have HW1 := Lib.hid (grown_of_below (Below.grown ((((Below.refl _ w).alloc (Nat.le_refl _) _).alloc (by simp) _).alloc (by simp; omega) _) HG1.out (by simp; omega) (by simp)))
  have c1 : w1.cell? ⟨w.heap.size, 1, none⟩ = some (.slice ua L.length uc) := cell_blk HBL.out.1 1
  clear HG1
  have HWD := Lib.hid (show w.grownBy w1.drew none from ⟨HW1.out.os, HW1.out.tape, HW1.out.output, HW1.out.size, HW1.out.block⟩)
  generalize hbe : w.heap.size = b at *
  have HBE := Lib.hid hbe
  clear hbe
  go_region_held3 (fun w' => w'.cell? ⟨b, 1, none⟩ = some (.slice ua L.length uc)) (first | exact c1 | exact c2 | exact c3)
    (first
      | (go_at_call 118
         refine (HCL.out _ HWD.out).mono ?_
         rintro e w2 ⟨v, vs, rfl, hown, hg⟩
         have c2 : w2.cell? ⟨b, 1, none⟩ = some (.slice ua L.length uc) := (World.cell?_of_block (w := w1.drew) (a := ⟨b, 1, none⟩) (hg.block b (Nat.lt_of_lt_of_le (by omega) HBL.out.2.2.2) (by simp))).trans c1
         have HO := Lib.hid hown; have HG := Lib.hid hg
         clear hown hg)
      | (go_at_call 119
         refine (identityRows_any L.length _ (by omega)).mono ?_
         rintro e w3 ⟨v2, vs2, rfl, hown2, hg2⟩
         have c3 : w3.cell? ⟨b, 1, none⟩ = some (.slice ua L.length uc) := (World.cell?_of_block (w := w2) (a := ⟨b, 1, none⟩) (hg2.block b (Nat.lt_of_lt_of_le (Nat.lt_of_lt_of_le (by omega) HBL.out.2.2.2) HG.out.size) (by simp))).trans c2
         have HO2 := Lib.hid hown2; have HG2 := Lib.hid hg2
         clear hown2 hg2))
  obtain ⟨va, vc, hve, hvi, hcap⟩ := own_form HO.out
  obtain ⟨va2, vc2, hve2, hvi2, hcap2⟩ := own_form HO2.out
  rw [idL_len] at hve2
  subst hve hve2
  have HTW := Lib.hid (two_ids HO.out HG.out HO2.out HG2.out)
  have HFIT := Lib.hid (show Fit p L.length n L.length L (idL L.length) from ⟨rfl, idL_len _, hL, idL_ok (lt_p hfld)⟩)
  have hbel3 : Below w1.heap.size w1 w3 := Below.grown (Below.grown (show Below w1.heap.size w1 w1.drew from ⟨rfl, rfl, rfl, Nat.le_refl _, fun _ _ => rfl⟩) HG.out (Nat.le_refl _) (by simp)) HG2.out HG.out.size (by simp)
  have HB3 := Lib.hid hbel3
  have bl : ∀ w', Below w1.heap.size w1 w' → w'.heap[b]? = w1.heap[b]? ∧ w'.heap[b + 1]? = w1.heap[b + 1]? ∧ w'.heap[b + 1 + 1]? = w1.heap[b + 1 + 1]? := by
    intro w' h
    have := HBL.out.2.2.2
    exact ⟨h.block _ (by omega), h.block _ (by omega), h.block _ (by omega)⟩
  have BL := Lib.hid bl
  have c0 : w3.cell? ⟨b, 0, none⟩ = some (.int .i64 n) := cell_blk ((bl _ hbel3).1.trans HBL.out.1) 0
  clear c1 c2 c3 bl hbel3 hvi hvi2 hcap hcap2
  go_wp2_with (
    go_at_call 120
    refine (reduction_any p _ _ _ _ L _ L.length n L.length _ _ hfld HTW.out HFIT.out (by omega) (by omega) (by omega) hp2).mono ?_
    rintro e w4 ⟨rfl, vs', us', t, on⟩
    have HB4 := HB3.out.trans (on.below HB3.out.size fun k hk => HTW.out.base hk)
    have d1 := (BL.out _ HB4).1.trans HBL.out.1
    have d2 := (BL.out _ HB4).2.1.trans HBL.out.2.1
    have d3 := (BL.out _ HB4).2.2.trans HBL.out.2.2.1
    have HB4 := Lib.hid HB4
    have c0 := cell_blk d1 0
    have c20 := cell_blk d2 0
    have c21 := cell_blk d2 1
    have c30 := cell_blk d3 0
    have c31 := cell_blk d3 1
    have f20 := free_blk d2 0
    have f21 := free_blk d2 1
    have f30 := free_blk d3 0
    have f31 := free_blk d3 1
    have D2 := Lib.hid d2; have D3 := Lib.hid d3
    have HT4 := Lib.hid t
    simp only [List.getElem?_toArray, List.getElem?_cons_zero, List.getElem?_cons_succ] at c0 c20 c21 c30 c31
    clear t on d1 d2 d3)
  refine bodyPost_ret_by (v := .tuple #[.agg #[.int .i64 n, .slice va L.length vc], .agg #[.int .i64 L.length, .slice va2 L.length vc2], .bool true]) ?_ rfl ?_
  · simp [results, go_sem, *]
  · have o5 := two_set (w := w4) (b + 1) (b + 1 + 1) (.int .i64 n) (.slice va L.length vc) (.int .i64 L.length) (.slice va2 L.length vc2)
    have hsz := HBL.out.2.2.2
    have hne : ∀ k, w1.heap.size ≤ k → ¬ (k = b + 1 ∨ k = b + 1 + 1) := fun k hk => by omega
    refine ⟨_, _, rfl, (HT4.out.mR.only o5 fun k hk => hne k (HT4.out.mR.lt hk).1).read, (HT4.out.mT.only o5 fun k hk => hne k (HT4.out.mT.lt hk).1).read, ?_⟩
    refine grown_of_below ?_
    have h1 := (Below.grown (Below.refl _ w) HW1.out (Nat.le_refl _) (by simp)).trans (HB4.out.mono HW1.out.size)
    exact h1.trans (o5.below h1.size fun k hk => by rw [HBE.out]; omega)

end Go.Proofs.YtpeaeminjbjlnaaDoor

/-
  Ranks, kernels, identities, and what is no matrix. Conditions: lengths are small.
-/
namespace Go.Proofs.YtpeaeminjbjlnaaDoor
open Go.RowKit
set_option linter.unusedVariables false

set_option maxRecDepth 100000 in
set_option maxHeartbeats 1000000 in
theorem rowReduce_no (p : Int) (cols : Int) (u : Value) (L : List (List Int)) (w : World) (ht : Tab w) (hv : MatV w u L) (hl : L.length ≤ 1000000) (hll : ∀ row ∈ L, row.length ≤ 1000000) (hb : matB p cols L = false) :
    Calls Tryd.prog 26 #[.int .i64 p, mxV cols u] w fun e w' => e = .returned (.tuple #[mxV 0 nilS, mxV 0 nilS, .bool false]) ∧ w.grownBy w' none := by
  have hsh := hv.shape
  have HIS := Lib.hid fun w1 (hg : w.grownBy w1 none) => isMatrix_any p cols u L w1 (ht.grown hg) (hv.carry hg) hl hll
  rw [hb] at HIS
  unfold mxV at *
  unfold nilS
  obtain ⟨ua, uc, rfl⟩ := hsh
  clear hv ht hb hll
  go_enter Tryd.func26, Tryd.ntmps26
  go_wp2_with (first
    | (go_at_call 117
       with_reducible refine (HIS.out _ ?_).mono ?_
       · exact ((grownBy_alloc _ _ none).trans (grownBy_alloc _ _ none)).trans (grownBy_alloc _ _ none)
       rintro e w1 ⟨rfl, hg1⟩
       have hbl := blk3 w _ _ _ hg1
       have HW1 := Lib.hid (grown_of_below (Below.grown ((((Below.refl _ w).alloc (Nat.le_refl _) _).alloc (by simp) _).alloc (by simp; omega) _) hg1 (by simp; omega) (by simp)))
       have c20 := cell_blk hbl.2.1 0
       have c21 := cell_blk hbl.2.1 1
       have c30 := cell_blk hbl.2.2.1 0
       have c31 := cell_blk hbl.2.2.1 1
       have f20 := free_blk hbl.2.1 0
       have f21 := free_blk hbl.2.1 1
       have f30 := free_blk hbl.2.2.1 0
       have f31 := free_blk hbl.2.2.1 1
       simp only [List.getElem?_toArray, List.getElem?_cons_zero, List.getElem?_cons_succ] at c20 c21 c30 c31
       clear hg1 hbl))
  refine bodyPost_ret_by (v := .tuple #[.agg #[.int .i64 0, .slice none 0 0], .agg #[.int .i64 0, .slice none 0 0], .bool false]) ?_ rfl ?_
  · simp [results, go_sem, *]
  · refine ⟨rfl, grown_of_below ?_⟩
    have h1 := Below.grown (Below.refl _ w) HW1.out (Nat.le_refl _) (by simp)
    exact h1.trans ((two_set _ _ _ _ _ _).below h1.size fun k hk => by omega)

theorem box1 (w : World) (cs : Array Value) (t : TypeId) {w' : World} (h : (w.alloc (.cells cs t)).grownBy w' none) : w'.heap[w.heap.size]? = some (.cells cs t (0, 0)) ∧ w.grownBy w' none :=
  ⟨(h.block _ (by simp) (by simp)).trans (alloc_heap_new w _), grown_of_below (Below.grown ((Below.refl _ w).alloc (Nat.le_refl _) _) h (by simp) (by simp))⟩

set_option maxRecDepth 100000 in
set_option maxHeartbeats 1000000 in
theorem rankOf_any (p : Nat) [NeZero p] (cols : Int) (u : Value) (L : List (List Int)) (w : World) (ht : Tab w) (hv : MatV w u L) (hl : L.length ≤ 1000000) (hll : ∀ row ∈ L, row.length ≤ 1000000) (hb : matB p cols L = true) :
    Calls Tryd.prog 32 #[.int .i64 p, mxV cols u] w fun e w' => e = .returned (.tuple #[.int .i64 (rankL p cols.toNat L), .bool true]) ∧ w.grownBy w' none := by
  obtain ⟨hfld, hp2, n, rfl, hn, hm, hL⟩ := matB_parts hb
  rw [Int.toNat_natCast]
  have hsh := hv.shape
  have HIS := Lib.hid fun w1 (hg : w.grownBy w1 none) => isMatrix_any p n u L w1 (ht.grown hg) (hv.carry hg) hl hll
  rw [hb] at HIS
  have HRD := Lib.hid fun w1 (hg : w.grownBy w1 none) => reduced_any p u L n w1 hfld hp2 (hv.carry hg) hL (by omega) (by omega)
  have hrl := reducedL_len hfld hL
  rw [hrl] at HRD
  unfold mxV at *
  obtain ⟨ua, uc, rfl⟩ := hsh
  clear hv ht hb hll
  go_enter Tryd.func32, Tryd.ntmps32
  go_wp2_with (first
    | (go_at_call 117
       with_reducible refine (HIS.out _ ?_).mono ?_
       · exact grownBy_alloc _ _ none
       rintro e w1 ⟨rfl, hg1⟩
       obtain ⟨hbl, hgw⟩ := box1 w _ _ hg1
       have HW1 := Lib.hid hgw
       have c0 := cell_blk hbl 0
       have c1 := cell_blk hbl 1
       simp only [List.getElem?_toArray, List.getElem?_cons_zero, List.getElem?_cons_succ] at c0 c1
       clear hg1 hbl hgw)
    | (go_at_call 126
       with_reducible refine (HRD.out _ HW1.out).mono ?_
       rintro e w2 ⟨v2, c2, rfl, hm2, hg2⟩
       have HW2 := Lib.hid (HW1.out.trans hg2)
       clear hm2 hg2))
  go_ret2
  exact ⟨rfl, HW2.out⟩

set_option maxRecDepth 100000 in
set_option maxHeartbeats 1000000 in
theorem kernelOf_any (p : Nat) [NeZero p] (cols : Int) (u : Value) (L : List (List Int)) (w : World) (ht : Tab w) (hv : MatV w u L) (hl : L.length ≤ 1000000) (hll : ∀ row ∈ L, row.length ≤ 1000000) (hb : matB p cols L = true) :
    Calls Tryd.prog 33 #[.int .i64 p, mxV cols u] w fun e w' => ∃ v c, e = .returned (.tuple #[.slice v (kernelL p cols.toNat L).length c, .bool true]) ∧ MatV w' (.slice v (kernelL p cols.toNat L).length c) (kernelL p cols.toNat L) ∧ w.grownBy w' none := by
  obtain ⟨hfld, hp2, n, rfl, hn, hm, hL⟩ := matB_parts hb
  rw [Int.toNat_natCast]
  have hsh := hv.shape
  have HIS := Lib.hid fun w1 (hg : w.grownBy w1 none) => isMatrix_any p n u L w1 (ht.grown hg) (hv.carry hg) hl hll
  rw [hb] at HIS
  have HRD := Lib.hid fun w1 (hg : w.grownBy w1 none) => kernel_any p u L n w1 hfld hp2 (hv.carry hg) hL (by omega) (by omega)
  generalize kernelL p n L = K at *
  generalize K.length = kl at *
  unfold mxV at *
  obtain ⟨ua, uc, rfl⟩ := hsh
  clear hv ht hb hll
  go_enter Tryd.func33, Tryd.ntmps33
  go_wp2_with (first
    | (go_at_call 117
       with_reducible refine (HIS.out _ ?_).mono ?_
       · exact grownBy_alloc _ _ none
       rintro e w1 ⟨rfl, hg1⟩
       obtain ⟨hbl, hgw⟩ := box1 w _ _ hg1
       have HW1 := Lib.hid hgw
       have c0 := cell_blk hbl 0
       have c1 := cell_blk hbl 1
       simp only [List.getElem?_toArray, List.getElem?_cons_zero, List.getElem?_cons_succ] at c0 c1
       clear hg1 hbl hgw)
    | (go_at_call 127
       with_reducible refine (HRD.out _ HW1.out).mono ?_
       rintro e w2 ⟨v2, c2, rfl, hm2, hg2⟩
       have HW2 := Lib.hid (HW1.out.trans hg2)
       have HM2 := Lib.hid hm2
       clear hm2 hg2))
  go_ret2
  exact ⟨v2, c2, rfl, HM2.out, HW2.out⟩

end Go.Proofs.YtpeaeminjbjlnaaDoor

/-
  Identities, combinations, products, inverses. Conditions: lengths are small.
-/
namespace Go.Proofs.YtpeaeminjbjlnaaDoor
open Go.RowKit
set_option linter.unusedVariables false

def combTo (p : Int) (x : List Int) (L : List (List Int)) (n : Nat) : Nat → List Int
  | 0 => List.replicate n 0
  | k + 1 => addT p (combTo p x L n k) (x.getD k 0) (L.getD k [])
theorem combTo_ok {p n : Nat} [NeZero p] {x : List Int} {L : List (List Int)} (hp : 1 < p) (hL : RowsOk p n L) : ∀ k, k ≤ L.length → VecOk p n (combTo p x L n k) := by
  intro k
  induction k with
  | zero =>
    intro _
    refine ⟨by simp [combTo], fun z hz => ?_⟩
    have := List.eq_of_mem_replicate hz
    omega
  | succ k ih =>
    intro hk
    exact addT_ok _ (ih (by omega)).1 (hL _ (getD_mem (show k < L.length by omega))).1

set_option maxRecDepth 100000 in
set_option maxHeartbeats 1000000 in
theorem combine_any (p : Nat) [NeZero p] (u v : Value) (x : List Int) (L : List (List Int)) (n : Nat) (w : World) (hp : 1 < p) (hp2 : p ≤ 1000) (hu : IntsV w u x) (hv : MatV w v L) (hxl : x.length = L.length) (hx : ∀ z ∈ x, 0 ≤ z ∧ z < p) (hL : RowsOk p n L) (hm : L.length ≤ 1000) (hn : n ≤ 1000) :
    Calls Tryd.prog 170 #[.int .i64 p, u, v, .int .i64 n] w fun e w' => ∃ o, e = .returned o ∧ OwnInts w.heap.size w' o (combTo p x L n L.length) ∧ w.grownBy w' none := by
  have HU := Lib.hid hu; have HV := Lib.hid hv; have HX := Lib.hid hx; have HL := Lib.hid hL
  have HOK := Lib.hid (combTo_ok (x := x) hp hL)
  obtain ⟨ua, uc, rfl, hui⟩ := hu
  obtain ⟨va, vc, rfl⟩ := hv.shape
  clear hv hx hL hui
  have HXL := Lib.hid hxl
  rw [hxl]
  clear hxl
  generalize hlen : L.length = m at *
  have HLEN := Lib.hid hlen
  clear hlen
  go_enter Tryd.func170, Tryd.ntmps170
  go_wp2_with (
    go_at_call 243
    refine (zeros_any n w (by omega)).mono ?_
    rintro e w1 ⟨o, rfl, ho, hg⟩
    obtain ⟨oa, oc, hoe⟩ := own_shape ho
    rw [List.length_replicate] at hoe
    subst hoe
    have HO1 := Lib.hid ho; have HG1 := Lib.hid hg
    clear ho hg)
  go_loopw [16] (fun i wr => ∃ k : Nat, k ≤ m ∧ i = .int .i64 k ∧ OwnInts w.heap.size wr (.slice oa n oc) (combTo p x L n k) ∧ Below w.heap.size w wr) (fun i _ => m - (intOf i).toNat)
  case atStart => exact ⟨0, by omega, rfl, HO1.out, Below.grown (Below.refl _ w) HG1.out (Nat.le_refl _) (by simp)⟩
  case round =>
    obtain ⟨k, hk, rfl, ho, hb⟩ := hrel
    have HO := Lib.hid ho; have HB := Lib.hid hb
    clear ho hb
    by_cases hlt : k < m
    · have hkl : k < L.length := by rw [HLEN.out]; exact hlt
      obtain ⟨d, r, c, rfl, hs, hd, hcell, hrow⟩ := HV.out.row hkl
      have hcell2 := (HB.out.cell (p := ⟨d.block, d.off + k, none⟩) hd).trans hcell
      clear hcell
      obtain ⟨db, dof, _⟩ := d
      simp only at hs hcell2
      subst hs
      have hkx : k < x.length := by rw [HXL.out]; exact hlt
      obtain ⟨xd, rfl, hs, hxd, hxc⟩ := HU.out.at hkx
      have hxc := (HB.out.cell (p := ⟨xd.block, xd.off + k, none⟩) hxd).trans hxc
      obtain ⟨xb, xof, _⟩ := xd
      simp only at hs hxc
      subst hs
      have hrok := HL.out _ (List.getElem_mem hkl)
      rw [hrok.1] at hcell2 hrow
      have hxz := HX.out _ (List.getElem_mem hkx)
      have hnext : combTo p x L n (k + 1) = addT p (combTo p x L n k) x[k] L[k] := by
        show addT p (combTo p x L n k) (x.getD k 0) (L.getD k []) = _
        rw [getD_lt hkx, getD_row hkl]
      have HN := Lib.hid hnext
      have hcok := HOK.out k hk
      have A := Lib.hid (addTimes_any p x[k] _ _ _ _ w.heap.size wr HO.out (hrow.carry (grown_of_below HB.out)) (fun hne q h1 h2 => by
        have h3 := (HO.out.lt q h1).1
        obtain ⟨d', hd', _, hlt', _⟩ : ∃ d' : Addr, r = some d' ∧ d'.spot = none ∧ d'.block < w.heap.size ∧ True := by
          obtain ⟨a', c', he, hi⟩ := hrow
          cases he
          have hne' : L[k] ≠ [] := by
            intro h
            exact hne (List.eq_nil_of_length_eq_zero (hcok.1.trans (by rw [h]; rfl)))
          obtain ⟨d', h4, h5, h6, _⟩ := hi hne'
          exact ⟨d', h4, h5, h6, trivial⟩
        subst hd'
        simp only [Value.blk', Option.some.injEq] at h2
        omega) (by rw [hcok.1, hrok.1]) (by rw [hcok.1]; omega) (by omega) (by omega) (by omega) (by omega) (fun z hz => by have := hcok.2 z hz; omega) (fun z hz => by have := hrok.2 z hz; omega))
      clear hnext hcok hrow hrok
      generalize x[k] = xk at *
      go_wp2_with (
        go_at_call 244
        with_reducible refine A.out.mono ?_
        rintro e w2 ⟨rfl, h1, h2⟩
        have H1 := Lib.hid h1; have H2 := Lib.hid h2
        clear h1 h2)
      go_roundw
      case rel => exact ⟨k + 1, by omega, by go_num, by rw [HN.out]; exact H1.out, HB.out.trans (H2.out.below HB.out.size fun q hq => (HO.out.lt q hq).1)⟩
      case measure => simp [intOf]; omega
    · have hkm : k = m := by omega
      subst hkm
      go_wp2
      go_ret
      exact ⟨_, rfl, HO.out, grown_of_below HB.out⟩

end Go.Proofs.YtpeaeminjbjlnaaDoor

/-
  Products of matrices. Conditions: lengths are small.
-/
namespace Go.Proofs.YtpeaeminjbjlnaaDoor
open Go.RowKit
set_option linter.unusedVariables false

/-- 'out = append(out, row)' as an operation of a region. -/
theorem step_app_row {ops : Array Oper} {o : Oper} {a : Act} {K : Act → World → Prop} {Q : Exit → Act → World → Prop} {E : Prop} (hgd : o.guard = none) (s x : Operand)
    (ho : o.op = .call { callee := .builtin .append, args := #[s, x], argTypes := #[37, 37] })
    {B : Nat} {w : World} {v u : Value} {vs : List Value} {L : List (List Int)} {zs : List Int} (hs : a.eval s = v) (hx : a.eval x = .slice (some ⟨w.heap.size, 0, none⟩) 1 1)
    (hown : OwnM B w v vs L) (hu : OwnInts B w u zs) (hua : ∀ i, Apart (vs.getD i nilS) u) (hB : B ≤ w.heap.size) (hl : L.length ≤ 1000000)
    (h : ∀ g cap w', OwnM B w' (.slice (some ⟨g, 0, none⟩) (L.length + 1) cap) (vs ++ [u]) (L ++ [zs]) → Only (Hits v) w w' → K (a.put o.dst (.slice (some ⟨g, 0, none⟩) (L.length + 1) cap)) w') :
    if Region.wanted o (yielded ops a.tmps) = true then Oper.wp Tryd.prog o a (w.alloc (.cells #[u] 24)) K Q else E := by
  obtain ⟨i0, hi, hz0, hz1, hz2⟩ := info_parts info_ints
  have hlen := hown.len
  have hgr := grownBy_alloc w (.cells #[u] 24) none
  have hown1 := hown.carry hgr
  have hu1 : OwnInts B (w.alloc (.cells #[u] 24)) u zs := hu.alloc _
  refine step_append_lies _ hgd s x 37 ho B 24 i0 (.slice none 0 0) 1 24 Tryd.underlying37 hi hz0 hz1 hz2 rfl (by decide) v vs.length vs hs hown1.out
    ⟨w.heap.size, 0, none⟩ 1 1 [u] hx rfl ?_ ?_ (by decide) (by unfold maxLen; omega) (by omega) (by simp; omega) _ rfl ?_
  · intro j u' hj
    match j, hj with
    | 0, hj =>
      simp at hj
      subst hj
      simp only [Addr.add, if_true, World.cell?]
      rw [alloc_heap_new]
      rfl
    | j + 1, hj => simp at hj
  · intro u' hu'
    simp at hu'
    subst hu'
    exact ints_one hu
  · intro g cap w1 hown' hgrow _ _
    have hon : Only (Hits v) (w.alloc (.cells #[u] 24)) w1 := Only.of_grown hgrow fun k hk => hk
    rw [hlen] at hown' ⊢
    refine h g cap w1 (OwnM.join hlen (fun i => (hown1.row i).only hon fun k hk hk' => ?_) hown.ap (hu1.only hon fun k hk hk' => ?_) hua (by simpa [hlen] using hown')) ?_
    · exact apart_types hown1.out (hown1.row i) (by decide) k hk' hk
    · exact apart_types hown1.out hu1 (by decide) k hk' hk
    · exact (Only.of_grown (S := Hits v) hgr (by simp)).trans hon

/-- the variables of times, laid one after another -/
theorem times_start (w : World) (c1 c2 : Array Value) (n : Int) :
    let w0 := ((((w.alloc (.cells c1 39)).alloc (.cells c2 39)).alloc (.cells #[.int .i64 0, .slice none 0 0] 39)).alloc (.cells #[] 24)).alloc (.cells #[.int .i64 n, .slice (some ⟨w.heap.size + 1 + 1 + 1, 0, none⟩) 0 0] 39)
    w0.heap[w.heap.size]? = some (.cells c1 39 (0, 0)) ∧ w0.heap[w.heap.size + 1]? = some (.cells c2 39 (0, 0)) ∧ w0.heap[w.heap.size + 1 + 1]? = some (.cells #[.int .i64 0, .slice none 0 0] 39 (0, 0)) ∧
    w0.heap[w.heap.size + 1 + 1 + 1 + 1]? = some (.cells #[.int .i64 n, .slice (some ⟨w.heap.size + 1 + 1 + 1, 0, none⟩) 0 0] 39 (0, 0)) ∧
    OwnM (w.heap.size + 1 + 1 + 1) w0 (.slice (some ⟨w.heap.size + 1 + 1 + 1, 0, none⟩) 0 0) [] [] ∧ w.grownBy w0 none ∧ w0.heap.size = w.heap.size + 1 + 1 + 1 + 1 + 1 := by
  have hb := blk3 w (.cells c1 39) (.cells c2 39) (.cells #[.int .i64 0, .slice none 0 0] 39) (grownBy_refl _ none)
  have hg : w.grownBy (((w.alloc (.cells c1 39)).alloc (.cells c2 39)).alloc (.cells #[.int .i64 0, .slice none 0 0] 39)) none :=
    ((grownBy_alloc _ _ none).trans (grownBy_alloc _ _ none)).trans (grownBy_alloc _ _ none)
  have hs : (((w.alloc (.cells c1 39)).alloc (.cells c2 39)).alloc (.cells #[.int .i64 0, .slice none 0 0] 39)).heap.size = w.heap.size + 1 + 1 + 1 := by simp
  intro w0
  have hw0 : w0 = ((((w.alloc (.cells c1 39)).alloc (.cells c2 39)).alloc (.cells #[.int .i64 0, .slice none 0 0] 39)).alloc (.cells #[] 24)).alloc (.cells #[.int .i64 n, .slice (some ⟨w.heap.size + 1 + 1 + 1, 0, none⟩) 0 0] 39) := rfl
  clear_value w0
  generalize ((w.alloc (.cells c1 39)).alloc (.cells c2 39)).alloc (.cells #[.int .i64 0, .slice none 0 0] 39) = w3 at *
  subst hw0
  have hm := World.ownsRow_made (e := 24) (base := w.heap.size + 1 + 1 + 1) (size := 1) w3 #[] 0 (by omega) (by unfold maxLen; omega) rfl
  rw [hs] at hm
  have ho := (OwnM.start hm).carry (grownBy_alloc _ (.cells #[.int .i64 n, .slice (some ⟨w.heap.size + 1 + 1 + 1, 0, none⟩) 0 0] 39) none)
  have s4 : (w3.alloc (.cells #[] 24)).heap.size = w.heap.size + 1 + 1 + 1 + 1 := by rw [← hs]; simp
  have e4 := alloc_heap_new (w3.alloc (.cells #[] 24)) (.cells #[.int .i64 n, .slice (some ⟨w.heap.size + 1 + 1 + 1, 0, none⟩) 0 0] 39)
  rw [s4] at e4
  have g5 := World.grownBy.trans (grownBy_alloc w3 (.cells #[] 24) none) (grownBy_alloc (w3.alloc (.cells #[] 24)) (.cells #[.int .i64 n, .slice (some ⟨w.heap.size + 1 + 1 + 1, 0, none⟩) 0 0] 39) none)
  refine ⟨(g5.block _ (by omega) (by simp)).trans hb.1, (g5.block _ (by omega) (by simp)).trans hb.2.1, (g5.block _ (by omega) (by simp)).trans hb.2.2.1, e4, ho, hg.trans g5, ?_⟩
  rw [← s4]
  simp

theorem one_set {w : World} (b : Nat) (x y : Value) : Only (fun k => k = b) w ((w.setCell ⟨b, 0, none⟩ x).setCell ⟨b, 1, none⟩ y) :=
  ⟨rfl, rfl, rfl, by simp [World.setCell], fun k _ hn => by
    rw [Below.heap_setCell _ _ _ _ hn, Below.heap_setCell _ _ _ _ hn]⟩
theorem lt_of_blk {w : World} {b : Nat} {o : Obj} (h : w.heap[b]? = some o) : b < w.heap.size := by
  rcases Nat.lt_or_ge b w.heap.size with h' | h'
  · exact h'
  · rw [Array.getElem?_eq_none h'] at h; cases h
theorem cell_alloc {w : World} {a : Addr} {u : Value} (h : w.cell? a = some u) (o : Obj) : (w.alloc o).cell? a = some u :=
  (World.cell?_of_block (w := w) (alloc_heap_old w o a.block (World.block_lt_of_cell? w a h))).trans h
theorem alloc3 {w : World} {a b c : Addr} {x y z : Value} {o : Obj} (h : w.cell? a = some x ∧ w.cell? b = some y ∧ w.cell? c = some z) : (w.alloc o).cell? a = some x ∧ (w.alloc o).cell? b = some y ∧ (w.alloc o).cell? c = some z :=
  ⟨cell_alloc h.1 o, cell_alloc h.2.1 o, cell_alloc h.2.2 o⟩
theorem times_keep1 {B b : Nat} {cs : Array Value} {w2 w3 : World} {v : Value} {vs : List Value} {T : List (List Int)} (e2 : w2.heap[b]? = some (.cells cs 39 (0, 0)))
    (ho : OwnM B w2 v vs T) (hon : Only (Hits v) w2 w3) : w3.heap[b]? = some (.cells cs 39 (0, 0)) := by
  refine (hon.block b (lt_of_blk e2) fun hh => ?_).trans e2
  obtain ⟨cur, hc⟩ := own_block ho.out hh
  rw [e2] at hc
  simp at hc
theorem foot_ne {B b : Nat} {w : World} {cs : Array Value} {v : Value} {vs : List Value} {T : List (List Int)} (h : w.heap[b]? = some (.cells cs 39 (0, 0))) (ho : OwnM B w v vs T) : ¬ Foot v vs b := by
  rintro (hh | ⟨x, hx, hh⟩)
  · obtain ⟨cur, hc⟩ := own_block ho.out hh
    rw [h] at hc
    simp at hc
  · obtain ⟨i, hi, rfl⟩ := List.getElem_of_mem hx
    have hr := ho.row i
    rw [List.getD_eq_getElem?_getD, List.getElem?_eq_getElem hi] at hr
    obtain ⟨cur, hc⟩ := own_block hr hh
    rw [h] at hc
    simp at hc
theorem set_only (w : World) (a : Addr) (x : Value) : Only (fun k => k = a.block) w (w.setCell a x) :=
  ⟨rfl, rfl, rfl, by simp [World.setCell], fun k _ hn => Below.heap_setCell _ _ _ _ hn⟩
theorem times_fin {B b : Nat} {w3 : World} {n : Int} {old x : Value} {vs : List Value} {T : List (List Int)} (h : w3.heap[b]? = some (.cells #[.int .i64 n, old] 39 (0, 0))) (ho : OwnM B w3 x vs T) :
    (w3.setCell ⟨b, 1, none⟩ x).heap[b]? = some (.cells #[.int .i64 n, x] 39 (0, 0)) ∧ OwnM B (w3.setCell ⟨b, 1, none⟩ x) x vs T := by
  refine ⟨?_, ho.only (set_only w3 ⟨b, 1, none⟩ x) fun k hk hk' => ?_⟩
  · simp only [World.setCell]
    rw [Array.getElem?_modify, if_pos rfl, h]
    rfl
  · simp only at hk'
    subst hk'
    exact foot_ne h ho hk
theorem times_below {b3 b4 : Nat} {w0 wr w2 w3 : World} {v x : Value} {vs : List Value} {T : List (List Int)} (hb : Below b3 w0 wr) (hs : b3 ≤ wr.drew.heap.size) (hg : wr.drew.grownBy w2 none) (ho : OwnM b3 w2 v vs T) (hon : Only (Hits v) w2 w3) (h4 : b3 ≤ b4) :
    Below b3 w0 (w3.setCell ⟨b4, 1, none⟩ x) :=
  (((hb.drew.grown hg hs (by simp)).trans (Only.below' ho hon (Nat.le_trans hs hg.size))).trans ((set_only w3 ⟨b4, 1, none⟩ x).below (Nat.le_trans (Nat.le_trans hs hg.size) hon.size) fun k hk => by simp only at hk; omega))
/-- the variable that holds the rows stays as it is, whatever is appended to the rows -/
theorem times_keep {B b k : Nat} {n : Int} {wr w2 w3 : World} {oa : Option Addr} {oc : Nat} {vs : List Value} {T : List (List Int)} (h4 : wr.heap[b]? = some (.cells #[.int .i64 n, .slice oa k oc] 39 (0, 0)))
    (hg : wr.drew.grownBy w2 none) (ho : OwnM B w2 (.slice oa k oc) vs T) (hon : Only (Hits (.slice oa k oc)) w2 w3) : w3.heap[b]? = some (.cells #[.int .i64 n, .slice oa k oc] 39 (0, 0)) := by
  have hlt : b < wr.heap.size := by
    rcases Nat.lt_or_ge b wr.heap.size with h | h
    · exact h
    · rw [Array.getElem?_eq_none h] at h4; cases h4
  have e2 : w2.heap[b]? = some (.cells #[.int .i64 n, .slice oa k oc] 39 (0, 0)) := (hg.block b hlt (by simp)).trans h4
  refine (hon.block b (Nat.lt_of_lt_of_le hlt hg.size) fun hh => ?_).trans e2
  obtain ⟨cur, hc⟩ := own_block ho.out hh
  rw [e2] at hc
  simp at hc
def timesL (p : Int) (A L : List (List Int)) (n : Nat) : List (List Int) := A.map fun row => combTo p row L n L.length

set_option maxRecDepth 100000 in
set_option maxHeartbeats 1000000 in
theorem times_any (p : Nat) [NeZero p] (ca : Int) (n : Nat) (u v : Value) (A L : List (List Int)) (w : World) (hp : 1 < p) (hp2 : p ≤ 1000) (hu : MatV w u A) (hv : MatV w v L) (hA : RowsOk p L.length A) (hL : RowsOk p n L) (ha : A.length ≤ 1000) (hm : L.length ≤ 1000) (hn : n ≤ 1000) :
    Calls Tryd.prog 123 #[.int .i64 p, mxV ca u, mxV n v] w fun e w' => ∃ o vs, e = .returned (mxV n o) ∧ OwnM w.heap.size w' o vs (timesL p A L n) ∧ w.grownBy w' none := by
  obtain ⟨ua, uc, rfl⟩ := hu.shape
  obtain ⟨va, vc, rfl⟩ := hv.shape
  have HU := Lib.hid hu; have HV := Lib.hid hv; have HA := Lib.hid hA; have HL := Lib.hid hL
  have HCB := Lib.hid fun (row : List Int) (r : Value) (w1 : World) (hg : w.grownBy w1 none) (hr : IntsV w r row) (hok : VecOk p L.length row) => combine_any p r _ row L n w1 hp hp2 (hr.carry hg) (hv.carry hg) hok.1 hok.2 hL hm hn
  clear hu hv hA hL
  unfold mxV at *
  generalize hla : A.length = la at *
  have HLA := Lib.hid hla
  clear hla
  go_enter Tryd.func123, Tryd.ntmps123
  go_wp2_with fail
  have hw0 := times_start w #[.int .i64 ca, .slice ua la uc] #[.int .i64 n, .slice va L.length vc] (n : Int)
  generalize ((((w.alloc (.cells #[.int .i64 ca, .slice ua la uc] 39)).alloc (.cells #[.int .i64 n, .slice va L.length vc] 39)).alloc (.cells #[.int .i64 0, .slice none 0 0] 39)).alloc (.cells #[] 24)).alloc
    (.cells #[.int .i64 n, .slice (some ⟨w.heap.size + 1 + 1 + 1, 0, none⟩) 0 0] 39) = w0 at *
  obtain ⟨g0, g1, g2, g4, gow, ggr, gsz⟩ := hw0
  have G0 := Lib.hid g0; have G1 := Lib.hid g1; have G2 := Lib.hid g2; have G4 := Lib.hid g4; have GO := Lib.hid gow; have GG := Lib.hid ggr; have GS := Lib.hid gsz
  clear g0 g1 g2 g4 gow ggr gsz
  generalize hbe : w.heap.size = b at *
  have HBE := Lib.hid hbe
  clear hbe
  go_loopw [17] (fun i wr => ∃ (k : Nat) (oa : Option Addr) (oc : Nat) (vs : List Value), k ≤ la ∧ i = .int .i64 k ∧ wr.heap[b + 1 + 1 + 1 + 1]? = some (.cells #[.int .i64 n, .slice oa k oc] 39 (0, 0)) ∧
      OwnM (b + 1 + 1 + 1) wr (.slice oa k oc) vs ((timesL p A L n).take k) ∧ Below (b + 1 + 1 + 1) w0 wr) (fun i _ => la - (intOf i).toNat)
  case atStart => exact ⟨0, _, _, [], by omega, rfl, G4.out, GO.out, Below.refl _ _⟩
  case round =>
    obtain ⟨k, oa, oc, vs, hk, rfl, h4, hown, hbel⟩ := hrel
    have H4 := Lib.hid h4; have HO := Lib.hid hown; have HB := Lib.hid hbel
    have hszr := hbel.size
    have d0 := (hbel.block b (by omega)).trans G0.out
    have d1 := (hbel.block (b + 1) (by omega)).trans G1.out
    have hgr : w.grownBy wr none := grown_of_below ((Below.grown (Below.refl _ w) GG.out (Nat.le_refl _) (by simp)).trans (hbel.mono (by rw [HBE.out]; omega)))
    have HGR := Lib.hid hgr
    clear hown hbel
    by_cases hlt : k < la
    · have hka : k < A.length := by rw [HLA.out]; exact hlt
      obtain ⟨d, r, c, hae, hs, hd, hcell, hrow⟩ := HU.out.row hka
      have hrok := HA.out _ (List.getElem_mem hka)
      have hcell2 := (World.cell?_of_block (w := w) (a := ⟨d.block, d.off + k, none⟩) (hgr.block d.block hd (by simp))).trans hcell
      subst hae
      obtain ⟨db, dof, _⟩ := d
      simp only at hs hcell2
      subst hs
      have hnext : (timesL p A L n).take (k + 1) = (timesL p A L n).take k ++ [combTo p A[k] L n L.length] := by
        have : k < (timesL p A L n).length := by unfold timesL; rw [List.length_map]; exact hka
        rw [← take_push this]
        simp [timesL]
      have HN := Lib.hid hnext
      have hlk : ((timesL p A L n).take k).length = k := by rw [List.length_take]; unfold timesL; rw [List.length_map, HLA.out]; omega
      have HLK := Lib.hid hlk
      rw [hrok.1] at hcell2 hrow
      have HC := Lib.hid fun w' (h : w.grownBy w' none) => HCB.out A[k] _ w' h hrow hrok
      have c41 := cell_blk h4 1
      have c11 := cell_blk d1 1
      have c10 := cell_blk d1 0
      simp only [List.getElem?_toArray, List.getElem?_cons_zero, List.getElem?_cons_succ] at c41 c11 c10
      have hgd : w.grownBy wr.drew none := ⟨hgr.os, hgr.tape, hgr.output, hgr.size, hgr.block⟩
      have HGD := Lib.hid hgd
      have D1 := Lib.hid d1
      have hszr2 : b + 1 + 1 + 1 ≤ wr.drew.heap.size := by have := GS.out; show _ ≤ wr.heap.size; omega
      clear hnext hlk hrow hrok hcell hgd hgr d0 d1 h4
      generalize A[k] = row at *
      go_wp2_with fail
      go_region_law
        (first
        | (go_simp
           go_at_call 170
           refine (HC.out _ HGD.out).mono ?_
           rintro e w2 ⟨o, rfl, ho, hg⟩
           obtain ⟨oa2, oc2, hoe⟩ := own_shape ho
           subst hoe
           have A1 := Lib.hid (after_row (HO.out.only (Only.drew (fun _ => False) wr) (fun _ _ h => h)) hszr2 (ho) hg)
           have HG2 := Lib.hid hg
           have q4 := (hg.block (b + 1 + 1 + 1 + 1) (lt_of_blk (w := wr.drew) H4.out) (by simp)).trans H4.out
           have q1 := (hg.block (b + 1) (lt_of_blk (w := wr.drew) D1.out) (by simp)).trans D1.out
           have Q1 := Lib.hid q1
           have q41 := cell_blk q4 1
           have q11 := cell_blk q1 1
           have q10 := cell_blk q1 0
           simp only [List.getElem?_toArray, List.getElem?_cons_zero, List.getElem?_cons_succ] at q41 q11 q10
           have z41 := fun o => cell_alloc q41 o
           clear ho hg q1 q4)
        | (refine step_app_row rfl _ _ rfl rfl rfl A1.out.1 A1.out.2.1 A1.out.2.2.1 A1.out.2.2.2 (by rw [HLK.out]; omega) ?_
           intro g3 vc3 w3 hown' hon'
           rw [HLK.out] at hown' ⊢
           have HO3 := Lib.hid hown'; have HN3 := Lib.hid hon'
           have h43 := times_keep H4.out HG2.out A1.out.1 hon'
           have H43 := Lib.hid h43
           have h13 := times_keep1 Q1.out A1.out.1 hon'
           have c43 := cell_blk h43 1
           have f43 := free_blk h43 1
           have r11 := cell_blk h13 1
           have r10 := cell_blk h13 0
           simp only [List.getElem?_toArray, List.getElem?_cons_zero, List.getElem?_cons_succ] at c43 r11 r10
           clear hown' hon' h43 h13))
      all_goals
        have FIN := Lib.hid (times_fin (x := .slice (some ⟨g3, 0, none⟩) (k + 1) vc3) H43.out HO3.out)
        have FB := Lib.hid (times_below HB.out hszr2 HG2.out A1.out.1 HN3.out (b4 := b + 1 + 1 + 1 + 1) (x := .slice (some ⟨g3, 0, none⟩) (k + 1) vc3) (by omega))
        clear c43 f43 r11 r10 q41 q11 q10 z41
        go_wp2
        go_roundw
        case rel => exact ⟨k + 1, _, _, _, by omega, by go_num, FIN.out.1, by rw [HN.out]; exact FIN.out.2, FB.out⟩
        case measure => simp [intOf]; omega
    · have hkm : k = la := by omega
      subst hkm
      have hall : (timesL p A L n).take k = timesL p A L n := List.take_of_length_le (by unfold timesL; rw [List.length_map, HLA.out]; exact Nat.le_refl _)
      have HALL := Lib.hid hall
      have e2 := (HB.out.block (b + 1 + 1) (by have := GS.out; omega)).trans G2.out
      have c40 := cell_blk h4 0
      have c41 := cell_blk h4 1
      have c20 := cell_blk e2 0
      have c21 := cell_blk e2 1
      have f20 := free_blk e2 0
      have f21 := free_blk e2 1
      simp only [List.getElem?_toArray, List.getElem?_cons_zero, List.getElem?_cons_succ] at c40 c41 c20 c21
      clear d0 d1 h4 hgr hall e2
      go_wp2
      refine bodyPost_ret_by (v := .agg #[.int .i64 n, .slice oa k oc]) ?_ rfl ?_
      · simp [results, go_sem, *]
      · have o5 := one_set (w := wr) (b + 1 + 1) (.int .i64 n) (.slice oa k oc)
        refine ⟨_, vs, rfl, ?_, ?_⟩
        · have := HO.out
          rw [HALL.out] at this
          exact (this.only o5 fun q hq hq' => by have := (HO.out.lt (by exact hq)).1; omega).base (by rw [HBE.out]; omega)
        · exact grown_of_below ((Below.grown (Below.refl _ w) HGR.out (Nat.le_refl _) (by simp)).trans (o5.below HGR.out.size fun q hq => by rw [HBE.out]; omega))

end Go.Proofs.YtpeaeminjbjlnaaDoor

/-
  Products that are checked. Conditions: lengths are small.
-/
namespace Go.Proofs.YtpeaeminjbjlnaaDoor
open Go.RowKit
set_option linter.unusedVariables false

set_option maxRecDepth 100000 in
set_option maxHeartbeats 1000000 in
theorem mulMatrices_yes (p : Nat) [NeZero p] (ca cb : Int) (u v : Value) (A L : List (List Int)) (w : World) (ht : Tab w) (hu : MatV w u A) (hv : MatV w v L) (hA : matB p ca A = true) (hL : matB p cb L = true) (hc : ca = L.length) :
    Calls Tryd.prog 29 #[.int .i64 p, mxV ca u, mxV cb v] w fun e w' => ∃ o, e = .returned (.tuple #[mxV cb o, .bool true]) ∧ MatV w' o (timesL p A L cb.toNat) ∧ w.grownBy w' none := by
  obtain ⟨hfld, hp2, n1, rfl, hn1, hm1, hA'⟩ := matB_parts hA
  obtain ⟨_, _, n, rfl, hn, hm, hL'⟩ := matB_parts hL
  have hc' : n1 = L.length := by omega
  subst hc'
  rw [Int.toNat_natCast]
  have HI1 := Lib.hid fun w1 (hg : w.grownBy w1 none) => isMatrix_any p (L.length : Int) u A w1 (ht.grown hg) (hu.carry hg) (by omega) (fun row hrow => by rw [(hA' row hrow).1]; omega)
  have HI2 := Lib.hid fun w1 (hg : w.grownBy w1 none) => isMatrix_any p (n : Int) v L w1 (ht.grown hg) (hv.carry hg) (by omega) (fun row hrow => by rw [(hL' row hrow).1]; omega)
  rw [hA] at HI1
  rw [hL] at HI2
  have HT := Lib.hid fun w1 (hg : w.grownBy w1 none) => times_any p (L.length : Int) n u v A L w1 (lt_p hfld) hp2 (hu.carry hg) (hv.carry hg) hA' hL' (by omega) (by omega) (by omega)
  obtain ⟨ua, uc, rfl⟩ := hu.shape
  obtain ⟨va, vc, rfl⟩ := hv.shape
  clear hu hv hA hL hA' hL' ht hc hfld
  unfold mxV at *
  go_enter Tryd.func29, Tryd.ntmps29
  go_wp2_with (first
      | (go_at_call 117
         with_reducible refine (HI1.out _ ?_).mono ?_
         · exact ((grownBy_alloc _ _ none).trans (grownBy_alloc _ _ none)).trans (grownBy_alloc _ _ none)
         rintro e w1 ⟨rfl, hg1⟩
         obtain ⟨b1, b2, b3, b4⟩ := blk3 w _ _ _ hg1
         have HW1 := Lib.hid (grown_of_below (Below.grown ((((Below.refl _ w).alloc (Nat.le_refl _) _).alloc (by simp) _).alloc (by simp; omega) _) hg1 (by simp; omega) (by simp)))
         have c10 := cell_blk b1 0
         have c11 := cell_blk b1 1
         have c20 := cell_blk b2 0
         have c21 := cell_blk b2 1
         simp only [List.getElem?_toArray, List.getElem?_cons_zero, List.getElem?_cons_succ] at c10 c11 c20 c21
         have B1 := Lib.hid b1; have B2 := Lib.hid b2; have B3 := Lib.hid b3; have B4 := Lib.hid b4
         clear hg1 b1 b2 b3 b4)
      | (go_at_call 117
         with_reducible refine (HI2.out _ HW1.out).mono ?_
         rintro e w2 ⟨rfl, hg2⟩
         have b1 := (hg2.block _ (lt_of_blk B1.out) (by simp)).trans B1.out
         have b2 := (hg2.block _ (lt_of_blk B2.out) (by simp)).trans B2.out
         have b3 := (hg2.block _ (lt_of_blk B3.out) (by simp)).trans B3.out
         have HW2 := Lib.hid (HW1.out.trans hg2)
         have d10 := cell_blk b1 0
         have d11 := cell_blk b1 1
         have d20 := cell_blk b2 0
         have d21 := cell_blk b2 1
         simp only [List.getElem?_toArray, List.getElem?_cons_zero, List.getElem?_cons_succ] at d10 d11 d20 d21
         have E3 := Lib.hid b3
         have hsz2 := Lib.hid (lt_of_blk b3)
         clear hg2 b1 b2 b3)
      | (go_at_call 123
         with_reducible refine (HT.out _ HW2.out).mono ?_
         rintro e w3 ⟨o, ovs, rfl, ho, hg3⟩
         have b3 := (hg3.block _ (lt_of_blk E3.out) (by simp)).trans E3.out
         have HW3 := Lib.hid (HW2.out.trans hg3)
         obtain ⟨oa, oc, hoe, _, _⟩ := own_form ho
         subst hoe
         have HO := Lib.hid ho
         have e30 := cell_blk b3 0
         have e31 := cell_blk b3 1
         have f30 := free_blk b3 0
         have f31 := free_blk b3 1
         simp only [List.getElem?_toArray, List.getElem?_cons_zero, List.getElem?_cons_succ] at e30 e31
         clear hg3 ho b3))
  refine bodyPost_ret_by (v := .tuple #[.agg #[.int .i64 n, .slice oa (timesL p A L n).length oc], .bool true]) ?_ rfl ?_
  · simp [results, go_sem, *]
  · have o5 := one_set (w := w3) (w.heap.size + 1 + 1) (.int .i64 n) (.slice oa (timesL p A L n).length oc)
    refine ⟨_, rfl, (HO.out.only o5 fun q hq hq' => by have h1 := (HO.out.lt hq).1; have h2 := hsz2.out; omega).read, ?_⟩
    exact grown_of_below ((Below.grown (Below.refl _ w) HW3.out (Nat.le_refl _) (by simp)).trans (o5.below HW3.out.size fun q hq => by omega))

end Go.Proofs.YtpeaeminjbjlnaaDoor

/-
  Identities, squares, inverses. Conditions: lengths are small.
-/
namespace Go.Proofs.YtpeaeminjbjlnaaDoor
open Go.RowKit
set_option linter.unusedVariables false

theorem isSquare_any (cols : Int) (v : Value) (L : List (List Int)) (w : World) (hv : MatV w v L) (hl : L.length ≤ 1000000) :
    Calls Tryd.prog 124 #[mxV cols v] w fun e w' => e = .returned (.bool (decide ((L.length : Int) = cols))) ∧ w.grownBy w' none := by
  unfold mxV
  obtain ⟨a, c, rfl⟩ := hv.shape
  clear hv
  by_cases h : (L.length : Int) = cols
  · have hd : decide ((L.length : Int) = cols) = true := decide_eq_true h
    have hb : ((L.length : Int) == cols) = true := by rw [beq_iff_eq]; exact h
    have HD := Lib.hid hd
    clear hd h
    generalize L.length = l at *
    go_enter Tryd.func124, Tryd.ntmps124
    go_wp2
    go_ret
    exact ⟨by rw [HD.out]; rfl, grownBy_alloc _ _ _⟩
  · have hd : decide ((L.length : Int) = cols) = false := decide_eq_false h
    have hb : ((L.length : Int) == cols) = false := by rw [beq_eq_false_iff_ne]; exact h
    have HD := Lib.hid hd
    clear hd h
    generalize L.length = l at *
    go_enter Tryd.func124, Tryd.ntmps124
    go_wp2
    go_ret
    exact ⟨by rw [HD.out]; rfl, grownBy_alloc _ _ _⟩

set_option maxRecDepth 100000 in
theorem identity_any (n : Nat) (w : World) (hn : n ≤ 24) :
    Calls Tryd.prog 31 #[.int .i64 n] w fun e w' => ∃ o, e = .returned (.tuple #[mxV n o, .bool true]) ∧ MatV w' o (idL n) ∧ w.grownBy w' none := by
  unfold mxV
  have hd : decide ((0 : Int) ≤ n ∧ (n : Int) ≤ 24) = true := decide_eq_true (by omega)
  have HD := Lib.hid hd
  clear hd
  go_enter Tryd.func31, Tryd.ntmps31
  go_wp2_with (first
    | (go_at_call 125; refine (within_any _ _ _ _).mono ?_; rintro e w' ⟨he, rfl⟩; rw [HD.out] at he; subst he)
    | (go_at_call 119
       refine (identityRows_any n _ (by omega)).mono ?_
       rintro e w1 ⟨o, vs, rfl, ho, hg⟩
       obtain ⟨oa, oc, hoe, _, _⟩ := own_form ho
       rw [idL_len] at hoe
       subst hoe
       obtain ⟨hbl, hgw⟩ := box1 w _ _ hg
       have HO := Lib.hid ho; have HG := Lib.hid hgw
       have HS := Lib.hid (show w.heap.size + 1 ≤ (w.alloc (.cells #[.int .i64 0, .slice none 0 0] 39)).heap.size by simp)
       have c0 := cell_blk hbl 0
       have c1 := cell_blk hbl 1
       have f0 := free_blk hbl 0
       have f1 := free_blk hbl 1
       simp only [List.getElem?_toArray, List.getElem?_cons_zero, List.getElem?_cons_succ] at c0 c1
       clear ho hg hbl hgw))
  refine bodyPost_ret_by (v := .tuple #[.agg #[.int .i64 n, .slice oa n oc], .bool true]) ?_ rfl ?_
  · simp [results, go_sem, *]
  · have o5 := one_set (w := w1) w.heap.size (.int .i64 n) (.slice oa n oc)
    refine ⟨_, rfl, (HO.out.only o5 fun q hq hq' => by have h1 := (HO.out.lt hq).1; have h2 := HS.out; omega).read, ?_⟩
    exact grown_of_below ((Below.grown (Below.refl _ w) HG.out (Nat.le_refl _) (by simp)).trans (o5.below HG.out.size fun q hq => by omega))

end Go.Proofs.YtpeaeminjbjlnaaDoor

/-
  Reduced lists and kernels, as values that can be read. Conditions: lengths are small; rows of elements.
-/
import Derived.Test.YtpeaeminjbjlnaaDoorMatFn
namespace Go.Proofs.YtpeaeminjbjlnaaDoor
open Go.RowKit
set_option linter.unusedVariables false

theorem MatV.part {w : World} {a : Option Addr} {n cap : Nat} {L : List (List Int)} (h : MatV w (.slice a n cap) L) (s t c : Nat) (ht : t ≤ L.length) (a' : Option Addr)
    (ha : ∀ d, a = some d → s < t → ∃ d', a' = some d' ∧ d'.block = d.block ∧ d'.off = d.off + s ∧ d'.spot = none) : MatV w (.slice a' (t - s) c) ((L.take t).drop s) := by
  obtain ⟨a0, c0, he, hi⟩ := h
  cases he
  have hlen : ((L.take t).drop s).length = t - s := by simp; omega
  refine ⟨a', c, by rw [hlen], fun hz => ?_⟩
  have hst : s < t := by
    rcases Nat.lt_or_ge s t with h | h
    · exact h
    · exact absurd (List.eq_nil_of_length_eq_zero (by rw [hlen]; omega)) hz
  obtain ⟨d, had, hs, hd, hr⟩ := hi (by intro h; rw [h] at ht; simp at ht; omega)
  obtain ⟨d', ha', hb, ho, hsp⟩ := ha d had hst
  refine ⟨d', ha', hsp, by rw [hb]; exact hd, fun i hi' => ?_⟩
  have hi2 : s + i < L.length := by rw [hlen] at hi'; omega
  obtain ⟨u, hu, hv⟩ := hr (s + i) hi2
  refine ⟨u, ?_, ?_⟩
  · rw [hb, ho, Nat.add_assoc]; exact hu
  · have e : ((L.take t).drop s)[i] = L[s + i] := by rw [List.getElem_drop, List.getElem_take]
    rw [e]; exact hv

theorem madeCells_nil (n : Nat) : (madeCells (Value.slice none 0 0).cells (n * 1)).toList = List.replicate n nilS := by
  refine List.ext_getElem (by simp [madeCells]) fun j h1 h2 => ?_
  simp [madeCells, Value.cells, Nat.mod_one, nilS]
theorem getD_repl {n i : Nat} : (List.replicate n nilS).getD i nilS = nilS := by
  rw [List.getD_eq_getElem?_getD, List.getElem?_replicate]
  split <;> rfl
theorem getD_repl' {n i : Nat} : (List.replicate n ([] : List Int)).getD i [] = [] := by
  rw [List.getD_eq_getElem?_getD, List.getElem?_replicate]
  split <;> rfl
theorem OwnM.nils {B : Nat} {w : World} {v : Value} {n : Nat} (h : w.ownsRow B 24 1 v n (List.replicate n nilS)) : OwnM B w v (List.replicate n nilS) (List.replicate n []) :=
  ⟨by simp, by rw [List.length_replicate]; exact h, fun i => by rw [getD_repl, getD_repl']; exact OwnInts.nil B w, fun i j _ k hk => by rw [getD_repl] at hk; exact absurd hk nil_hits⟩
theorem nils_ok (p : Int) (n : Nat) : RowsOk p 0 (List.replicate n []) := by
  intro row hrow
  rw [List.eq_of_mem_replicate hrow]
  exact ⟨rfl, fun x hx => by simp at hx⟩

theorem own_form {B : Nat} {w : World} {v : Value} {vs : List Value} {L : List (List Int)} (h : OwnM B w v vs L) : ∃ a c, v = .slice a L.length c ∧ (a = none ∨ ∃ g, a = some ⟨g, 0, none⟩) ∧ L.length ≤ c := by
  have h1 := h.len
  rcases h.out.2 with ⟨rfl, h0⟩ | ⟨g, cap, cur, rfl, _, _, hc, _⟩
  · exact ⟨none, 0, by rw [← h1, h0], Or.inl rfl, by omega⟩
  · exact ⟨some ⟨g, 0, none⟩, cap, by rw [h1], Or.inr ⟨g, rfl⟩, by omega⟩
theorem Two.base {B : Nat} {w : World} {v u : Value} {vs us : List Value} {R T : List (List Int)} (h : Two B w v vs u us R T) {k : Nat} (hk : Feet v vs u us k) : B ≤ k := by
  rcases hk with hk | hk
  · exact (h.mR.lt hk).1
  · exact (h.mT.lt hk).1
theorem two_nils {B m : Nat} {w1 w2 : World} {v : Value} {vs : List Value} {L : List (List Int)} (h : OwnM B w1 v vs L)
    (h2 : w2.ownsRow B 24 1 (.slice (some ⟨w1.heap.size, 0, none⟩) m m) m (madeCells (Value.slice none 0 0).cells (m * 1)).toList) (hg : w1.grownBy w2 none) :
    Two B w2 v vs (.slice (some ⟨w1.heap.size, 0, none⟩) m m) (List.replicate m nilS) L (List.replicate m []) := by
  rw [madeCells_nil] at h2
  refine ⟨h.carry hg, OwnM.nils h2, fun k hk hk' => ?_⟩
  have h3 := (h.lt hk).2
  rcases hk' with hk' | ⟨x, hx, hk'⟩
  · simp only [Hits, Value.ownBlock, Option.some.injEq] at hk'
    omega
  · rw [List.eq_of_mem_replicate hx] at hk'
    exact nil_hits hk'

set_option maxRecDepth 100000 in
set_option maxHeartbeats 1000000 in
theorem reduced_any (p : Nat) [NeZero p] (u : Value) (L : List (List Int)) (n : Nat) (w : World) (hfld : fldN p = true) (hp2 : p ≤ 1000) (hv : MatV w u L) (hL : RowsOk p n L) (hm : L.length ≤ 1000) (hn : n ≤ 1000) :
    Calls Tryd.prog 126 #[.int .i64 p, u, .int .i64 n] w fun e w' => ∃ v c, e = .returned (.slice v (reducedL p n L).length c) ∧ MatV w' (.slice v (reducedL p n L).length c) (reducedL p n L) ∧ w.grownBy w' none := by
  have hsh : ∃ a c, u = .slice a L.length c := hv.shape
  have HCL := Lib.hid (clones_any u L w hv (by omega) (fun row hrow => by rw [(hL row hrow).1]; omega))
  obtain ⟨i0, hi, hz0, hz1, hz2⟩ := info_parts info_ints
  have HI := Lib.hid hi; have HZ0 := Lib.hid hz0; have HZ1 := Lib.hid hz1; have HZ2 := Lib.hid hz2
  have HUN := Lib.hid Tryd.underlying37
  have HBY := Lib.hid (show i0.bytes * L.length ≤ 281474976710656 by rw [hz2]; omega)
  have HBY2 := Lib.hid (show L.length ≤ maxLen by unfold maxLen; omega)
  have HL := Lib.hid hL; have HFLD := Lib.hid hfld
  clear hv hi hz0 hz1 hz2 hL
  generalize hlen : L.length = m at *
  have HLEN := Lib.hid hlen
  clear hlen
  have hfit : Fit p m n 0 L (List.replicate m []) := ⟨HLEN.out, List.length_replicate, HL.out, nils_ok p m⟩
  have HFIT := Lib.hid hfit
  obtain ⟨hfn, hrm⟩ := at_round hfld hfit (Nat.le_refl n)
  have hred : reducedL p n L = (redTo p L (List.replicate m []) n).R.take (redTo p L (List.replicate m []) n).r := reducedL_eq _ _ _ _
  have HRED := Lib.hid hred
  have hrl : (reducedL p n L).length = (redTo p L (List.replicate m []) n).r := by rw [hred, List.length_take, hfn.lR]; omega
  have HRL := Lib.hid hrl
  have HFN := Lib.hid hfn
  clear hred hrl hfit hfn hfld
  generalize hr : (redTo p L (List.replicate m []) n).r = r at *
  have HR := Lib.hid hr
  clear hr
  obtain ⟨ua, uc, rfl⟩ := hsh
  go_enter Tryd.func126, Tryd.ntmps126
  go_wp2_with (first
    | (go_at_call 118
       refine HCL.out.mono ?_
       rintro e w1 ⟨v, vs, rfl, hown, hg⟩
       have HO := Lib.hid hown; have HG := Lib.hid hg
       obtain ⟨va, vc, hve, hvi, hcap⟩ := own_form hown
       rw [HLEN.out] at hve hcap
       subst hve
       have hsz := hg.size
       clear hown hg)
    | (at_make
       refine wpList_make_full _ rfl _ _ 37 rfl w.heap.size 24 i0 (.slice none 0 0) 1 HUN.out HI.out HZ0.out HZ1.out .i64 .i64 (m : Int) (m : Int) m rfl rfl rfl rfl HBY.out HBY2.out hsz ?_
       intro w2 hown2 hgr2
       have HT2 := Lib.hid (two_nils HO.out hown2 hgr2)
       have HG2 := Lib.hid hgr2
       clear hown2 hgr2)
    | (go_at_call 120
       refine (reduction_any p _ _ _ _ L _ m n 0 w.heap.size _ HFLD.out HT2.out HFIT.out (by omega) (by omega) (by omega) hp2).mono ?_
       rintro e w3 ⟨rfl, vs', us', t, on⟩
       rw [HR.out]
       have HT3 := Lib.hid t; have HON := Lib.hid on
       clear t on))
  go_ret
  have hlen := HRL.out
  refine ⟨va, r, by rw [hlen]; rfl, ?_, grown_of_below ((Below.grown (Below.grown (Below.refl _ w) HG.out (Nat.le_refl _) (by simp)) HG2.out hsz (by simp)).trans (HON.out.below (Nat.le_trans hsz HG2.out.size) fun k hk => HT2.out.base hk))⟩
  have h := HT3.out.mR.read.part 0 r r (by rw [HFN.out.lR]; exact hrm) va fun d hd _ => by
    subst hd
    rcases hvi with h | ⟨g, h⟩
    · cases h
    · cases h; exact ⟨_, rfl, rfl, rfl, rfl⟩
  rw [hlen, HRED.out]
  simpa using h

theorem tail_eq {L : List (List Int)} {m r : Nat} (hl : L.length = m) : (L.take m).drop r = L.drop r := by rw [List.take_of_length_le (by omega)]
theorem tail_a {w : World} {a : Option Addr} {m c r : Nat} {L : List (List Int)} (h : MatV w (.slice a m c) L) (hl : L.length = m) (hr : r ≤ m) (c' : Nat) (hrm : m ≤ r) : MatV w (.slice a (m - r) c') (L.drop r) := by
  rw [← tail_eq hl]
  exact h.part r m c' (by omega) a fun d _ hlt => absurd hlt (by omega)
theorem tail_b {w : World} {a : Option Addr} {m c r : Nat} {L : List (List Int)} (h : MatV w (.slice a m c) L) (hl : L.length = m) (hr : r ≤ m) (ha : a = none ∨ ∃ g, a = some ⟨g, 0, none⟩) (c' : Nat) : MatV w (.slice (Option.map (fun x => x.add r) a) (m - r) c') (L.drop r) := by
  rw [← tail_eq hl]
  refine h.part r m c' (by omega) _ fun d hd _ => ?_
  subst hd
  rcases ha with ha | ⟨g, ha⟩
  · cases ha
  · cases ha
    refine ⟨_, rfl, ?_, ?_, ?_⟩ <;> (unfold Addr.add; split <;> first | rfl | (simp; omega))
theorem low_frame {w w1 w2 w3 : World} {v u : Value} {vs us : List Value} {R T : List (List Int)} (h1 : w.grownBy w1 none) (h2 : w1.grownBy w2 none) (t : Two w.heap.size w2 v vs u us R T) (on : Only (Feet v vs u us) w2 w3) : Below w.heap.size w w3 :=
  (Below.grown (Below.grown (Below.refl _ w) h1 (Nat.le_refl _) (by simp)) h2 h1.size (by simp)).trans (on.below (Nat.le_trans h1.size h2.size) fun k hk => t.base hk)
theorem two_ids {w w1 w2 : World} {v u : Value} {vs us : List Value} {R T : List (List Int)} (h : OwnM w.heap.size w1 v vs R) (hg : w.grownBy w1 none) (h2 : OwnM w1.heap.size w2 u us T) (hg2 : w1.grownBy w2 none) : Two w.heap.size w2 v vs u us R T := by
  refine ⟨h.carry hg2, h2.base hg.size, fun k hk hk' => ?_⟩
  have h3 := (h.lt hk).2
  have h4 := (h2.lt hk').1
  omega

set_option maxRecDepth 100000 in
set_option maxHeartbeats 1000000 in
theorem kernel_any (p : Nat) [NeZero p] (u : Value) (L : List (List Int)) (n : Nat) (w : World) (hfld : fldN p = true) (hp2 : p ≤ 1000) (hv : MatV w u L) (hL : RowsOk p n L) (hm : L.length ≤ 1000) (hn : n ≤ 1000) :
    Calls Tryd.prog 127 #[.int .i64 p, u, .int .i64 n] w fun e w' => ∃ v c, e = .returned (.slice v (kernelL p n L).length c) ∧ MatV w' (.slice v (kernelL p n L).length c) (kernelL p n L) ∧ w.grownBy w' none := by
  have hsh : ∃ a c, u = .slice a L.length c := hv.shape
  have HCL := Lib.hid (clones_any u L w hv (by omega) (fun row hrow => by rw [(hL row hrow).1]; omega))
  have HFLD := Lib.hid hfld
  have g := ge hfld hL rfl
  have hfit : Fit p L.length n L.length L (idL L.length) := ⟨rfl, idL_len _, hL, idL_ok (lt_p hfld)⟩
  have hkl : kernelL p n L = reducedL p L.length ((redTo p L (idL L.length) n).T.drop (redTo p L (idL L.length) n).r) := rfl
  have HKL := Lib.hid hkl
  have hrm := g.rm
  have hTl := Lib.hid g.lenT
  have hTo := Lib.hid (drop_ok (k := (redTo p L (idL L.length) n).r) g.okT)
  clear hv hL hfld g hkl
  generalize hlen : L.length = m at *
  have HLEN := Lib.hid hlen
  have HFIT := Lib.hid hfit
  clear hlen hfit
  generalize hS : redTo p L (idL m) n = s at *
  have HS := Lib.hid hS
  clear hS
  generalize hr : s.r = r at *
  have HR := Lib.hid hr
  clear hr
  obtain ⟨ua, uc, rfl⟩ := hsh
  go_enter Tryd.func127, Tryd.ntmps127
  go_wp2_with (first
    | (go_at_call 118
       refine HCL.out.mono ?_
       rintro e w1 ⟨v, vs, rfl, hown, hg⟩
       have HO := Lib.hid hown; have HG := Lib.hid hg
       obtain ⟨va, vc, hve, hvi, hcap⟩ := own_form hown
       rw [HLEN.out] at hve hcap
       subst hve
       have hsz := hg.size
       clear hown hg)
    | (go_at_call 119
       refine (identityRows_any m w1 (by omega)).mono ?_
       rintro e w2 ⟨v2, vs2, rfl, hown2, hg2⟩
       obtain ⟨va2, vc2, hve2, hvi2, hcap2⟩ := own_form hown2
       rw [idL_len] at hve2 hcap2
       subst hve2
       have HT2 := Lib.hid (two_ids HO.out HG.out hown2 hg2); have HG2 := Lib.hid hg2
       clear hown2 hg2)
    | (go_at_call 120
       refine (reduction_any p _ _ _ _ L _ m n m w.heap.size _ HFLD.out HT2.out HFIT.out (by omega) (by omega) (by omega) hp2).mono ?_
       rintro e w3 ⟨rfl, vs', us', t, on⟩
       rw [HS.out, HR.out]
       have hrd : MatV w3 (.slice va2 m vc2) s.T := by have := t.mT.read; rwa [HS.out] at this
       have HA := Lib.hid fun hle => reduced_any p _ (s.T.drop r) m w3 HFLD.out hp2 (tail_a (r := r) hrd hTl.out hrm 0 hle) hTo.out (by rw [List.length_drop, hTl.out]; omega) (by omega)
       have HB := Lib.hid fun c' => reduced_any p _ (s.T.drop r) m w3 HFLD.out hp2 (tail_b (r := r) hrd hTl.out hrm hvi2 c') hTo.out (by rw [List.length_drop, hTl.out]; omega) (by omega)
       have HT3 := Lib.hid (low_frame HG.out HG2.out HT2.out on)
       clear t on hrd)
    | (go_at_call 126
       first
         | (with_reducible refine (HA.out (by omega)).mono ?_
            rintro e w4 ⟨v4, c4, rfl, hv4, hg4⟩
            rw [← HKL.out] at hv4
            rw [← HKL.out]
            have HV4 := Lib.hid hv4; have HG4 := Lib.hid hg4
            clear hv4 hg4)
         | (with_reducible refine (HB.out _).mono ?_
            rintro e w4 ⟨v4, c4, rfl, hv4, hg4⟩
            rw [← HKL.out] at hv4
            rw [← HKL.out]
            have HV4 := Lib.hid hv4; have HG4 := Lib.hid hg4
            clear hv4 hg4)))
  all_goals
    go_ret
    exact ⟨v4, c4, rfl, HV4.out, grown_of_below ((HT3.out).grown HG4.out HT3.out.size (by simp))⟩
end Go.Proofs.YtpeaeminjbjlnaaDoor

/-
 Matches, in plain Lean: what a match is; the list of all of them in the order of their images; what a part leaves of that list. Conditions: as each says.
-/
import Derived.Test.YtjagjhchnpmngaaGreatCz06
import Derived.Test.YtjagjhchnpmngaaGreatCz05
import Derived.Test.YtjagjhchnpmngaaGreatCz04
import Derived.Test.YtjagjhchnpmngaaGreatCz03
import Derived.Test.YtjagjhchnpmngaaGreatCz01
import Derived.Test.YtjagjhchnpmngaaGreatCz00
import Derived.Test.YtjagjhchnpmngaaGreatCz02
import Derived.Test.YtjagjhchnpmngaaGreatCz07
import Derived.Test.YtjagjhchnpmngaaGreatCz12
import Derived.Test.YtjagjhchnpmngaaGreatCz17
set_option linter.unusedVariables false
set_option linter.unusedSimpArgs false
set_option maxRecDepth 100000
namespace Go.Proofs.YtjagjhchnpmngaaGreat
open Go.RowKit
structure Mt where
 W : List Int
 E : List Int
deriving DecidableEq
def lkL (l : List Int) (w : Int) : Int := if 0 ≤ w then l.getD w.toNat 0 else 0
def edAt (l : List Ed) (f : Int) : Ed := l.getD f.toNat e0
structure IsMt (g p : Gr) (M : Mt) : Prop where
 lw : M.W.length = p.n.toNat
 le : M.E.length = p.es.length
 rw : ∀ x ∈ M.W, 0 ≤ x ∧ x < g.n
 re : ∀ x ∈ M.E, 0 ≤ x ∧ x < (g.es.length : Int)
 dw : M.W.Nodup
 de : M.E.Nodup
 ed : ∀ j, j < p.es.length → edAt g.es (M.E.getD j 0) = ⟨(p.es.getD j e0).k, (p.es.getD j e0).v, (p.es.getD j e0).i.map (lkL M.W), (p.es.getD j e0).o.map (lkL M.W)⟩
noncomputable def tst (p : Prop) : Bool := @decide p (Classical.propDecidable p)
theorem tst_iff {p : Prop} : tst p = true ↔ p := @decide_eq_true_iff p (Classical.propDecidable p)
theorem gd_set {l : List Int} {i j : Nat} {x a : Int} (h : i < l.length) : (l.set i x).getD j a = if i = j then x else l.getD j a := by
 rw [List.getD_eq_getElem?_getD, List.getElem?_set]
 by_cases hij : i = j
 ·subst hij; rw [if_pos rfl, if_pos h, if_pos rfl]; rfl
 ·rw [if_neg hij, if_neg hij, List.getD_eq_getElem?_getD]
def mrk (n : Nat) (W : List Int) : List Bool := (List.range n).map fun v => decide (((v : Nat) : Int) ∈ W)
theorem mrk_len (n : Nat) (W : List Int) : (mrk n W).length = n := by simp [mrk]
theorem mrk_at {n v : Nat} {W : List Int} (h : v < n) : (mrk n W).getD v false = decide ((v : Int) ∈ W) := by
 unfold mrk
 rw [List.getD_eq_getElem?_getD, List.getElem?_map, List.getElem?_range h]
 rfl
structure Back (W0 W N : List Int) : Prop where
 len : W.length = W0.length
 nd : N.Nodup
 at_ : ∀ x ∈ N, (0 ≤ x ∧ x < (W0.length : Int)) ∧ W0.getD x.toNat 0 = -1 ∧ 0 ≤ W.getD x.toNat 0
 rest : ∀ i : Nat, (i : Int) ∉ N → W.getD i 0 = W0.getD i 0
theorem Back.start (W : List Int) : Back W W [] := ⟨rfl, List.nodup_nil, fun _ h => (by cases h), fun _ _ => rfl⟩
theorem Back.set {W0 W N : List Int} (h : Back W0 W N) {w : Nat} {im : Int} (hw : w < W.length) (h0 : W.getD w 0 = -1) (h1 : 0 ≤ im) : Back W0 (W.set w im) (N ++ [(w : Int)]) := by
 have hn : (w : Int) ∉ N := fun hm => by have := (h.at_ _ hm).2.2; rw [Int.toNat_natCast, h0] at this; omega
 refine ⟨by rw [List.length_set]; exact h.len, ?_, fun x hx => ?_, fun i hi => ?_⟩
 ·rw [List.nodup_append]
  exact ⟨h.nd, by simp, fun a ha b hb => by rw [List.mem_singleton.1 hb]; rintro rfl; exact hn ha⟩
 ·rcases List.mem_append.1 hx with hx | hx
  ·have := h.at_ x hx
   refine ⟨this.1, this.2.1, ?_⟩
   rw [gd_set hw]
   split
   ·exact h1
   ·exact this.2.2
  ·rw [List.mem_singleton.1 hx, Int.toNat_natCast]
   refine ⟨⟨by omega, by rw [← h.len]; omega⟩, ?_, by rw [gd_set hw, if_pos rfl]; exact h1⟩
   rw [← h.rest w hn]; exact h0
 ·rw [List.mem_append, List.mem_singleton, not_or] at hi
  rw [gd_set hw, if_neg (fun e => hi.2 (by rw [e]))]
  exact h.rest i hi.1
def difB (zs : List Int) (n : Nat) : Bool := decide (∀ x ∈ zs, 0 ≤ x ∧ x < (n : Int)) && decide zs.Nodup
theorem dif_iff {zs : List Int} {n : Nat} : difB zs n = true ↔ (∀ x ∈ zs, 0 ≤ x ∧ x < (n : Int)) ∧ zs.Nodup := by
 unfold difB
 rw [Bool.and_eq_true, decide_eq_true_iff, decide_eq_true_iff]
theorem dif_no {zs : List Int} {n : Nat} (h : ¬ ((∀ x ∈ zs, 0 ≤ x ∧ x < (n : Int)) ∧ zs.Nodup)) : difB zs n = false := by
 cases hb : difB zs n
 ·rfl
 ·exact absurd (dif_iff.1 hb) h
theorem take_snocI {zs : List Int} {k : Nat} (h : k < zs.length) : zs.take (k + 1) = zs.take k ++ [zs.getD k 0] := by
 rw [List.take_succ_eq_append_getElem h, List.getD_eq_getElem?_getD, List.getElem?_eq_getElem h]; rfl
theorem nodup_snoc {l : List Int} {x : Int} : (l ++ [x]).Nodup ↔ l.Nodup ∧ x ∉ l := by
 rw [List.nodup_append]
 constructor
 ·rintro ⟨h1, _, h3⟩
  exact ⟨h1, fun hx => h3 x hx x (by simp) rfl⟩
 ·rintro ⟨h1, h2⟩
  refine ⟨h1, by simp, fun a ha b hb e => ?_⟩
  rw [List.mem_singleton] at hb
  subst hb e
  exact h2 ha
theorem dup_bad {zs : List Int} {k : Nat} (hk : k < zs.length) (h : zs.getD k 0 ∈ zs.take k) : ¬ zs.Nodup := by
 intro hn
 have h2 : (zs.take (k + 1)).Nodup := hn.sublist (List.take_sublist _ _)
 rw [take_snocI hk, nodup_snoc] at h2
 exact h2.2 h
theorem mrk_push {n v : Nat} {W : List Int} (h : v < n) : (mrk n W).set v true = mrk n (W ++ [(v : Int)]) := by
 unfold mrk
 refine List.ext_getElem (by simp) fun i h1 h2 => ?_
 rw [List.getElem_set, List.getElem_map, List.getElem_range, List.getElem_map, List.getElem_range]
 by_cases e : v = i
 ·subst e
  rw [if_pos rfl]
  simp
 ·rw [if_neg e]
  congr 1
  rw [List.mem_append, List.mem_singleton]
  apply propext
  constructor
  ·exact Or.inl
  ·rintro (h | h)
   ·exact h
   ·omega
theorem getD_memI {zs : List Int} {k : Nat} (h : k < zs.length) : zs.getD k 0 ∈ zs := by
 rw [List.getD_eq_getElem?_getD, List.getElem?_eq_getElem h]
 exact List.getElem_mem _
set_option maxHeartbeats 1000000 in
theorem areDifferent_any (v : Value) (zs : List Int) (n : Nat) (w : World) (hv : IntsV w v zs) (hl : zs.length ≤ 2000000) (hn : n ≤ 1000000) :
 Calls Tryz.prog 110 #[v, .int .i64 n] w fun e w' => e = .returned (.bool (difB zs n)) ∧ w.grownBy w' none := by
 obtain ⟨i0, hbi, hz0, hz1, hz2⟩ := info_parts info_bool
 have HBI := qd hbi; have HZ0 := qd hz0; have HZ1 := qd hz1; have HZ2 := qd hz2
 have HV := qd hv
 have HWI := qd fun (x : Int) W => within_any x 0 ((n : Int) - 1) W
 obtain ⟨a, c, rfl⟩ := hv.shape
 generalize hm : zs.length = m at *
 have HM := qd hm
 have hwr : IntKind.i64.wrap ((n : Int) - 1) = (n : Int) - 1 := wrap_id (by omega) (by omega)
 clear hbi hz0 hz1 hz2 hv hm
 go_enter Tryz.func110, Tryz.ntmps110
 go_upto_region 3 with (
  at_make
  refine wpList_make_full _ rfl _ _ 123 rfl w.heap.size 4 i0 _ 1 Tryz.underlying123 HBI.out HZ0.out HZ1.out _ _ _ _ n rfl rfl rfl rfl (by rw [HZ2.out]; omega) (by unfold maxLen; omega) (Nat.le_refl _) ?_
  intro w1 hown' hgr'
  have hs0 : Sep w1 [OR boolE (.slice (some ⟨w.heap.size, 0, none⟩) n n) (List.replicate n false), KeepA w] := (Sep.start w).newR hgr' (OwnR.made (E := boolE) falseCells hown')
  have HS := qd hs0
  clear hs0 hown' hgr')
 go_loopw [12] (fun i wr => ∃ k : Nat, k ≤ m ∧ i = .int .i64 k ∧ ((∀ x ∈ zs.take k, 0 ≤ x ∧ x < (n : Int)) ∧ (zs.take k).Nodup) ∧ Sep wr [OR boolE (.slice (some ⟨w.heap.size, 0, none⟩) n n) (mrk n (zs.take k)), KeepA w]) (fun i _ => m - (intOf i).toNat)
 case atStart => exact ⟨0, by omega, rfl, ⟨by simp, by simp⟩, by
  have e : mrk n (zs.take 0) = List.replicate n false := by
   refine List.ext_getElem (by rw [mrk_len, List.length_replicate]) fun i h1 h2 => ?_
   unfold mrk
   simp
  rw [e]; exact HS.out⟩
 case round =>
  obtain ⟨k, hk, rfl, hq, hs⟩ := hrel
  have HQ := qd hq; have HSX := qd hs
  clear hq hs
  by_cases hlt : k < m
  ·have hkz : k < zs.length := by rw [HM.out]; exact hlt
   obtain ⟨b, o, rfl, _, hc0⟩ := (HV.out.carry HSX.out.tl.hd).atD hkz
   have HTK := qd (take_snocI hkz)
   have HDP := qd fun h => dup_bad hkz h
   have HME := qd (getD_memI hkz)
   have hki : (k : Int) < (m : Int) := by omega
   obtain ⟨x, hx⟩ : ∃ x, zs.getD k 0 = x := ⟨_, rfl⟩
   rw [hx] at hc0 HTK HDP HME
   clear hx hkz
   have HWX := qd fun W => HWI.out x W
   by_cases hr : 0 ≤ x ∧ x ≤ (n : Int) - 1
   ·rw [decide_eq_true hr] at HWX
    obtain ⟨u, rfl⟩ : ∃ u : Nat, x = u := ⟨x.toNat, by omega⟩
    have hun : u < n := by omega
    have hcb := bool_cell HSX.out.hd (mrk_len n _).symm hun
    rw [mrk_at hun] at hcb
    have hfr := bool_free HSX.out.hd (mrk_len n _).symm u
    have hset := HSX.out.setBo (mrk_len n _).symm hun true
    rw [mrk_push hun, ← HTK.out] at hset
    have HSET := qd hset
    have hui : (u : Int) < (n : Int) := by omega
    clear hset hr
    by_cases hmem : (u : Int) ∈ zs.take k
    ·rw [decide_eq_true hmem] at hcb
     have HF := qd (dif_no (zs := zs) (n := n) fun h => HDP.out hmem h.2)
     have HK := qd (show w.grownBy wr none from HSX.out.tl.hd)
     clear hmem HSET
     go_wp2_with (
      go_at_call 84
      with_reducible refine (HWX.out _).mono ?_
      rintro e w3 ⟨rfl, rfl⟩)
     go_ret
     exact ⟨by rw [HF.out]; rfl, HK.out⟩
    ·rw [decide_eq_false hmem] at hcb
     have HNX := qd (show (∀ x ∈ zs.take (k + 1), 0 ≤ x ∧ x < (n : Int)) ∧ (zs.take (k + 1)).Nodup from by
      rw [HTK.out]
      refine ⟨fun y hy => ?_, nodup_snoc.2 ⟨HQ.out.2, hmem⟩⟩
      rcases List.mem_append.1 hy with h | h
      ·exact HQ.out.1 y h
      ·rw [List.mem_singleton] at h; omega)
     clear hmem
     go_wp2_with (
      go_at_call 84
      with_reducible refine (HWX.out _).mono ?_
      rintro e w3 ⟨rfl, rfl⟩)
     go_roundw
     case rel => exact ⟨k + 1, by omega, by go_num, HNX.out, HSET.out⟩
     case measure => simp [intOf]; omega
   ·rw [decide_eq_false hr] at HWX
    have HF := qd (dif_no (zs := zs) (n := n) fun h => hr (by have := h.1 x HME.out; omega))
    have HK := qd (show w.grownBy wr none from HSX.out.tl.hd)
    clear hr
    go_wp2_with (
     go_at_call 84
     with_reducible refine (HWX.out _).mono ?_
     rintro e w3 ⟨rfl, rfl⟩)
    go_ret
    exact ⟨by rw [HF.out]; rfl, HK.out⟩
  ·have hkm : k = m := by omega
   subst hkm
   have HF := qd (dif_iff (zs := zs) (n := n).2 (by have h := HQ.out; rwa [List.take_of_length_le (by rw [HM.out]; omega)] at h))
   have HK := qd (show w.grownBy wr none from HSX.out.tl.hd)
   have hkk : ¬ (k : Int) < (k : Int) := by omega
   clear hlt
   go_wp2_with fail
   go_ret
   exact ⟨by rw [HF.out]; rfl, HK.out⟩
theorem l1Has_r (v : Value) (zs : List Int) (x : Int) (w : World) (hv : IntsV w v zs) (hl : zs.length ≤ 2000000) :
 Calls Tryz.prog 60 #[v, .int .i64 x] w fun e w' => e = .returned (.bool (decide (x ∈ zs))) ∧ w = w' := by
 have HV := qd hv
 obtain ⟨a, c, rfl⟩ := hv.shape
 generalize hm : zs.length = m at *
 have HM := qd hm
 clear hv hm
 go_enter Tryz.func60, Tryz.ntmps60
 go_wp2_with fail
 go_loop [6, 9] (fun _ i => ∃ k : Nat, k ≤ m ∧ i = .int .i64 k ∧ ∀ j, j < k → zs.getD j 0 ≠ x) (fun _ i => m - (intOf i).toNat)
 case atStart => exact ⟨0, by omega, rfl, fun j hj => absurd hj (Nat.not_lt_zero _)⟩
 case round =>
  obtain ⟨k, hk, rfl, hne⟩ := hrel
  have HNE := qd hne
  clear hne
  by_cases hlt : k < m
  ·have hkz : k < zs.length := by rw [HM.out]; exact hlt
   obtain ⟨b, o, rfl, _, hc0⟩ := HV.out.atD hkz
   have HZ := qd (show zs.getD k 0 ∈ zs from getD_memI hkz)
   have hki : (k : Int) < (m : Int) := by omega
   by_cases he : zs.getD k 0 = x
   ·rw [he] at hc0 HZ
    go_wp2_with fail
    go_ret
    exact ⟨by rw [show decide (x ∈ zs) = true from decide_eq_true HZ.out]; rfl, rfl⟩
   ·have HE := qd he
    generalize hy : zs.getD k 0 = y at *
    have HY := qd hy
    clear hy
    go_wp2_with fail
    go_round
    case rel => exact ⟨k + 1, by omega, by go_num, fun j hj => by
     by_cases e : j = k
     ·subst e; rw [HY.out]; exact HE.out
     ·exact HNE.out j (by omega)⟩
    case measure => simp [intOf]; omega
  ·have hkm : k = m := by omega
   subst hkm
   have hki : ¬ (k : Int) < (k : Int) := by omega
   clear hlt
   go_wp2_with fail
   go_ret
   have hn : ¬ x ∈ zs := by
    intro hx
    obtain ⟨i, hi, he⟩ := List.getElem_of_mem hx
    have := HNE.out i (by rw [← HM.out]; exact hi)
    rw [List.getD_eq_getElem?_getD, List.getElem?_eq_getElem hi] at this
    exact this he
   exact ⟨by rw [show decide (x ∈ zs) = false from decide_eq_false hn]; rfl, rfl⟩
theorem ints_takeR {w : World} {a : Option Addr} {n c c' : Nat} {zs : List Int} (h : IntsV w (.slice a n c) zs) {k : Nat} (hk : k ≤ zs.length) : IntsV w (.slice a k c') (zs.take k) := by
 obtain ⟨a0, c0, he, hi⟩ := h
 cases he
 refine ⟨a, c', by rw [List.length_take, Nat.min_eq_left hk], fun hz => ?_⟩
 obtain ⟨d, had, hs, hd, hr⟩ := hi (fun e => hz (by rw [e]; simp))
 refine ⟨d, had, hs, hd, fun i hi' => ?_⟩
 have h2 : i < zs.length := by rw [List.length_take] at hi'; omega
 rw [List.getElem_take]
 exact hr i h2
set_option maxHeartbeats 1000000 in
theorem mtDifferent_any (a : Option Addr) (m c : Nat) (zs : List Int) (n : Nat) (w : World) (hv : IntsV w (.slice a m c) zs) (hmz : zs.length = m) (hc : m ≤ c) (hl : m ≤ 2000000) (hn : n ≤ 1000000) :
 Calls Tryz.prog 101 #[.slice a m c, .int .i64 n] w fun e w' => e = .returned (.bool (difB zs n)) ∧ w = w' := by
 have HV := qd hv
 have HWI := qd fun (x : Int) W => l1In_any x 0 ((n : Int) - 1) W
 have HM := qd hmz
 have HH := qd fun (k : Nat) (hk : k ≤ m) (x : Int) => l1Has_r (.slice a k c) (zs.take k) x w (ints_takeR hv (by omega)) (by rw [List.length_take]; omega)
 have hwr : IntKind.i64.wrap ((n : Int) - 1) = (n : Int) - 1 := wrap_id (by omega) (by omega)
 clear hv hmz
 go_enter Tryz.func101, Tryz.ntmps101
 go_upto_region 2 with fail
 go_loop [9] (fun i => ∃ k : Nat, k ≤ m ∧ i = .int .i64 k ∧ ((∀ x ∈ zs.take k, 0 ≤ x ∧ x < (n : Int)) ∧ (zs.take k).Nodup)) (fun i => m - (intOf i).toNat)
 case atStart => exact ⟨0, by omega, rfl, by simp, by simp⟩
 case round =>
  obtain ⟨k, hk, rfl, hq⟩ := hrel
  have HQ := qd hq
  clear hq
  by_cases hlt : k < m
  ·have hkz : k < zs.length := by rw [HM.out]; exact hlt
   obtain ⟨b, o, rfl, _, hc0⟩ := HV.out.atD hkz
   have HTK := qd (take_snocI hkz)
   have HDP := qd fun h => dup_bad hkz h
   have HME := qd (getD_memI hkz)
   have hki : (k : Int) < (m : Int) := by omega
   have hk0 : (0 : Int) ≤ (k : Int) := by omega
   have hkc : (k : Int) ≤ (c : Int) := by omega
   have hkc2 : k ≤ c := by omega
   obtain ⟨x, hx⟩ : ∃ x, zs.getD k 0 = x := ⟨_, rfl⟩
   rw [hx] at hc0 HTK HDP HME
   clear hx hkz
   have HWX := qd fun W => HWI.out x W
   have HHX := qd (HH.out k hk x)
   by_cases hr : 0 ≤ x ∧ x ≤ (n : Int) - 1
   ·rw [decide_eq_true hr] at HWX
    by_cases hmem : x ∈ zs.take k
    ·rw [decide_eq_true hmem] at HHX
     have HF := qd (dif_no (zs := zs) (n := n) fun h => HDP.out hmem h.2)
     clear hmem hr
     go_wp2_with (first
      |(go_at_call 91
        with_reducible refine (HWX.out _).mono ?_
        rintro e w3 ⟨rfl, rfl⟩)
      |(go_at_call 60
        with_reducible refine HHX.out.mono ?_
        rintro e w4 ⟨rfl, rfl⟩))
     go_ret
     exact ⟨by rw [HF.out]; rfl, rfl⟩
    ·rw [decide_eq_false hmem] at HHX
     have HNX := qd (show (∀ x ∈ zs.take (k + 1), 0 ≤ x ∧ x < (n : Int)) ∧ (zs.take (k + 1)).Nodup from by
      rw [HTK.out]
      refine ⟨fun y hy => ?_, nodup_snoc.2 ⟨HQ.out.2, hmem⟩⟩
      rcases List.mem_append.1 hy with h | h
      ·exact HQ.out.1 y h
      ·rw [List.mem_singleton] at h; omega)
     clear hmem hr
     go_wp2_with (first
      |(go_at_call 91
        with_reducible refine (HWX.out _).mono ?_
        rintro e w3 ⟨rfl, rfl⟩)
      |(go_at_call 60
        with_reducible refine HHX.out.mono ?_
        rintro e w4 ⟨rfl, rfl⟩))
     go_round
     case rel => exact ⟨k + 1, by omega, by go_num, HNX.out⟩
     case measure => simp [intOf]; omega
   ·rw [decide_eq_false hr] at HWX
    have HF := qd (dif_no (zs := zs) (n := n) fun h => hr (by have := h.1 x HME.out; omega))
    clear hr
    go_wp2_with (
     go_at_call 91
     with_reducible refine (HWX.out _).mono ?_
     rintro e w3 ⟨rfl, rfl⟩)
    go_ret
    exact ⟨by rw [HF.out]; rfl, rfl⟩
  ·have hkm : k = m := by omega
   subst hkm
   have HF := qd (dif_iff (zs := zs) (n := n).2 (by have h := HQ.out; rwa [List.take_of_length_le (by rw [HM.out]; omega)] at h))
   have hkk : ¬ (k : Int) < (k : Int) := by omega
   clear hlt
   go_wp2_with fail
   go_ret
   exact ⟨by rw [HF.out]; rfl, rfl⟩
theorem lists_sameR {α : Type} {x y : List α} {d : α} {l : Nat} (h1 : x.length = l) (h2 : y.length = l) (h : ∀ j, j < l → x.getD j d = y.getD j d) : x = y := by
 refine List.ext_getElem (by omega) fun j a b => ?_
 have := h j (by omega)
 rw [List.getD_eq_getElem?_getD, List.getElem?_eq_getElem a, List.getD_eq_getElem?_getD, List.getElem?_eq_getElem b] at this
 exact this
theorem slEqualR_any (v1 v2 : Value) (x y : List Int) (w : World) (h1 : IntsV w v1 x) (h2 : IntsV w v2 y) (l1 : x.length ≤ 1000000) (l2 : y.length ≤ 1000000) :
 Calls Tryz.prog 143 #[v1, v2] w fun e w' => e = .returned (.bool (decide (x = y))) ∧ w.grownBy w' none := by
 obtain ⟨a1, c1, rfl⟩ := h1.shape
 obtain ⟨a2, c2, rfl⟩ := h2.shape
 have R1 := qd h1; have R2 := qd h2
 clear h1 h2
 by_cases hl : x.length = y.length
 ·generalize hlx : x.length = l at *
  have HLX := qd hlx; have HLY := qd hl.symm
  rw [HLY.out] at R2 ⊢
  clear hlx hl
  go_enter Tryz.func143, Tryz.ntmps143
  go_wp2
  go_loopw [13] (fun i wr => ∃ k : Nat, k ≤ l ∧ i = .int .i64 k ∧ (∀ j, j < k → x.getD j 0 = y.getD j 0) ∧ w.grownBy wr none) (fun i _ => l - (intOf i).toNat)
  case atStart => exact ⟨0, by omega, rfl, fun _ h => absurd h (by omega), grownBy_refl _ _⟩
  case round =>
   obtain ⟨k, hk, rfl, ho, hg⟩ := hrel
   have HO := qd ho; have HG := qd hg
   clear ho hg
   by_cases hlt : k < l
   ·have hkx : k < x.length := by rw [HLX.out]; exact hlt
    have hky : k < y.length := by rw [HLY.out]; exact hlt
    obtain ⟨b1, o1, rfl⟩ := IntsV.addr R1.out (by omega)
    have p0 := (R1.out.carry HG.out).cellN hkx
    obtain ⟨b2, o2, rfl⟩ := IntsV.addr R2.out (by omega)
    have q0 := (R2.out.carry HG.out).cellN hky
    by_cases he : x.getD k 0 = y.getD k 0
    ·have HE := qd (show ∀ j, j = k → x.getD j 0 = y.getD j 0 from fun j e => by rw [e]; exact he)
     rw [← he] at q0
     clear he hkx hky
     generalize x.getD k 0 = g at *
     go_wp2
     go_quiet (fail)
     go_wp2
     go_roundw
     case rel => exact ⟨k + 1, by omega, by go_num, fun j hj => by
      by_cases hjk : j = k
      ·exact HE.out j hjk
      ·exact HO.out j (by omega), ⟨HG.out.os, HG.out.tape, HG.out.output, HG.out.size, HG.out.block⟩⟩
     case measure => simp [intOf]; omega
    ·have hne : (x.getD k 0 != y.getD k 0) = true := by rw [bne_iff_ne]; exact he
     have hfin : decide (x = y) = false := decide_eq_false fun e => he (by rw [e])
     have HF := qd hfin
     clear hfin he hkx hky
     generalize x.getD k 0 = g at *
     generalize y.getD k 0 = h at *
     go_wp2
     go_quiet (fail)
     go_wp2
     go_ret
     exact ⟨by rw [HF.out]; rfl, ⟨HG.out.os, HG.out.tape, HG.out.output, HG.out.size, HG.out.block⟩⟩
   ·have hfin : decide (x = y) = true := decide_eq_true (lists_sameR HLX.out HLY.out fun j hj => HO.out j (by omega))
    have HF := qd hfin
    clear hfin
    go_wp2
    go_ret
    exact ⟨by rw [HF.out]; rfl, HG.out⟩
 ·have hfin : decide (x = y) = false := decide_eq_false fun e => hl (by rw [e])
  have HF := qd hfin
  have hli : ((x.length : Int) != (y.length : Int)) = true := by rw [bne_iff_ne]; omega
  clear hfin
  go_enter Tryz.func143, Tryz.ntmps143
  go_wp2
  go_ret
  exact ⟨by rw [HF.out]; rfl, grownBy_refl _ _⟩
theorem Ed.extR {x y : Ed} (h1 : x.k = y.k) (h2 : x.v = y.v) (h3 : x.i = y.i) (h4 : x.o = y.o) : x = y := by
 cases x; cases y; simp_all
noncomputable def edEq (e f : Ed) : Bool := tst (e = f)
theorem edEq_eq (e f : Ed) : edEq e f = (decide (e.k = f.k) && (decide (e.v = f.v) && (decide (e.i = f.i) && decide (e.o = f.o)))) := by
 rw [Bool.eq_iff_iff]
 unfold edEq
 rw [tst_iff]
 simp only [Bool.and_eq_true, decide_eq_true_iff]
 constructor
 ·rintro rfl; exact ⟨rfl, rfl, rfl, rfl⟩
 ·rintro ⟨h1, h2, h3, h4⟩; exact Ed.extR h1 h2 h3 h4
set_option maxHeartbeats 2000000 in
theorem equalEdges_any (e f : Ed) (iv ov iv' ov' : Value) (w : World) (hi : IntsV w iv e.i) (ho : IntsV w ov e.o) (hi' : IntsV w iv' f.i) (ho' : IntsV w ov' f.o) (l1 : e.i.length ≤ 1000000) (l2 : e.o.length ≤ 1000000) (l3 : f.i.length ≤ 1000000) (l4 : f.o.length ≤ 1000000) :
 Calls Tryz.prog 111 #[.agg #[.int .i64 e.k, .int .i64 e.v, iv, ov], .agg #[.int .i64 f.k, .int .i64 f.v, iv', ov']] w fun x w' => x = .returned (.bool (edEq e f)) ∧ w.grownBy w' none := by
 rw [edEq_eq]
 have HI := qd fun W (h : w.grownBy W none) => slEqualR_any iv iv' e.i f.i W (hi.carry h) (hi'.carry h) l1 l3
 have HO := qd fun W (h : w.grownBy W none) => slEqualR_any ov ov' e.o f.o W (ho.carry h) (ho'.carry h) l2 l4
 obtain ⟨a1, c1, rfl⟩ := hi.shape
 obtain ⟨a2, c2, rfl⟩ := ho.shape
 obtain ⟨a3, c3, rfl⟩ := hi'.shape
 obtain ⟨a4, c4, rfl⟩ := ho'.shape
 obtain ⟨ek, ev, ei, eo⟩ := e
 obtain ⟨fk, fv, fi, fo⟩ := f
 simp only at *
 generalize decide (ei = fi) = bi at *
 generalize decide (eo = fo) = bo at *
 generalize ei.length = n1 at *
 generalize eo.length = n2 at *
 generalize fi.length = n3 at *
 generalize fo.length = n4 at *
 have HS0 := qd (((Sep.start w).boxAt w.heap.size rfl #[.int .i64 ek, .int .i64 ev, .slice a1 n1 c1, .slice a2 n2 c2] 104).boxAt (w.heap.size + 1) (by simp) #[.int .i64 fk, .int .i64 fv, .slice a3 n3 c3, .slice a4 n4 c4] 104)
 have HK0 := qd (show w.grownBy _ none from HS0.out.tl.tl.hd)
 obtain ⟨x0, x1, x2, x3, _⟩ := gq4 HS0.out.tl.hd
 obtain ⟨y0, y1, y2, y3, _⟩ := gq4 HS0.out.hd
 clear hi ho hi' ho' l1 l2 l3 l4
 rw [show decide (ek = fk) = (ek == fk) from by rw [Bool.eq_iff_iff]; simp, show decide (ev = fv) = (ev == fv) from by rw [Bool.eq_iff_iff]; simp]
 cases h1 : (ek == fk) <;> cases h2 : (ev == fv) <;> cases bi <;> cases bo
 all_goals
  go_enter Tryz.func111, Tryz.ntmps111
  go_wp2_with (first
   |(go_at_call 143
     go_loud (with_reducible refine (HI.out _ HK0.out).mono ?_)
     rintro e w3 ⟨rfl, hg⟩
     have HS1 := qd (HS0.out.grown hg)
     have HK1 := qd (show w.grownBy _ none from HS1.out.tl.tl.hd)
     clear hg x0 x1 x2 x3 y0 y1 y2 y3
     obtain ⟨x0, x1, x2, x3, _⟩ := gq4 HS1.out.tl.hd
     obtain ⟨y0, y1, y2, y3, _⟩ := gq4 HS1.out.hd)
   |(go_at_call 143
     with_reducible refine (HO.out _ HK1.out).mono ?_
     rintro e w4 ⟨rfl, hg⟩
     have HK2 := qd (grownBy_trans HK1.out hg)
     clear hg))
  go_ret
  first
   | exact ⟨rfl, HK2.out⟩
   | exact ⟨rfl, HK1.out⟩
   | exact ⟨rfl, HK0.out⟩
end Go.Proofs.YtjagjhchnpmngaaGreat

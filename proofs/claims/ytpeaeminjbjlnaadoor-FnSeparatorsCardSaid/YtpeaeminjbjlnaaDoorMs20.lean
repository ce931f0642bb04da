/-
  Drawn vectors for a space. Conditions: small sizes.
-/
import Derived.Test.YtpeaeminjbjlnaaDoorMs19
import Derived.Test.YtpeaeminjbjlnaaDoorMs18
import Derived.Deep.CutRange
namespace Go.Proofs.YtpeaeminjbjlnaaDoor
open Go.RowKit
set_option linter.unusedVariables false

def DVec (N b : Nat) (n : Int) (w : World) (e : Ending) (w' : World) : Prop :=
  ∃ (o : Value) (zs : List Int), e = .returned o ∧ OwnInts w.heap.size w' o zs ∧ zs.length ≤ 1000 ∧ Bd.Cur N w' b n ∧ w.grownBy w' (some b)
theorem fin_vec {N b s : Nat} {m n : Int} {w W : World} {o : Value} {zs : List Int} {cs : Array Value} {t : TypeId} (h : Sep W [OI o zs, CA N b m, BxA s cs t, KeepX w b]) (hm : m ≤ n) (hz : zs.length ≤ 1000) : DVec N b n w (.returned o) W := by
  have h2 := h.s3.tl
  exact ⟨o, zs, rfl, h2.intsX, hz, h2.s2.hd.mono hm, h2.s3.hd⟩
set_option maxRecDepth 100000 in
set_option maxHeartbeats 2000000 in
theorem vectorFor_any {N : Nat} (p : Int) (c : Nat) (o : Value) (vs : List Value) (L : List (List Int)) (b B : Nat) (n : Int) (w : World) (hp : -1000 ≤ p) (hp2 : p ≤ 1000) (hc : Bd.Cur N w b n) (ho : OwnM B w o vs L) (hbB : b < B) (hcs : c ≤ 100) (hl : L.length ≤ 1000) (hll : ∀ row ∈ L, row.length ≤ 1000) (hn : n + 20000000 ≤ 1000000000000) :
    Calls Tryd.prog 279 #[.pointer (some ⟨b, 0, none⟩), .int .i64 p, mxV c o] w (DVec N b (n + 20000000) w) := by
  have HM := Lib.hid fun W (hg : w.grownBy W (some b)) => (ho.only (Only.of_grown (S := (· = b)) hg fun k hk => (Option.some.inj hk).symm) (fun k hk hk' => by have h1 := (ho.lt hk).1; have h2 : k = b := hk'; omega)).read
  obtain ⟨oa, oc, hoe, _, _⟩ := own_form ho
  subst hoe
  have HS := Lib.hid (((Sep.startX hc).box #[.int .i64 c, .slice oa L.length oc] 74).s2)
  have HG := Lib.hid fun w' => fdGood_any p w' hp hp2
  have hmo := fun w1 => l1Most_any 0 (c : Int) w1
  rw [show max 0 (c : Int) = c by omega] at hmo
  have HMO := Lib.hid hmo
  have HR := Lib.hid fun W (hg : w.grownBy W (some b)) => spRows_any p c _ L W (HM.out W hg) (by omega) (fun row hr => by have := hll row hr; omega) hp hp2
  unfold mxV
  clear hc hmo ho hll
  generalize hlen : L.length = l at *
  have HLEN := Lib.hid hlen
  clear hlen
  cases hf : fldB p
  · rw [hf] at HG
    clear hf
    go_enter Tryd.func279, Tryd.ntmps279
    go_wp2_with (first
      | (go_at_call 189; with_reducible refine (HMO.out _).mono ?_; rintro e w' ⟨rfl, rfl⟩)
      | (go_at_call 206; with_reducible refine (HG.out _).mono ?_; rintro e w' ⟨rfl, rfl⟩)
      | (go_at_call 175
         refine (elems_any p c b _ _ HS.out.hd (by omega) (by omega) (by omega) (by omega)).mono ?_
         rintro e w1 ⟨o1, zs, rfl, ho1, hz, hok, c1, g1⟩
         have HS9 := Lib.hid (HS.out.drawI c1 g1 ho1)
         have HZ := Lib.hid (show zs.length = c by omega)
         obtain ⟨oa1, oc1, rfl⟩ := own_shape ho1
         clear ho1 hz hok c1 g1))
    have hzc := HZ.out
    generalize hzl : zs.length = zl at *
    subst hzc
    have HZL := Lib.hid hzl
    clear hzl HZ
    refine (Bd.pick_any 24 b _ _ HS9.out.s2.hd (by omega) (by omega)).mono ?_
    rintro e w3 ⟨x, rfl, ⟨x0, x1⟩, c3, g3⟩
    have HS3 := Lib.hid (HS9.out.s2.draw c3 g3).s2
    clear c3 g3
    by_cases h0 : x = 0
    · subst h0
      go_wp2_with (
        at_builtin
        refine app_intS rfl _ _ rfl rfl rfl HS3.out (by have := HZL.out; omega) ?_
        intro g2 cap2 w8 hs8
        have HS8 := Lib.hid hs8
        clear hs8)
      go_ret
      exact fin_vec HS8.out (by omega) (by have := HZL.out; simp; omega)
    · by_cases h1 : x = 1
      · subst h1
        by_cases hz0 : zl = 0
        · subst hz0
          go_wp2
          go_ret
          exact fin_vec HS3.out (by omega) (by have := HZL.out; omega)
        · have hz1 : (0 : Int) < (zl : Int) := by omega
          obtain ⟨g, gc, hge, _, _, _⟩ := HS3.out.hd.parts (by intro h; have := HZL.out; rw [h] at this; simp at this; omega)
          rw [HZL.out] at hge
          cases hge
          go_wp2_with (first
            | (go_at_call 131
               go_loud (refine (Bd.pick_any zl b _ _ HS3.out.s2.hd (by omega) (by omega)).mono ?_)
               rintro e w5 ⟨k, rfl, ⟨hk0, hk1⟩, c5, g5⟩
               obtain ⟨k, rfl⟩ := Int.eq_ofNat_of_zero_le hk0
               have hkl : k < zl := by omega
               have hki : (k : Int) < (zl : Int) := by omega
               have HS5 := Lib.hid (HS3.out.s2.draw c5 g5)
               clear c5 g5 hk1)
            | (go_at_call 203
               go_loud (refine (Bd.anyElem_any _ b _ _ HS5.out.hd (by omega) (by omega) (by omega)).mono ?_)
               rintro e w7 ⟨z, rfl, hz, c7, g7⟩
               have hs8 := (HS5.out.draw c7 g7).s2
               have hc := hs8.hd.cell HZL.out.symm (show k < zs.length by rw [HZL.out]; exact hkl)
               have hfr := hs8.hd.free HZL.out.symm k
               have HP := Lib.hid (hs8.setI HZL.out.symm k z)
               obtain ⟨old, hold⟩ : ∃ old, old = zs[k]'(by rw [HZL.out]; exact hkl) := ⟨_, rfl⟩
               rw [← hold] at hc
               clear c7 g7 hz hs8 hold))
          go_ret
          exact fin_vec HP.out (by omega) (by have := HZL.out; simp; omega)
      · go_wp2
        go_ret
        exact fin_vec HS3.out (by omega) (by have := HZL.out; omega)
  · obtain ⟨b1, b2⟩ := fldB_bd hf
    obtain ⟨q, rfl⟩ := Int.eq_ofNat_of_zero_le (show 0 ≤ p by omega)
    haveI : NeZero q := ⟨by omega⟩
    rw [hf] at HG
    clear hf
    cases hr : rowsB (q : Int) c L
    · rw [hr] at HR
      clear hr
      go_enter Tryd.func279, Tryd.ntmps279
      go_wp2_with (first
        | (go_at_call 189; with_reducible refine (HMO.out _).mono ?_; rintro e w' ⟨rfl, rfl⟩)
        | (go_at_call 206; with_reducible refine (HG.out _).mono ?_; rintro e w' ⟨rfl, rfl⟩)
        | (go_at_call 207; with_reducible refine (HR.out _ HW.out).mono ?_; rintro e w' ⟨rfl, rfl⟩)
        | (go_at_call 175
           refine (elems_any q c b _ _ HS.out.hd (by omega) (by omega) (by omega) (by omega)).mono ?_
           rintro e w1 ⟨o1, zs, rfl, ho1, hz, hok, c1, g1⟩
           have HS9 := Lib.hid (HS.out.drawI c1 g1 ho1)
           have HZ := Lib.hid (show zs.length = c by omega)
           obtain ⟨oa1, oc1, rfl⟩ := own_shape ho1
           obtain ⟨x0, x1, x2, x3⟩ := bx HS9.out.s3.hd
           have HW := Lib.hid (show w.grownBy w1 (some b) from HS9.out.s4.hd)
           clear ho1 hz hok c1 g1))
      have hzc := HZ.out
      generalize hzl : zs.length = zl at *
      subst hzc
      have HZL := Lib.hid hzl
      clear hzl HZ
      refine (Bd.pick_any 24 b _ _ HS9.out.s2.hd (by omega) (by omega)).mono ?_
      rintro e w3 ⟨x, rfl, ⟨x0, x1⟩, c3, g3⟩
      have HS3 := Lib.hid (HS9.out.s2.draw c3 g3).s2
      clear c3 g3
      by_cases h0 : x = 0
      · subst h0
        go_wp2_with (
          at_builtin
          refine app_intS rfl _ _ rfl rfl rfl HS3.out (by have := HZL.out; omega) ?_
          intro g2 cap2 w8 hs8
          have HS8 := Lib.hid hs8
          clear hs8)
        go_ret
        exact fin_vec HS8.out (by omega) (by have := HZL.out; simp; omega)
      · by_cases h1 : x = 1
        · subst h1
          by_cases hz0 : zl = 0
          · subst hz0
            go_wp2
            go_ret
            exact fin_vec HS3.out (by omega) (by have := HZL.out; omega)
          · have hz1 : (0 : Int) < (zl : Int) := by omega
            obtain ⟨g, gc, hge, _, _, _⟩ := HS3.out.hd.parts (by intro h; have := HZL.out; rw [h] at this; simp at this; omega)
            rw [HZL.out] at hge
            cases hge
            go_wp2_with (first
              | (go_at_call 131
                 go_loud (refine (Bd.pick_any zl b _ _ HS3.out.s2.hd (by omega) (by omega)).mono ?_)
                 rintro e w5 ⟨k, rfl, ⟨hk0, hk1⟩, c5, g5⟩
                 obtain ⟨k, rfl⟩ := Int.eq_ofNat_of_zero_le hk0
                 have hkl : k < zl := by omega
                 have hki : (k : Int) < (zl : Int) := by omega
                 have HS5 := Lib.hid (HS3.out.s2.draw c5 g5)
                 clear c5 g5 hk1)
              | (go_at_call 203
                 go_loud (refine (Bd.anyElem_any _ b _ _ HS5.out.hd (by omega) (by omega) (by omega)).mono ?_)
                 rintro e w7 ⟨z, rfl, hz, c7, g7⟩
                 have hs8 := (HS5.out.draw c7 g7).s2
                 have hc := hs8.hd.cell HZL.out.symm (show k < zs.length by rw [HZL.out]; exact hkl)
                 have hfr := hs8.hd.free HZL.out.symm k
                 have HP := Lib.hid (hs8.setI HZL.out.symm k z)
                 obtain ⟨old, hold⟩ : ∃ old, old = zs[k]'(by rw [HZL.out]; exact hkl) := ⟨_, rfl⟩
                 rw [← hold] at hc
                 clear c7 g7 hz hs8 hold))
            go_ret
            exact fin_vec HP.out (by omega) (by have := HZL.out; simp; omega)
        · go_wp2
          go_ret
          exact fin_vec HS3.out (by omega) (by have := HZL.out; omega)
    · rw [hr] at HR
      have HROK := Lib.hid (rowsB_ok.1 hr)
      clear hr
      go_enter Tryd.func279, Tryd.ntmps279
      go_wp2_with (first
        | (go_at_call 189; with_reducible refine (HMO.out _).mono ?_; rintro e w' ⟨rfl, rfl⟩)
        | (go_at_call 206; with_reducible refine (HG.out _).mono ?_; rintro e w' ⟨rfl, rfl⟩)
        | (go_at_call 207; with_reducible refine (HR.out _ HW.out).mono ?_; rintro e w' ⟨rfl, rfl⟩)
        | (go_at_call 175
           refine (elems_any q c b _ _ HS.out.hd (by omega) (by omega) (by omega) (by omega)).mono ?_
           rintro e w1 ⟨o1, zs, rfl, ho1, hz, hok, c1, g1⟩
           have HS9 := Lib.hid (HS.out.drawI c1 g1 ho1)
           have HZ := Lib.hid (show zs.length = c by omega)
           obtain ⟨oa1, oc1, rfl⟩ := own_shape ho1
           obtain ⟨x0, x1, x2, x3⟩ := bx HS9.out.s3.hd
           have HW := Lib.hid (show w.grownBy w1 (some b) from HS9.out.s4.hd)
           clear ho1 hz hok c1 g1))
      refine (Bd.one_any 2 b _ _ HS9.out.s2.hd (by omega) (by omega)).mono ?_
      rintro e w2 ⟨bv, rfl, c2, g2⟩
      have HS10 := Lib.hid (HS9.out.s2.draw c2 g2).s2
      clear c2 g2 HS9
      cases bv
      · have HS9 := HS10
        clear HS10
        go_wp2_with fail
        have hzc := HZ.out
        generalize hzl : zs.length = zl at *
        subst hzc
        have HZL := Lib.hid hzl
        clear hzl HZ
        refine (Bd.pick_any 24 b _ _ HS9.out.s2.hd (by omega) (by omega)).mono ?_
        rintro e w3 ⟨x, rfl, ⟨x0, x1⟩, c3, g3⟩
        have HS3 := Lib.hid (HS9.out.s2.draw c3 g3).s2
        clear c3 g3
        by_cases h0 : x = 0
        · subst h0
          go_wp2_with (
            at_builtin
            refine app_intS rfl _ _ rfl rfl rfl HS3.out (by have := HZL.out; omega) ?_
            intro g2 cap2 w8 hs8
            have HS8 := Lib.hid hs8
            clear hs8)
          go_ret
          exact fin_vec HS8.out (by omega) (by have := HZL.out; simp; omega)
        · by_cases h1 : x = 1
          · subst h1
            by_cases hz0 : zl = 0
            · subst hz0
              go_wp2
              go_ret
              exact fin_vec HS3.out (by omega) (by have := HZL.out; omega)
            · have hz1 : (0 : Int) < (zl : Int) := by omega
              obtain ⟨g, gc, hge, _, _, _⟩ := HS3.out.hd.parts (by intro h; have := HZL.out; rw [h] at this; simp at this; omega)
              rw [HZL.out] at hge
              cases hge
              go_wp2_with (first
                | (go_at_call 131
                   go_loud (refine (Bd.pick_any zl b _ _ HS3.out.s2.hd (by omega) (by omega)).mono ?_)
                   rintro e w5 ⟨k, rfl, ⟨hk0, hk1⟩, c5, g5⟩
                   obtain ⟨k, rfl⟩ := Int.eq_ofNat_of_zero_le hk0
                   have hkl : k < zl := by omega
                   have hki : (k : Int) < (zl : Int) := by omega
                   have HS5 := Lib.hid (HS3.out.s2.draw c5 g5)
                   clear c5 g5 hk1)
                | (go_at_call 203
                   go_loud (refine (Bd.anyElem_any _ b _ _ HS5.out.hd (by omega) (by omega) (by omega)).mono ?_)
                   rintro e w7 ⟨z, rfl, hz, c7, g7⟩
                   have hs8 := (HS5.out.draw c7 g7).s2
                   have hc := hs8.hd.cell HZL.out.symm (show k < zs.length by rw [HZL.out]; exact hkl)
                   have hfr := hs8.hd.free HZL.out.symm k
                   have HP := Lib.hid (hs8.setI HZL.out.symm k z)
                   obtain ⟨old, hold⟩ : ∃ old, old = zs[k]'(by rw [HZL.out]; exact hkl) := ⟨_, rfl⟩
                   rw [← hold] at hc
                   clear c7 g7 hz hs8 hold))
              go_ret
              exact fin_vec HP.out (by omega) (by have := HZL.out; simp; omega)
          · go_wp2
            go_ret
            exact fin_vec HS3.out (by omega) (by have := HZL.out; omega)
      · clear x0 x1 x2 x3 HW HZ
        have HS10 := Lib.hid HS10.out.tl
        generalize w.heap.size = s at *
        have XF := Lib.hid fun W m (h : Sep W [CA N b m, BxA s #[.int .i64 c, .slice oa l oc] 74, KeepX w b]) => (bx h.s2.hd).2.1
        have X0 := Lib.hid (XF.out _ _ HS10.out.dr)
        have HC := Lib.hid (show Bd.Cur N w2.drew b _ from HS10.out.dr.hd)
        go_wp2_with fail
        go_region_held3 (fun w' => w'.cell? ⟨s, 1, none⟩ = some (.slice oa l oc))
          (first | with_reducible exact X0.out | with_reducible exact X3.out | with_reducible exact X4.out)
          (first
            | (go_at_call 175
               with_reducible refine (elems_any q l b _ _ HC.out (by omega) (by omega) (by omega) (by omega)).mono ?_
               rintro e w3 ⟨o1, zs, rfl, ho1, hz, hok, c1, g1⟩
               have HS3 := Lib.hid (HS10.out.dr.drawI c1 g1 ho1)
               have HZ := Lib.hid (show zs.length = l by omega)
               have X3 := Lib.hid (XF.out _ _ HS3.out.tl)
               have HZB := Lib.hid (show ∀ z ∈ zs, 0 ≤ z ∧ z < (q : Int) from fun z hz => by have := hok z hz; omega)
               have HO := Lib.hid ho1.read
               have HW := Lib.hid (show w.grownBy w3 (some b) from HS3.out.s4.hd)
               clear ho1 hz hok c1 g1)
            | (go_at_call 271
               with_reducible refine (spSum_any q c _ _ L zs _ (by omega) (by omega) (HM.out _ HW.out) HO.out HROK.out (by rw [HZ.out, HLEN.out]) HZB.out (by rw [HLEN.out]; omega) (by omega)).mono ?_
               rintro e w4 ⟨o2, rfl, ho2, g2⟩
               have HS9 := Lib.hid (HS3.out.tl.newI g2 ho2)
               have X4 := Lib.hid (XF.out _ _ HS9.out.tl)
               clear ho2 g2))
        have hcl := (combTo_ok (p := q) (x := zs) (by omega) HROK.out L.length (Nat.le_refl _)).1
        obtain ⟨oa1, oc1, hoe⟩ := own_shape HS9.out.hd
        clear HZ HZB HO HS3 HS10
        subst hoe
        generalize combTo q zs L c L.length = zs at *
        have HZ := Lib.hid hcl
        clear hcl
        go_wp2_with fail
        have hzc := HZ.out
        generalize hzl : zs.length = zl at *
        subst hzc
        have HZL := Lib.hid hzl
        clear hzl HZ
        refine (Bd.pick_any 24 b _ _ HS9.out.s2.hd (by omega) (by omega)).mono ?_
        rintro e w3 ⟨x, rfl, ⟨x0, x1⟩, c3, g3⟩
        have HS3 := Lib.hid (HS9.out.s2.draw c3 g3).s2
        clear c3 g3
        by_cases h0 : x = 0
        · subst h0
          go_wp2_with (
            at_builtin
            refine app_intS rfl _ _ rfl rfl rfl HS3.out (by have := HZL.out; omega) ?_
            intro g2 cap2 w8 hs8
            have HS8 := Lib.hid hs8
            clear hs8)
          go_ret
          exact fin_vec HS8.out (by omega) (by have := HZL.out; simp; omega)
        · by_cases h1 : x = 1
          · subst h1
            by_cases hz0 : zl = 0
            · subst hz0
              go_wp2
              go_ret
              exact fin_vec HS3.out (by omega) (by have := HZL.out; omega)
            · have hz1 : (0 : Int) < (zl : Int) := by omega
              obtain ⟨g, gc, hge, _, _, _⟩ := HS3.out.hd.parts (by intro h; have := HZL.out; rw [h] at this; simp at this; omega)
              rw [HZL.out] at hge
              cases hge
              go_wp2_with (first
                | (go_at_call 131
                   go_loud (refine (Bd.pick_any zl b _ _ HS3.out.s2.hd (by omega) (by omega)).mono ?_)
                   rintro e w5 ⟨k, rfl, ⟨hk0, hk1⟩, c5, g5⟩
                   obtain ⟨k, rfl⟩ := Int.eq_ofNat_of_zero_le hk0
                   have hkl : k < zl := by omega
                   have hki : (k : Int) < (zl : Int) := by omega
                   have HS5 := Lib.hid (HS3.out.s2.draw c5 g5)
                   clear c5 g5 hk1)
                | (go_at_call 203
                   go_loud (refine (Bd.anyElem_any _ b _ _ HS5.out.hd (by omega) (by omega) (by omega)).mono ?_)
                   rintro e w7 ⟨z, rfl, hz, c7, g7⟩
                   have hs8 := (HS5.out.draw c7 g7).s2
                   have hc := hs8.hd.cell HZL.out.symm (show k < zs.length by rw [HZL.out]; exact hkl)
                   have hfr := hs8.hd.free HZL.out.symm k
                   have HP := Lib.hid (hs8.setI HZL.out.symm k z)
                   obtain ⟨old, hold⟩ : ∃ old, old = zs[k]'(by rw [HZL.out]; exact hkl) := ⟨_, rfl⟩
                   rw [← hold] at hc
                   clear c7 g7 hz hs8 hold))
              go_ret
              exact fin_vec HP.out (by omega) (by have := HZL.out; simp; omega)
          · go_wp2
            go_ret
            exact fin_vec HS3.out (by omega) (by have := HZL.out; omega)
end Go.Proofs.YtpeaeminjbjlnaaDoor

/-
  The entries that draw spaces and vectors. Conditions: the code is well laid.
-/
namespace Go.Proofs.YtpeaeminjbjlnaaDoor
open Go.RowKit
set_option linter.unusedVariables false

theorem cur_low {w W : World} {cv : Value} (h : CodeAt w cv) (hg : w.grownBy W none) : Bd.Cur w.heap.size (W.alloc (.cells #[cv, .int .i64 0, .int .u64 0] 140)) W.heap.size 0 := by
  obtain ⟨a, len, cap, rfl, hl, hx⟩ := h
  refine ⟨by have := hg.size; simp; omega, a, len, cap, 0, 0, alloc_heap_new _ _, by omega, by omega, hl, fun k hk => ?_⟩
  obtain ⟨d, x, ha, hs', hsp, hc, x0, x1⟩ := hx k hk
  have hs := hg.size
  exact ⟨d, x, ha, fun e => by omega, hs', hsp, (World.cell?_of_block (w := w) (a := ⟨d.block, d.off + k, none⟩) ((alloc_heap_old _ _ _ (Nat.lt_of_lt_of_le hs' hs)).trans (hg.block _ hs' (by simp)))).trans hc, x0, x1⟩
theorem Sep.cur {w W : World} {cv : Value} {l : List Asrt} (h : Sep W l) (hc : CodeAt w cv) (hg : w.grownBy W none) (hl : ∀ C ∈ l, ∀ k, C.foot k → w.heap.size ≤ k) :
    Sep (W.alloc (.cells #[cv, .int .i64 0, .int .u64 0] 140)) (CA w.heap.size W.heap.size 0 :: l) := by
  refine ⟨cur_low hc hg, fun C hC => ⟨fun k hk hk' => ?_, fun k hk hk' => ?_⟩, h.al _⟩
  · have h1 : k = W.heap.size := hk
    have := C.lt _ _ (h.all C hC) hk'; omega
  · have h1 := hl C hC k hk
    have h2 := C.lt _ _ (h.all C hC) (C.sub k hk)
    rcases hk' with h3 | h3 <;> omega
theorem Sep.startD {w : World} {cv : Value} (hc : CodeAt w cv) : Sep (w.alloc (.cells #[cv, .int .i64 0, .int .u64 0] 140)) [CA w.heap.size w.heap.size 0, KeepA w] :=
  (Sep.start w).cur hc ⟨rfl, rfl, rfl, Nat.le_refl _, fun _ _ _ => rfl⟩ fun C hC k hk => by rw [List.mem_singleton] at hC; subst hC; exact hk.elim
theorem Sep.startDB {w : World} {cv : Value} (hc : CodeAt w cv) (cs : Array Value) (t : TypeId) : Sep ((w.alloc (.cells cs t)).alloc (.cells #[cv, .int .i64 0, .int .u64 0] 140)) [CA w.heap.size (w.heap.size + 1) 0, BxA w.heap.size cs t, KeepA w] := by
  have h := ((Sep.start w).box cs t).cur hc (grownBy_alloc w _ none) fun C hC k hk => by
    rcases List.mem_cons.1 hC with rfl | hC
    · have : k = w.heap.size := hk; omega
    · rw [List.mem_singleton] at hC; subst hC; exact hk.elim
  rw [show (w.alloc (.cells cs t)).heap.size = w.heap.size + 1 by simp] at h
  exact h

/-- a drawn number, space and vector -/
def DSV (w : World) (e : Ending) (w' : World) : Prop :=
  ∃ (p c : Int) (o : Value) (vs : List Value) (L : List (List Int)) (u : Value) (zs : List Int), e = .returned (.tuple #[.int .i64 p, mxV c o, u]) ∧ anyP p ∧ 0 ≤ c ∧ c ≤ 25 ∧ OwnM w.heap.size w' o vs L ∧ L.length ≤ 1000 ∧ (∀ row ∈ L, row.length ≤ 1000) ∧ OwnInts w.heap.size w' u zs ∧ zs.length ≤ 1000 ∧ w.grownBy w' none

set_option maxRecDepth 100000 in
set_option maxHeartbeats 1000000 in
theorem drawHasVector_any (cv : Value) (w : World) (hc : CodeAt w cv) : Calls Tryd.prog 194 #[cv] w (DSV w) := by
  have HS := Lib.hid (Sep.startDB hc #[.int .i64 0, .slice none 0 0] 74)
  have hs0 : (w.alloc (.cells #[.int .i64 0, .slice none 0 0] 74)).heap.size = w.heap.size + 1 := by simp
  obtain ⟨a0, len, cap, rfl, _, _⟩ := hc
  go_enter Tryd.func194, Tryd.ntmps194
  go_wp2_with fail
  generalize (w.alloc (.cells #[.int .i64 0, .slice none 0 0] 74)).alloc (.cells #[.slice a0 len cap, .int .i64 0, .int .u64 0] 140) = w0 at *
  generalize hN : w.heap.size = N at *
  refine (Bd.anyPrime_any _ _ _ HS.out.hd (by omega)).mono ?_
  rintro e w1 ⟨p, rfl, hp, c1, g1⟩
  have hpb := anyP_bd hp
  have HP := Lib.hid hp
  have HS1 := Lib.hid (HS.out.draw c1 g1)
  clear hp c1 g1
  go_wp2_with (first
    | (go_at_call 163
       go_loud (refine (size_any _ _ _ HS1.out.hd (by omega)).mono ?_)
       rintro e w2 ⟨sz, rfl, ⟨hz0, hz1⟩, c2, g2⟩
       obtain ⟨sz, rfl⟩ := Int.eq_ofNat_of_zero_le hz0
       have hsz : sz ≤ 24 := by omega
       have HS2 := Lib.hid (HS1.out.draw c2 g2)
       clear c2 g2 hz0 hz1)
    | (go_at_call 164
       go_loud (refine (anySpace_any p sz _ _ _ (by omega) (by omega) HS2.out.hd hsz (by omega)).mono ?_)
       rintro e w3 ⟨c, o, vs, L, rfl, hc0, hc1, ho, hl, hll, c3, g3⟩
       obtain ⟨c, rfl⟩ := Int.eq_ofNat_of_zero_le hc0
       obtain ⟨oa, oc, hoe, _, _⟩ := own_form ho
       subst hoe
       have HO := Lib.hid ho
       have HS3 := Lib.hid (HS2.out.drawM c3 g3 ho)
       have HL := Lib.hid hl; have HLL := Lib.hid hll
       have hcb : c ≤ 25 := by omega
       unfold mxV
       clear ho hl hll c3 g3 hc0 hc1))
  have HS4 := Lib.hid (HS3.out.box #[.int .i64 c, .slice oa L.length oc] 74)
  have HOW := Lib.hid (show OwnM w2.heap.size (w3.alloc (.cells #[.int .i64 c, .slice oa L.length oc] 74)).drew _ vs L from HS4.out.dr.s2.hd.rebase fun k hk => (HO.out.lt hk).1)
  have hbB : N + 1 < w2.heap.size := HS2.out.hd.lt
  clear HO
  have XF := Lib.hid fun W m (h : Sep W [BxA w3.heap.size #[.int .i64 c, .slice oa L.length oc] 74, OM (.slice oa L.length oc) vs L, CA N (N + 1) m, BxA N #[.int .i64 0, .slice none 0 0] 74, KeepA w]) => And.intro (bx h.hd).1 (bx h.hd).2.1
  generalize w3.heap.size = s at *
  generalize hw4 : w3.alloc (.cells #[.int .i64 c, .slice oa L.length oc] 74) = w4 at *
  clear hw4
  generalize hlen : L.length = l at *
  have HLEN := Lib.hid hlen
  clear hlen
  have X0 := Lib.hid (XF.out _ _ HS4.out.dr)
  have HC := Lib.hid (show Bd.Cur N w4.drew (N + 1) _ from HS4.out.dr.s3.hd)
  go_wp2_with fail
  go_region_held3 (fun w' => w'.cell? ⟨s, 0, none⟩ = some (.int .i64 c) ∧ w'.cell? ⟨s, 1, none⟩ = some (.slice oa l oc))
    (first | with_reducible exact X0.out | with_reducible exact X3.out | with_reducible exact X4.out)
    (first
      | (go_at_call 279
         go_loud (refine (vectorFor_any p c _ vs L (N + 1) _ _ _ (by omega) (by omega) HC.out HOW.out hbB (by omega) (by rw [HLEN.out]; exact HL.out) HLL.out (by omega)).mono ?_)
         rintro e w5 ⟨o5, zs, rfl, ho5, hz, c5, g5⟩
         have HS5 := Lib.hid (HS4.out.dr.s3.drawI c5 g5 ho5)
         have X3 := Lib.hid (XF.out _ _ (HS5.out.tl.s3.s3))
         obtain ⟨d2, d3, e2, e3⟩ := bx (HS5.out.s5.hd)
         have HS6 := Lib.hid (((HS5.out.s5).setB 0 (.int .i64 c)).setB 1 (.slice oa l oc))
         have X4 := Lib.hid (And.intro (bx HS6.out.s4.hd).1 (bx HS6.out.s4.hd).2.1)
         have HZ := Lib.hid hz
         clear ho5 hz c5 g5))
  go_wp2_with fail
  obtain ⟨d4, d5, e4, e5⟩ := bx HS6.out.hd
  generalize (w5.setCell ⟨N, 0, none⟩ (.int .i64 c)).setCell ⟨N, 1, none⟩ (.slice oa l oc) = w6 at *
  refine bodyPost_ret_by (v := .tuple #[.int .i64 p, .agg #[.int .i64 c, .slice oa l oc], o5]) ?_ rfl ?_
  · simp [results, go_sem, *]
  · have h2 := HS6.out.tl.drop2.drop2.drop2
    have h3 := HS6.out.tl.s4.drop2.drop2.drop2
    exact ⟨p, c, _, vs, L, _, zs, rfl, HP.out, by omega, by omega, h3.mat, by rw [HLEN.out]; exact HL.out, HLL.out, h2.ints, HZ.out, h2.tl.hd⟩
end Go.Proofs.YtpeaeminjbjlnaaDoor

/-
  The entries that draw spaces and vectors, continued. Conditions: the code is well laid.
-/
namespace Go.Proofs.YtpeaeminjbjlnaaDoor
open Go.RowKit
set_option linter.unusedVariables false

set_option maxRecDepth 100000 in
theorem drawSeparatorOf_any (cv : Value) (w : World) (hc : CodeAt w cv) : Calls Tryd.prog 71 #[cv] w (DSV w) := by
  have hs0 : (w.alloc (.cells #[.int .i64 0, .slice none 0 0] 74)).heap.size = w.heap.size + 1 := by simp
  have HD := Lib.hid (drawHasVector_any cv _ (hc.carry (grownBy_alloc w (.cells #[.int .i64 0, .slice none 0 0] 74) none)))
  obtain ⟨a0, len, cap, rfl, _, _⟩ := hc
  have HR := Lib.hid (alloc_heap_new w (.cells #[.int .i64 0, .slice none 0 0] 74))
  have HG0 := Lib.hid (grownBy_alloc w (.cells #[.int .i64 0, .slice none 0 0] 74) none)
  go_enter Tryd.func71, Tryd.ntmps71
  go_wp2_with fail
  refine HD.out.mono ?_
  rintro e w2 ⟨p, cols, o, vs, L, u, zs, rfl, hp, hb0, hb1, ho, hl, hll, hu, hz, g2⟩
  obtain ⟨oa, oc, hoe, hx⟩ := ho.read
  clear hx
  subst hoe
  have q2 := (g2.block w.heap.size (by omega) (by simp)).trans HR.out
  obtain ⟨d0, d1, e0, e1⟩ := bx q2
  have HO := Lib.hid ho; have HL := Lib.hid hl; have HLL := Lib.hid hll; have G2 := Lib.hid g2; have HP := Lib.hid hp
  have HU := Lib.hid hu; have HZ := Lib.hid hz; have HB0 := Lib.hid hb0; have HB1 := Lib.hid hb1
  clear ho hl hll g2 q2 hp hu hz hb0 hb1
  unfold mxV
  generalize hgl : L.length = l at *
  have HGL := Lib.hid hgl
  clear hgl
  go_wp2
  refine bodyPost_ret_by (v := .tuple #[.int .i64 p, .agg #[.int .i64 cols, .slice oa l oc], u]) ?_ rfl ?_
  · simp [results, go_sem, *]
  · have o5 := one_set (w := w2) w.heap.size (.int .i64 cols) (.slice oa l oc)
    have ho := (Only.of_grown (S := fun k => w.heap.size ≤ k) (HG0.out.trans G2.out) (by simp)).trans (o5.mono (S' := fun k => w.heap.size ≤ k) fun k hk => by omega)
    refine ⟨p, cols, _, vs, L, u, zs, rfl, HP.out, HB0.out, HB1.out, (HO.out.only o5 fun k hk hk' => by have := (HO.out.lt hk).1; omega).base (by omega), by rw [HGL.out]; exact HL.out, HLL.out, (HU.out.only o5 fun k hk hk' => by have := (HU.out.lt k hk).1; omega).base (by omega), HZ.out, ?_⟩
    exact ⟨ho.os, ho.tape, ho.output, ho.size, fun k hk _ => ho.block k hk (by omega)⟩
end Go.Proofs.YtpeaeminjbjlnaaDoor

/-
  The entry that draws rows for a span. Conditions: the code is well laid.
-/
namespace Go.Proofs.YtpeaeminjbjlnaaDoor
open Go.RowKit
set_option linter.unusedVariables false

/-- a drawn number, length and list of rows -/
def DSpan (w : World) (e : Ending) (w' : World) : Prop :=
  ∃ (p n : Int) (o : Value) (vs : List Value) (L : List (List Int)), e = .returned (.tuple #[.int .i64 p, .int .i64 n, o]) ∧ anyP p ∧ -1 ≤ n ∧ n ≤ 25 ∧ OwnM w.heap.size w' o vs L ∧ L.length ≤ 1000 ∧ (∀ row ∈ L, row.length ≤ 1000) ∧ w.grownBy w' none
theorem fin_spn {N : Nat} {p n m : Int} {w W : World} {o : Value} {vs : List Value} {L : List (List Int)} (h : Sep W [OM o vs L, CA N N m, KeepA w]) (hp : anyP p) (h0 : -1 ≤ n) (h1 : n ≤ 25) (hl : L.length ≤ 1000) (hll : ∀ row ∈ L, row.length ≤ 1000) : DSpan w (.returned (.tuple #[.int .i64 p, .int .i64 n, o])) W :=
  ⟨p, n, o, vs, L, rfl, hp, h0, h1, h.drop2.mat, hl, hll, h.tl.tl.hd⟩
theorem snoc_le {L : List (List Int)} {row : List Int} {B : Nat} (h : ∀ r ∈ L, r.length ≤ B) (hr : row.length ≤ B) : ∀ r ∈ L ++ [row], r.length ≤ B := by
  intro r hr'
  rcases List.mem_append.1 hr' with h1 | h1
  · exact h r h1
  · rw [List.mem_singleton] at h1; rw [h1]; exact hr
def lenOf : Value → Nat
  | .slice _ n _ => n
  | _ => 0

set_option maxRecDepth 100000 in
set_option maxHeartbeats 2000000 in
theorem drawSpanOf_any (cv : Value) (w : World) (hc : CodeAt w cv) : Calls Tryd.prog 78 #[cv] w (DSpan w) := by
  have HS := Lib.hid (Sep.startD hc)
  obtain ⟨a0, len, cap, rfl, _, _⟩ := hc
  go_enter Tryd.func78, Tryd.ntmps78
  go_wp2_with fail
  generalize w.alloc (.cells #[.slice a0 len cap, .int .i64 0, .int .u64 0] 140) = w0 at *
  generalize hN : w.heap.size = N at *
  refine (Bd.anyPrime_any _ _ _ HS.out.hd (by omega)).mono ?_
  rintro e w1 ⟨p, rfl, hp, c1, g1⟩
  have hpb := anyP_bd hp
  have HP := Lib.hid hp
  have HS1 := Lib.hid (HS.out.draw c1 g1)
  clear hp c1 g1
  go_wp2_with (first
    | (go_at_call 163
       go_loud (refine (size_any _ _ _ HS1.out.hd (by omega)).mono ?_)
       rintro e w2 ⟨sz, rfl, ⟨hz0, hz1⟩, c2, g2⟩
       obtain ⟨sz, rfl⟩ := Int.eq_ofNat_of_zero_le hz0
       have hsz : sz ≤ 24 := by omega
       have HS2 := Lib.hid (HS1.out.draw c2 g2)
       clear c2 g2 hz0 hz1)
    | (go_at_call 202
       go_loud (refine (rows_any p sz 6 _ _ _ HS2.out.hd (by omega) (by omega) (by omega) (by omega)).mono ?_)
       rintro e w3 ⟨o, rfl, vs, L, ho, hl, hll, c3, g3⟩
       obtain ⟨oa, oc, hoe, _, _⟩ := own_form ho
       subst hoe
       have HS3 := Lib.hid (HS2.out.drawM c3 g3 ho)
       have HL := Lib.hid hl
       have HLS := Lib.hid (show ∀ row ∈ L, row.length = sz from fun row hr => (hll row hr).1)
       have HLL := Lib.hid (show ∀ row ∈ L, row.length ≤ 1000 from fun row hr => by have := (hll row hr).1; omega)
       clear ho hl hll c3 g3))
  have hl6 := HL.out
  generalize hlen : L.length = l at *
  have HLEN := Lib.hid hlen
  clear hlen
  have hml : L.length ≤ 1000 := by have := HLEN.out; omega
  have HML := Lib.hid hml
  clear hml
  refine (Bd.pick_any 20 _ _ _ HS3.out.s2.hd (by omega) (by omega)).mono ?_
  rintro e w4 ⟨x, rfl, ⟨x0, x1⟩, c4, g4⟩
  have HS4 := Lib.hid (HS3.out.s2.draw c4 g4).s2
  clear c4 g4
  by_cases h0 : x = 0
  · subst h0
    go_wp2_with (
      go_at_call 130
      go_loud (refine (Bd.among_new [-1, 25, (sz : Int) + 1] _ _ _ _ HS4.out.s2.hd (by simp) (by simp) (by omega)).mono ?_)
      rintro e w5 ⟨m, rfl, hm, c5, g5⟩
      have HS5 := Lib.hid (HS4.out.s2.draw c5 g5).s2
      have hm0 : -1 ≤ m ∧ m ≤ 25 := by simp at hm; omega
      clear c5 g5 hm)
    refine bodyPost_ret_by (v := .tuple #[.int .i64 p, .int .i64 m, .slice oa l oc]) ?_ rfl ?_
    · simp [results, go_sem, *]
    · exact fin_spn HS5.out HP.out (by omega) (by omega) HML.out HLL.out
  · by_cases h1 : x = 1
    · subst h1
      go_wp2_with (first
        | (go_at_call 175
           go_loud (refine (elems_any p (sz + 1) _ _ _ HS4.out.s2.hd (by omega) (by omega) (by omega) (by omega)).mono ?_)
           rintro e w5 ⟨o1, zs, rfl, ho1, hz, hok, c5, g5⟩
           have HS5 := Lib.hid ((HS4.out.s2.drawI c5 g5 ho1).under Sep.s2 (by simp +contextual))
           have HZ := Lib.hid (show zs.length ≤ 1000 by omega)
           obtain ⟨oa1, oc1, rfl⟩ := own_shape ho1
           clear ho1 hz hok c5 g5)
        | (at_builtin
           refine app_rowS rfl _ _ rfl rfl rfl HS5.out (by rw [HLEN.out]; omega) ?_
           intro g2 cap2 w8 hs8
           rw [HLEN.out] at hs8 ⊢
           have HS8 := Lib.hid hs8
           clear hs8))
      refine bodyPost_ret_by (v := .tuple #[.int .i64 p, .int .i64 sz, .slice (some ⟨g2, 0, none⟩) (l + 1) cap2]) ?_ rfl ?_
      · simp [results, go_sem, *]
      · exact fin_spn HS8.out HP.out (by omega) (by omega) (by have := HLEN.out; simp; omega) (snoc_le HLL.out HZ.out)
    · by_cases h2 : x = 2
      · subst h2
        go_wp2
        go_loopw [8] (fun out wr => ∃ (vs : List Value) (L : List (List Int)), L.length ≤ 50 ∧ (∀ row ∈ L, row.length ≤ 1000) ∧ Sep wr [OM out vs L, CA N N (20000000 + 3000 * L.length), KeepA w]) (fun out _ => 60 - lenOf out)
        case atStart => exact ⟨vs, L, by have := HLEN.out; omega, HLL.out, (HS4.out.s2.more (m := 20000000 + 3000 * L.length) (by omega)).s2⟩
        case round =>
          obtain ⟨vs, L, hl, hll, hs⟩ := hrel
          obtain ⟨oa, oc, rfl, _, _⟩ := own_form hs.hd
          have HS5 := Lib.hid hs; have HLL := Lib.hid hll
          clear hll hs
          generalize hlen : L.length = l at *
          have HLEN := Lib.hid hlen
          clear hlen
          go_wp2_with fail
          refine (Bd.pick_any 2 _ _ _ HS5.out.s2.hd (by omega) (by omega)).mono ?_
          rintro e w5 ⟨y, rfl, ⟨hy0, hy1⟩, c5, g5⟩
          have HS6 := Lib.hid (HS5.out.s2.draw c5 g5)
          clear c5 g5
          by_cases hlt : (l : Int) < 48 + y
          · go_wp2_with (first
              | (go_at_call 175
                 go_loud (refine (elems_any p sz _ _ _ HS6.out.hd (by omega) (by omega) (by omega) (by omega)).mono ?_)
                 rintro e w6 ⟨o1, zs, rfl, ho1, hz, hok, c6, g6⟩
                 have HS7 := Lib.hid ((HS6.out.drawI c6 g6 ho1).under Sep.s2 (by simp +contextual))
                 have HZ := Lib.hid (show zs.length ≤ 1000 by omega)
                 obtain ⟨oa1, oc1, rfl⟩ := own_shape ho1
                 clear ho1 hz hok c6 g6)
              | (at_builtin
                 refine app_rowS rfl _ _ rfl rfl rfl HS7.out (by rw [HLEN.out]; omega) ?_
                 intro g2 cap2 w8 hs8
                 rw [HLEN.out] at hs8 ⊢
                 have HS8 := Lib.hid hs8
                 clear hs8))
            go_roundw
            case rel => exact ⟨_, _, by rw [List.length_append, HLEN.out]; simp; omega, snoc_le HLL.out HZ.out, by
              rw [List.length_append, HLEN.out]
              exact (HS8.out.s2.more (by simp; omega)).s2⟩
            case measure => simp [lenOf]; omega
          · go_wp2
            refine bodyPost_ret_by (v := .tuple #[.int .i64 p, .int .i64 sz, .slice oa l oc]) ?_ rfl ?_
            · simp [results, go_sem, *]
            · exact fin_spn HS6.out.s2 HP.out (by omega) (by omega) (by rw [HLEN.out]; omega) HLL.out
      · by_cases h3 : x = 3
        · subst h3
          by_cases hl0 : l = 0
          · subst hl0
            go_wp2
            refine bodyPost_ret_by (v := .tuple #[.int .i64 p, .int .i64 sz, .slice oa 0 oc]) ?_ rfl ?_
            · simp [results, go_sem, *]
            · exact fin_spn HS4.out HP.out (by omega) (by omega) HML.out HLL.out
          · have hl1 : (0 : Int) < (l : Int) := by omega
            by_cases hz0 : sz = 0
            · subst hz0
              go_wp2
              refine bodyPost_ret_by (v := .tuple #[.int .i64 p, .int .i64 0, .slice oa l oc]) ?_ rfl ?_
              · simp [results, go_sem, *]
              · exact fin_spn HS4.out HP.out (by omega) (by omega) HML.out HLL.out
            · have hz1 : (0 : Int) < (sz : Int) := by omega
              obtain ⟨g, gc, hge, _, _, _⟩ := HS4.out.hd.head (by intro h; have := HLEN.out; rw [h] at this; simp at this; omega)
              rw [HLEN.out] at hge
              cases hge
              obtain ⟨G, C, hGC⟩ := row_names HS4.out.hd HLS.out (by omega)
              rw [HLEN.out] at hGC
              have HGC := Lib.hid hGC
              clear hGC
              have HSS := Lib.hid fun W m (L' : List (List Int)) (hl' : L'.length = l) (h : Sep W [OM (.slice (some ⟨g, 0, none⟩) l oc) vs L', CA N N m, KeepA w]) => heads h hl' HGC.out 0 (by omega)
              have X0 := Lib.hid (HSS.out _ _ _ HLEN.out HS4.out.dr)
              have HC3 := Lib.hid (show Bd.Cur N w4.drew N _ from HS4.out.dr.s2.hd)
              go_wp2_with fail
              go_region_held3 (fun w' => w'.cell? ⟨g, 0, none⟩ = some (.slice (some ⟨G 0, 0, none⟩) sz (C 0)))
                (first | with_reducible exact X0.out | with_reducible exact X6.out | with_reducible exact X7.out | with_reducible exact X8.out)
                (first
                  | (go_at_call 131
                     with_reducible refine (Bd.pick_any sz N _ _ HC3.out (by omega) (by omega)).mono ?_
                     rintro e w6 ⟨j, rfl, ⟨hj0, hj1⟩, c6, g6⟩
                     obtain ⟨j, rfl⟩ := Int.eq_ofNat_of_zero_le hj0
                     have hjl : j < sz := by omega
                     have hji : (j : Int) < (sz : Int) := by omega
                     have HS6 := Lib.hid (HS4.out.dr.s2.draw c6 g6).s2
                     have X6 := Lib.hid (HSS.out _ _ _ HLEN.out HS6.out)
                     have HC6 := Lib.hid c6
                     clear c6 g6 hj1)
                  | (go_at_call 203
                     with_reducible refine (Bd.anyElem_any p N _ _ HC6.out (by omega) (by omega) (by omega)).mono ?_
                     rintro e w7 ⟨z, rfl, hz, c7, g7⟩
                     have HS7 := Lib.hid (HS6.out.s2.draw c7 g7).s2
                     have X7 := Lib.hid (HSS.out _ _ _ HLEN.out HS7.out)
                     obtain ⟨old, t1, t2, t3⟩ := bend_elem HS7.out HLEN.out HGC.out HLS.out (show 0 < l by omega) hjl
                     have HS8 := Lib.hid (t3 z)
                     have X8 := Lib.hid (HSS.out _ _ _ (by rw [List.length_set]; exact HLEN.out) HS8.out)
                     clear c7 g7 hz t3))
              have HLR := Lib.hid (show ∀ row ∈ L.set 0 ((L.getD 0 []).set j z), row.length ≤ 1000 from bend_len HLL.out (by rw [List.length_set]; exact HLL.out _ (getD_mem (by rw [HLEN.out]; omega))))
              generalize w7.setCell ⟨G 0, j, none⟩ (.int .i64 z) = w8 at *
              clear t1 t2
              go_wp2
              refine bodyPost_ret_by (v := .tuple #[.int .i64 p, .int .i64 sz, .slice (some ⟨g, 0, none⟩) l oc]) ?_ rfl ?_
              · simp [results, go_sem, *]
              · exact fin_spn HS8.out HP.out (by omega) (by omega) (by rw [List.length_set]; exact HML.out) HLR.out
        · go_wp2
          refine bodyPost_ret_by (v := .tuple #[.int .i64 p, .int .i64 sz, .slice oa l oc]) ?_ rfl ?_
          · simp [results, go_sem, *]
          · exact fin_spn HS4.out HP.out (by omega) (by omega) HML.out HLL.out
end Go.Proofs.YtpeaeminjbjlnaaDoor

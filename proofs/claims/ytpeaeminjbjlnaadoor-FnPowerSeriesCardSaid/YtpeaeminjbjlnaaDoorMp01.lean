/-
  Sums, products and quotients of polynomials in the program. Conditions: small sizes.
-/
import Derived.Test.YtpeaeminjbjlnaaDoorMp00
import Derived.Deep.RegionHeld3
import Derived.Deep.RegionLaw
import Derived.Test.YtpeaeminjbjlnaaDoorMj00
import Derived.Test.YtpeaeminjbjlnaaDoorMk09
import Derived.Test.YtpeaeminjbjlnaaDoorMk06
import Derived.Test.YtpeaeminjbjlnaaDoorMk08
namespace Go.Proofs.YtpeaeminjbjlnaaDoor
open Go.RowKit
set_option linter.unusedVariables false

theorem info_int1' : (Tryd.prog.info? 3).map (·.size) = some 1 := by kernel_rfl
/-- 'make([]int, n)': the row lies at the heap's end -/
theorem zeros_at (n : Nat) (w : World) (hl : n ≤ 1000000) :
    Calls Tryd.prog 243 #[.int .i64 n] w fun e w' => e = .returned (.slice (some ⟨w.heap.size, 0, none⟩) n n) ∧ OwnInts w.heap.size w' (.slice (some ⟨w.heap.size, 0, none⟩) n n) (List.replicate n 0) ∧ w.grownBy w' none := by
  obtain ⟨i0, hi, hz0, hz1, hz2⟩ := info_parts info_int
  have HI := Lib.hid hi; have HZ0 := Lib.hid hz0; have HZ1 := Lib.hid hz1; have HZ2 := Lib.hid hz2
  clear hi hz0 hz1 hz2
  go_enter Tryd.func243, Tryd.ntmps243
  go_wp2_with (at_make; refine wpList_make_full _ rfl _ _ 24 rfl w.heap.size 3 i0 (.int .i64 0) 1 Tryd.underlying24 HI.out HZ0.out HZ1.out _ _ _ _ n rfl rfl rfl rfl (by rw [HZ2.out]; omega) (by unfold maxLen; omega) (Nat.le_refl _) ?_; intro w1 hown' hgr'
               have H1 := Lib.hid hown'; have H2 := Lib.hid hgr'
               clear hown' hgr')
  go_wp2
  go_ret
  refine ⟨rfl, ?_, H2.out⟩
  have := H1.out
  rw [madeCells_int] at this
  unfold OwnInts
  rw [List.length_replicate]
  exact this
theorem splice_pad (f : List Int) (n : Nat) (h : f.length ≤ n) : splice ((List.replicate n (0 : Int)).map (Value.int .i64)) 0 (f.map (Value.int .i64)) = (f ++ List.replicate (n - f.length) 0).map (Value.int .i64) := by
  unfold splice
  rw [List.take_zero, List.nil_append, Nat.zero_add, List.length_map, ← List.map_drop, List.drop_replicate, List.map_append]
theorem own_heap {B g n : Nat} {w : World} {zs : List Int} (h : OwnInts B w (.slice (some ⟨g, 0, none⟩) n n) zs) (hn : n = zs.length) : w.heap[g]? = some (.cells (zs.map (Value.int .i64)).toArray 3 (0, 0)) := by
  rcases h.2 with ⟨h1, _⟩ | ⟨g', cap, cur, hv, hg, hh, h1, h2, h3, h4⟩
  · cases h1
  · simp only [Value.slice.injEq, Option.some.injEq, Addr.mk.injEq, and_true] at hv
    obtain ⟨rfl, hl, rfl⟩ := hv
    rw [hh, ← h4, Nat.mul_one, List.take_of_length_le (by rw [Array.length_toList, h3]; omega)]
theorem heap_own {B g n : Nat} {w : World} {zs : List Int} (h : w.heap[g]? = some (.cells (zs.map (Value.int .i64)).toArray 3 (0, 0))) (hn : n = zs.length) (hB : B ≤ g) (hl : n ≤ 1000000) : OwnInts B w (.slice (some ⟨g, 0, none⟩) n n) zs := by
  subst hn
  refine ⟨by simp, Or.inr ⟨g, zs.length, _, rfl, hB, h, Nat.le_refl _, by unfold maxLen; omega, by simp, ?_⟩⟩
  rw [List.take_of_length_le (by simp)]
set_option maxRecDepth 100000 in
set_option maxHeartbeats 1000000 in
theorem polyAdd_any (q : Nat) [NeZero q] (by' : Int) (u v : Value) (f g : List Int) (w : World) (hq : 2 ≤ q) (hq2 : q ≤ 97) (hu : IntsV w u f) (hv : IntsV w v g) (hf : ∀ z ∈ f, 0 ≤ z ∧ z < q) (hg : ∀ z ∈ g, 0 ≤ z ∧ z < q) (lf : f.length ≤ 400) (lg : g.length ≤ 400) (hb0 : -10000 ≤ by') (hb1 : by' ≤ 10000) :
    Calls Tryd.prog 109 #[.int .i64 q, u, .int .i64 by', v] w fun e w' => ∃ o, e = .returned o ∧ IntsV w' o (poAddL q f by' g) ∧ w.grownBy w' none := by
  have HU := Lib.hid hu; have HV := Lib.hid hv
  have hlm : (f ++ List.replicate (g.length - f.length) 0).length = max f.length g.length := by rw [List.length_append, List.length_replicate]; omega
  have HLM := Lib.hid hlm
  have HXB := Lib.hid (show ∀ x ∈ f ++ List.replicate (g.length - f.length) 0, 0 ≤ x ∧ x ≤ 1000 from fun x hx => by
    rcases List.mem_append.1 hx with h | h
    · have := hf x h; omega
    · rw [List.eq_of_mem_replicate h]; omega)
  have HYB := Lib.hid (show ∀ x ∈ g, 0 ≤ x ∧ x ≤ 1000 from fun x hx => by have := hg x hx; omega)
  have HSP := Lib.hid (splice_pad f (max f.length g.length) (by omega))
  have hpd : f ++ List.replicate (max f.length g.length - f.length) 0 = f ++ List.replicate (g.length - f.length) 0 := by rw [show max f.length g.length - f.length = g.length - f.length by omega]
  rw [hpd] at HSP
  have HZ := Lib.hid (zeros_at (max f.length g.length) w (by omega))
  have hcast : ((max f.length g.length : Nat) : Int) = max (f.length : Int) (g.length : Int) := by omega
  have HUI := hu
  obtain ⟨ua, uc, rfl, hui⟩ := hu
  obtain ⟨va, vc, rfl, hvi⟩ := hv
  have HUI2 := Lib.hid hui
  have HCS := Lib.hid (show (f.map (Value.int .i64)).length = f.length from List.length_map ..)
  clear HUI hui hvi hpd hf hg
  unfold poAddL
  have HTA := Lib.hid (addAt_len q (f ++ List.replicate (g.length - f.length) 0) 0 by' g)
  generalize hn : max f.length g.length = n at *
  have hn1 : f.length ≤ n := by omega
  have hn2 : g.length ≤ n := by omega
  clear hn hlm
  obtain ⟨C0, hC0⟩ : ∃ C0, C0 = (List.replicate n (0 : Int)).map (Value.int .i64) := ⟨_, rfl⟩
  obtain ⟨CF, hCF⟩ : ∃ CF, CF = f.map (Value.int .i64) := ⟨_, rfl⟩
  have HC0 := Lib.hid hC0; have HCF := Lib.hid hCF
  clear hC0 hCF
  go_enter Tryd.func109, Tryd.ntmps109
  go_wp2_with (first
    | (go_at_call 243
       go_loud (rw [← hcast])
       go_loud (refine HZ.out.mono ?_)
       rintro e w1 ⟨rfl, ho, hg⟩
       have HH := Lib.hid (own_heap ho (by simp))
       have HB1 := Lib.hid (Below.grown (Below.refl _ w) hg (Nat.le_refl _) (by simp))
       clear ho hg)
    | (with_reducible refine wpList_copy_splice rfl (.tmp 16) (.tmp 17) 24 111 rfl 3 Tryd.underlying24 info_int1' (some ⟨w.heap.size, 0, none⟩) ua n n f.length uc ?_ ?_ w.heap.size 0 C0 3 ?_ CF ?_ ?_ ?_ ?_ w.heap.size w HB1.out (Nat.le_refl _) ?_
       · rfl
       · rfl
       · rw [HC0.out]; exact HH.out
       · rw [HCF.out, HCS.out]; exact (Nat.min_eq_left hn1).symm
       · intro h0
         rw [HCF.out, HCS.out] at h0
         obtain ⟨d, hd, hsp, hdb, hc⟩ := HUI2.out (by intro h; rw [h] at h0; simp at h0)
         refine ⟨rfl, d, hd, fun j x hj => ?_⟩
         obtain ⟨db, dof, _⟩ := d
         simp only at hsp
         subst hsp
         rw [HCF.out] at hj
         have hj' : j < f.length := by
           rcases Nat.lt_or_ge j f.length with h | h
           · exact h
           · rw [List.getElem?_eq_none (by simpa using h)] at hj; cases hj
         have hcj := (World.cell?_of_block (w := w) (a := ⟨db, dof + j, none⟩) (HB1.out.block db hdb)).trans (hc j hj')
         simp [hj'] at hj
         subst hj
         unfold Addr.add
         split
         · next h0 => subst h0; simpa using hcj
         · exact hcj
       · rw [HCF.out, HCS.out, HC0.out]; simpa using hn1
       · intro x hx
         rw [HCF.out] at hx
         obtain ⟨z, _, rfl⟩ := List.mem_map.1 hx
         rfl
       intro w2 H2 hb2
       have h2 := H2.out
       rw [HC0.out, HCF.out, HSP.out] at h2
       have hs2 := Sep.one (grown_of_below hb2) (heap_own h2 HLM.out.symm (Nat.le_refl _) (by omega))
       have HT := Lib.hid (addTimes_off (q : Int) by' w.heap.size 0 n n n n (.slice va g.length vc) _ g w2 hs2 HLM.out (HV.out.carry (grown_of_below hb2)) (fun hy k hk e => by have := HV.out.blk_lt hy hk; omega) (by omega) hn2 (by omega) (by omega) (by omega) hb0 hb1 HXB.out HYB.out)
       clear H2 hb2 h2 hs2)
    | (go_at_call 244
       go_loud (with_reducible refine HT.out.mono ?_)
       rintro e w3 ⟨rfl, hs3, hon3⟩
       have hrd := hs3.hd.read
       have htm := trimmed_any (some ⟨w.heap.size, 0, none⟩) n _ w3 (by rw [HTA.out, HLM.out]; exact hrd) (by rw [HTA.out, HLM.out]; exact Nat.le_refl _) (by rw [HTA.out, HLM.out]; omega)
       rw [HTA.out, HLM.out] at htm
       have HTM := Lib.hid htm
       have HK := Lib.hid (show w.grownBy w3 none from hs3.tl.hd)
       clear hs3 hon3 hrd htm)
    | (go_at_call 142
       go_loud (with_reducible refine HTM.out.mono ?_)
       rintro e w4 ⟨c', rfl, hi, rfl⟩
       have HI := Lib.hid hi
       clear hi))
  go_ret
  exact ⟨_, rfl, HI.out, HK.out⟩
end Go.Proofs.YtpeaeminjbjlnaaDoor

/-
  Products and quotients of polynomials in the program. Conditions: small sizes.
-/
namespace Go.Proofs.YtpeaeminjbjlnaaDoor
open Go.RowKit
set_option linter.unusedVariables false

theorem own_cap' {B : Nat} {w : World} {v : Value} {zs : List Int} (h : OwnInts B w v zs) : ∃ a c, v = .slice a zs.length c ∧ zs.length ≤ c := by
  rcases h.2 with ⟨rfl, h0⟩ | ⟨g, cap, cur, rfl, _, _, hc, _⟩
  · exact ⟨none, 0, by rw [h0], by omega⟩
  · exact ⟨_, cap, rfl, hc⟩
set_option maxRecDepth 100000 in
set_option maxHeartbeats 1000000 in
theorem polyMul_any (q : Nat) [NeZero q] (u v : Value) (f g : List Int) (w : World) (hq : 2 ≤ q) (hq2 : q ≤ 97) (hu : IntsV w u f) (hv : IntsV w v g) (hf : ∀ z ∈ f, 0 ≤ z ∧ z < q) (hg : ∀ z ∈ g, 0 ≤ z ∧ z < q) (lf : f.length ≤ 200) (lg : g.length ≤ 200) :
    Calls Tryd.prog 106 #[.int .i64 q, u, v] w fun e w' => ∃ o, e = .returned o ∧ IntsV w' o (poMulL q f g) ∧ w.grownBy w' none := by
  have HU := Lib.hid hu; have HV := Lib.hid hv
  have HFB := Lib.hid hf
  have HYB := Lib.hid (show ∀ x ∈ g, 0 ≤ x ∧ x ≤ 1000 from fun x hx => by have := hg x hx; omega)
  have HMO := Lib.hid fun i => (show ∀ x ∈ mulTo q f g i, 0 ≤ x ∧ x ≤ 1000 from fun x hx => by have := (mul_ok (p := q) f g i).2 x hx; omega)
  have HML := Lib.hid fun i => mul_len (q : Int) f g i
  obtain ⟨ua, uc, rfl, hui⟩ := hu
  obtain ⟨va, vc, rfl, hvi⟩ := hv
  clear hui hvi hf hg
  have hempty := fun (W : World) => (show IntsV (W.alloc (.cells #[] 3)) (.slice (some ⟨W.heap.size, 0, none⟩) 0 0) [] from (OwnInts.empty (B := 0) (Nat.zero_le _) rfl).read)
  have HEM := Lib.hid hempty
  clear hempty
  by_cases hf0 : f.length = 0
  · have HR := Lib.hid (show poMulL q f g = [] by unfold poMulL; rw [if_pos (Or.inl (List.eq_nil_of_length_eq_zero hf0))])
    rw [hf0]
    go_enter Tryd.func106, Tryd.ntmps106
    go_wp2
    go_ret
    exact ⟨_, rfl, by rw [HR.out]; exact HEM.out w, grownBy_alloc w _ none⟩
  · have hf0' : ((f.length : Int) == 0) = false := by rw [beq_eq_false_iff_ne]; omega
    by_cases hg0 : g.length = 0
    · have HR := Lib.hid (show poMulL q f g = [] by unfold poMulL; rw [if_pos (Or.inr (List.eq_nil_of_length_eq_zero hg0))])
      rw [hg0]
      go_enter Tryd.func106, Tryd.ntmps106
      go_wp2
      go_ret
      exact ⟨_, rfl, by rw [HR.out]; exact HEM.out w, grownBy_alloc w _ none⟩
    · have hg0' : ((g.length : Int) == 0) = false := by rw [beq_eq_false_iff_ne]; omega
      have HR := Lib.hid (show poMulL q f g = trimL (mulTo q f g f.length) by
        unfold poMulL
        rw [if_neg]
        rintro (h | h)
        · exact hf0 (by rw [h]; rfl)
        · exact hg0 (by rw [h]; rfl))
      generalize hn : f.length + g.length - 1 = n at *
      have hcast : ((n : Nat) : Int) = (f.length : Int) + (g.length : Int) - 1 := by omega
      have hw1 : IntKind.i64.wrap ((f.length : Int) + (g.length : Int)) = (f.length : Int) + (g.length : Int) := by rw [IntKind.wrap_i64]; omega
      have hw2 : IntKind.i64.wrap ((f.length : Int) + (g.length : Int) - 1) = (n : Int) := by rw [IntKind.wrap_i64]; omega
      have hn1 : f.length ≤ n := by omega
      have hn2 : f.length + g.length = n + 1 := by omega
      have hn3 : n ≤ 400 := by omega
      have HZ := Lib.hid (zeros_at n w (by omega))
      have HM0 := Lib.hid (show mulTo q f g 0 = List.replicate n 0 by unfold mulTo; rw [hn])
      clear hn HEM hg0
      go_enter Tryd.func106, Tryd.ntmps106
      go_wp2_with (
        go_at_call 243
        go_loud (first | (refine HZ.out.mono ?_) | (rw [← hcast]; refine HZ.out.mono ?_))
        rintro e w1 ⟨rfl, ho, hg⟩
        have HS1 := Lib.hid (Sep.one hg ho)
        clear ho hg)
      go_loopw [28] (fun i wr => ∃ k : Nat, k ≤ f.length ∧ i = .int .i64 k ∧ Sep wr [OI (.slice (some ⟨w.heap.size, 0, none⟩) n n) (mulTo q f g k), KeepA w]) (fun i _ => f.length - (intOf i).toNat)
      case atStart => exact ⟨0, by omega, rfl, by rw [HM0.out]; exact HS1.out⟩
      case round =>
        obtain ⟨k, hk, rfl, hs⟩ := hrel
        have HSX := Lib.hid hs
        clear hs
        by_cases hlt : k < f.length
        · obtain ⟨d, rfl, hs1, hd1, hc1⟩ := (HU.out.carry HSX.out.tl.hd).at hlt
          obtain ⟨db, dof, _⟩ := d
          simp only at hs1 hc1
          subst hs1
          have hb := HFB.out _ (List.getElem_mem hlt)
          rw [← getD_lt hlt] at hb hc1
          have HAT := Lib.hid (addTimes_off (q : Int) (f.getD k 0) w.heap.size k (n - k) (n - k) n n (.slice va g.length vc) (mulTo q f g k) g wr HSX.out (HML.out k) (HV.out.carry HSX.out.tl.hd) (fun hy k' hk' e => by have := HV.out.blk_lt hy hk'; omega) (by omega) (by omega) (by omega) (by omega) (by omega) (by omega) (by omega) (HMO.out k) HYB.out)
          have HNX := Lib.hid (show mulTo q f g (k + 1) = addAt q (mulTo q f g k) k (f.getD k 0) g from rfl)
          generalize f.getD k 0 = x at *
          have i1 : (k : Int) < (n : Int) := by omega
          have i2 : (k : Int) ≤ (n : Int) := by omega
          clear hd1
          go_wp2_with (
            go_at_call 244
            go_loud (with_reducible refine HAT.out.mono ?_)
            rintro e w3 ⟨rfl, hs3, hon3⟩
            rw [← HNX.out] at hs3
            have HS3 := Lib.hid hs3
            clear hs3 hon3)
          go_roundw
          case rel => exact ⟨k + 1, by omega, by go_num, HS3.out⟩
          case measure => simp [intOf]; omega
        · have hkl : k = f.length := by omega
          subst hkl
          have hl := HML.out f.length
          have htm := trimmed_any (some ⟨w.heap.size, 0, none⟩) n (mulTo q f g f.length) wr (by rw [hl]; exact HSX.out.hd.read) (by rw [hl]; exact Nat.le_refl _) (by rw [hl]; omega)
          rw [hl] at htm
          rw [← HR.out] at htm
          have HTM := Lib.hid htm
          have HK := Lib.hid (show w.grownBy wr none from HSX.out.tl.hd)
          clear htm hl
          go_wp2_with (
            go_at_call 142
            go_loud (with_reducible refine HTM.out.mono ?_)
            rintro e w4 ⟨c', rfl, hi, rfl⟩
            have HI := Lib.hid hi
            clear hi)
          go_ret
          exact ⟨_, rfl, HI.out, HK.out⟩
set_option maxRecDepth 100000 in
set_option maxHeartbeats 2000000 in
theorem polyDivide_any (q : Nat) [NeZero q] (u v : Value) (f g : List Int) (w : World) (hq : 2 ≤ q) (hq2 : q ≤ 97) (hu : IntsV w u f) (hv : IntsV w v g) (hf : VecOk q f.length f) (hg : ∀ z ∈ g, 0 ≤ z ∧ z < q) (hne : g ≠ []) (lf : f.length ≤ 200) (lg : g.length ≤ 200) :
    Calls Tryd.prog 102 #[.int .i64 q, u, v] w fun e w' => ∃ o1 o2, e = .returned (.tuple #[o1, o2]) ∧ IntsV w' o1 (quoL q f g) ∧ IntsV w' o2 (remL q f g) ∧ w.grownBy w' none := by
  have HU := Lib.hid hu; have HV := Lib.hid hv
  have hgl := len_pos hne
  have HYB := Lib.hid (show ∀ x ∈ g, 0 ≤ x ∧ x ≤ 1000 from fun x hx => by have := hg x hx; omega)
  have HCL := Lib.hid (clone_any u f w hu (by omega))
  have HFO := Lib.hid hf
  have hlast : 0 ≤ lastC g ∧ lastC g < q := by
    have l : g.length - 1 < g.length := by omega
    have e : lastC g = g[g.length - 1] := by unfold lastC; rw [List.getD_eq_getElem?_getD, List.getElem?_eq_getElem l]; rfl
    rw [e]
    exact hg _ (List.getElem_mem l)
  obtain ⟨ua, uc, rfl, hui⟩ := hu
  obtain ⟨va, vc, rfl, hvi⟩ := hv
  clear hui hvi hf hg
  by_cases hlt : f.length < g.length
  · have HQ := Lib.hid (show quoL q f g = [] by unfold quoL; rw [if_pos hlt])
    have HR := Lib.hid (show remL q f g = f by unfold remL; rw [if_pos hlt])
    have hlt' : (f.length : Int) < (g.length : Int) := by omega
    go_enter Tryd.func102, Tryd.ntmps102
    go_wp2_with (
      go_at_call 112
      go_loud (with_reducible refine HCL.out.mono ?_)
      rintro e w1 ⟨o, rfl, ho, hg⟩
      obtain ⟨a, c, rfl, _⟩ := own_cap' ho
      have HO := Lib.hid ho.read; have HG := Lib.hid hg
      clear ho hg)
    go_ret2
    exact ⟨_, _, rfl, by rw [HQ.out]; exact (OwnInts.empty (B := 0) (w := w1) (Nat.zero_le _) rfl).read, by rw [HR.out]; exact HO.out.carry (grownBy_alloc w1 _ none), HG.out.trans (grownBy_alloc w1 _ none)⟩
  · have HQ := Lib.hid (show quoL q f g = trimL (divTo q f g (invI q (lastC g)) (f.length - g.length + 1) (f.length - g.length + 1)).1 by unfold quoL; rw [if_neg hlt]; rfl)
    have HR := Lib.hid (show remL q f g = trimL (divTo q f g (invI q (lastC g)) (f.length - g.length + 1) (f.length - g.length + 1)).2 by unfold remL; rw [if_neg hlt]; rfl)
    have hib := invI_bd (q : Int) (lastC g) (by omega) (by omega) (by omega) (by omega)
    have hib2 : invI (q : Int) (lastC g) ≤ 97 := by
      have := Int.emod_lt_of_pos (lastC g ^ ((q : Int).toNat - 2 + if (q : Int) = 2 then 1 else 0)) (show 0 < (q : Int) by omega)
      unfold invI
      omega
    have HIV := Lib.hid fun wx => inverse_any (q : Int) (lastC g) wx (by omega) (by omega) (by omega) (by omega)
    generalize hm : f.length - g.length + 1 = m at *
    have hcast : ((m : Nat) : Int) = (f.length : Int) - (g.length : Int) + 1 := by omega
    have hw1 : IntKind.i64.wrap ((f.length : Int) - (g.length : Int)) = (f.length : Int) - (g.length : Int) := by rw [IntKind.wrap_i64]; omega
    have hw2 : IntKind.i64.wrap ((f.length : Int) - (g.length : Int) + 1) = (m : Int) := by rw [IntKind.wrap_i64]; omega
    have hmf : f.length + 1 = m + g.length := by omega
    have hlt' : ¬ (f.length : Int) < (g.length : Int) := by omega
    generalize hy : invI (q : Int) (lastC g) = y at *
    have HZ := Lib.hid fun W => zeros_at m W (by omega)
    have HDL := Lib.hid fun t => div_len (q : Int) f g y m t
    have HDO := Lib.hid fun t => div_ok (g := g) (y := y) (m := m) HFO.out t
    -- the last coefficient of g, as the walk reads it
    obtain ⟨d, hva, hs1, hd1, hc1⟩ := HV.out.at (show g.length - 1 < g.length by omega)
    rw [← getD_lt (by omega)] at hc1
    have hgl1 : (((g.length - 1 : Nat)) : Int) = (g.length : Int) - 1 := by omega
    have hgl2 : IntKind.i64.wrap ((g.length : Int) - 1) = ((g.length - 1 : Nat) : Int) := by rw [IntKind.wrap_i64]; omega
    subst hva
    obtain ⟨db, dof, _⟩ := d
    simp only at hs1 hc1
    subst hs1
    change w.cell? ⟨db, dof + (g.length - 1), none⟩ = some (.int .i64 (lastC g)) at hc1
    have HC1 := Lib.hid hc1
    have hdbw : db < w.heap.size := hd1
    clear hy hm hc1 hd1
    generalize hlc : lastC g = lc at *
    have i1 : ((g.length - 1 : Nat) : Int) < (g.length : Int) := by omega
    go_enter Tryd.func102, Tryd.ntmps102
    go_wp2_with (first
      | (go_at_call 112
         go_loud (with_reducible refine HCL.out.mono ?_)
         rintro e w1 ⟨o, rfl, ho, hg⟩
         obtain ⟨a, c, rfl, hac⟩ := own_cap' ho
         have HS1 := Lib.hid (Sep.one hg ho)
         clear ho hg)
      | (go_at_call 243
         go_loud (first | (refine (HZ.out _).mono ?_) | (rw [← hcast]; refine (HZ.out _).mono ?_))
         rintro e w2 ⟨rfl, ho, hg⟩
         have HS2 := Lib.hid (HS1.out.newI hg ho)
         have hc1 : w2.cell? ⟨db, dof + (g.length - 1), none⟩ = some (.int .i64 lc) := (World.cell?_of_block (w := w) (a := ⟨db, dof + (g.length - 1), none⟩) (HS2.out.tl.tl.hd.block db hdbw (by simp))).trans HC1.out
         clear ho hg)
      | (go_at_call 110
         go_loud (with_reducible refine (HIV.out _).mono ?_)
         rintro e w' ⟨rfl, rfl⟩))
    obtain ⟨gr, gc, hge, _⟩ := (show OwnInts 0 w2 (.slice a f.length c) f from HS2.out.tl.hd).parts (by intro h; rw [h] at hmf; simp at hmf; omega)
    cases hge
    have hw3 : IntKind.i64.wrap ((m : Int) - 1) = (m : Int) - 1 := by rw [IntKind.wrap_i64]; omega
    have hmn : m ≤ 200 := by omega
    have HMD := Lib.hid (show divTo q f g y m 0 = (List.replicate m 0, f) from rfl)
    clear HCL HZ hc1 HIV HC1
    generalize w1.heap.size = gq at *
    go_wp2_with fail
    go_loopw [11] (fun i wr => ∃ (t : Nat) (x : Int), t ≤ m ∧ i = .int .i64 x ∧ x = (m : Int) - 1 - t ∧ Sep wr [OI (.slice (some ⟨gq, 0, none⟩) m m) (divTo q f g y m t).1, OI (.slice (some ⟨gr, 0, none⟩) f.length c) (divTo q f g y m t).2, KeepA w]) (fun i _ => ((intOf i) + 1).toNat)
    case atStart => exact ⟨0, (f.length : Int) - (g.length : Int), by omega, rfl, by omega, by rw [HMD.out]; exact HS2.out⟩
    case round =>
      obtain ⟨t, x, ht, rfl, hx, hs⟩ := hrel
      have HSX := Lib.hid hs
      clear hs
      by_cases hlt : t < m
      · obtain ⟨j, hj⟩ : ∃ j : Nat, j + t + 1 = m := ⟨m - 1 - t, by omega⟩
        obtain rfl : x = (j : Int) := by omega
        have hjm : m - 1 - t = j := by omega
        have hstep : divTo q f g y m (t + 1) = ((divTo q f g y m t).1.set j ((divTo q f g y m t).2.getD (j + g.length - 1) 0 * y % q), addAt q (divTo q f g y m t).2 j (-((divTo q f g y m t).2.getD (j + g.length - 1) 0 * y % q)) g) := by
          rw [← hjm]
          rfl
        have HSTP := Lib.hid hstep
        have hl := HDL.out t
        have ho := HDO.out t
        have HL1 := Lib.hid hl.1; have HL2 := Lib.hid hl.2; have HO2 := Lib.hid ho.2
        generalize divTo (q : Int) f g y m t = S at *
        obtain ⟨S1, S2⟩ := S
        dsimp only at HSX HSTP HL1 HL2 HO2
        have hjr : j + g.length - 1 < S2.length := by rw [HL2.out]; omega
        have hcr := (show OwnInts 0 wr (.slice (some ⟨gr, 0, none⟩) f.length c) S2 from HSX.out.tl.hd).cell HL2.out.symm hjr
        rw [← getD_lt hjr] at hcr
        have hrb := HO2.out.2 _ (List.getElem_mem hjr)
        rw [← getD_lt hjr] at hrb
        have a1 : IntKind.i64.wrap ((j : Int) + (g.length : Int)) = (j : Int) + (g.length : Int) := by rw [IntKind.wrap_i64]; omega
        have a2 : IntKind.i64.wrap ((j : Int) + (g.length : Int) - 1) = ((j + g.length - 1 : Nat) : Int) := by rw [IntKind.wrap_i64]; omega
        have a3 : ((j + g.length - 1 : Nat) : Int) < (f.length : Int) := by omega
        have a4 : (j : Int) < (m : Int) := by omega
        generalize S2.getD (j + g.length - 1) 0 = r0 at *
        have hm1 := mul_bd2 (a := r0) (b := y) (A := 97) (B := 97) (by omega) (by omega) (by omega) (by omega)
        have hm0 := Int.mul_nonneg hrb.1 hib.1
        have htm : (r0 * y).tmod q = (r0 * y) % q := Int.tmod_eq_emod_of_nonneg hm0
        have hwm : IntKind.i64.wrap (r0 * y) = r0 * y := by
          generalize r0 * y = rr at *
          rw [IntKind.wrap_i64]; omega
        have hq0 : ((q : Int) == 0) = false := by rw [beq_eq_false_iff_ne]; omega
        have hq0' : (q : Int) ≠ 0 := by omega
        have hk0 := Int.emod_nonneg (r0 * y) hq0'
        have hk1 := Int.emod_lt_of_pos (r0 * y) (show (0 : Int) < q by omega)
        have hwk : IntKind.i64.wrap ((r0 * y) % q) = (r0 * y) % q := by
          generalize (r0 * y) % (q : Int) = rr at *
          rw [IntKind.wrap_i64]; omega
        obtain ⟨xq, hcq⟩ : ∃ z : Int, wr.cell? ⟨gq, j, none⟩ = some (.int .i64 z) := ⟨_, (show OwnInts 0 wr (.slice (some ⟨gq, 0, none⟩) m m) S1 from HSX.out.hd).cell HL1.out.symm (j := j) (by rw [HL1.out]; omega)⟩
        have hfq := (show OwnInts 0 wr (.slice (some ⟨gq, 0, none⟩) m m) S1 from HSX.out.hd).free HL1.out.symm j
        have hset := HSX.out.setI HL1.out.symm j (r0 * y % q)
        have hl3 : (S1.set j (r0 * y % q)).length = m := by rw [List.length_set]; exact HL1.out
        have hcq2 := (show OwnInts 0 (wr.setCell ⟨gq, j, none⟩ (.int .i64 (r0 * y % q))) (.slice (some ⟨gq, 0, none⟩) m m) (S1.set j (r0 * y % q)) from hset.hd).cell hl3.symm (j := j) (by rw [hl3]; omega)
        rw [← getD_lt (by rw [hl3]; omega), getD_set_self (by rw [HL1.out]; omega)] at hcq2
        have HCQ2 := Lib.hid hcq2
        have HSET := Lib.hid hset.s2.dr
        have hng : IntKind.i64.wrap (-(r0 * y % q)) = -(r0 * y % q) := by
          generalize (r0 * y) % (q : Int) = rr at *
          rw [IntKind.wrap_i64]; omega
        have a5 : (j : Int) ≤ (f.length : Int) := by omega
        have a6 : (j : Int) < (f.length : Int) := by omega
        have a7 : (j : Int) < (c : Int) := by omega
        have a8 : ¬ c = j := by omega
        have HAT := Lib.hid (addTimes_off (q : Int) (-(r0 * y % q)) gr j (f.length - j) (c - j) c f.length (.slice (some ⟨db, dof, none⟩) g.length vc) S2 g (wr.setCell ⟨gq, j, none⟩ (.int .i64 (r0 * y % q))).drew HSET.out HL2.out (HV.out.carry HSET.out.tl.tl.hd) (fun hy k' hk' e => by
            have h1 := HV.out.blk_lt hy hk'
            have h2 := HSET.out.drop2.apt.1 gr rfl
            exact h2 (by rw [← e]; exact h1)) (by omega) (by omega) (by omega) (by omega) (by omega) (by generalize (r0 * y) % (q : Int) = rr at *; omega) (by generalize (r0 * y) % (q : Int) = rr at *; omega) (fun z hz => by have := HO2.out.2 z hz; omega) HYB.out)
        have HJ := Lib.hid hj; have HMF := Lib.hid hmf; have HCA := Lib.hid hcast
        clear hstep hl ho hset hl3 hcq2 hjr hm1 hx hj hjm hmf hcast
        go_wp2_with fail
        go_region_held3 (fun w' => w'.cell? ⟨gq, j, none⟩ = some (.int .i64 (r0 * y % q))) (first | with_reducible exact HCQ2.out | with_reducible exact hcq3 | exact HCQ2.out)
          (first
            | (go_at_call 244
               go_loud (with_reducible refine HAT.out.mono ?_)
               rintro e w4 ⟨rfl, hs4, hon4⟩
               have HS4 := Lib.hid hs4.s2
               have hcq3 : w4.cell? ⟨gq, j, none⟩ = some (.int .i64 (r0 * y % q)) := by
                 have h4 := (show OwnInts 0 w4 (.slice (some ⟨gq, 0, none⟩) m m) (S1.set j (r0 * y % q)) from hs4.tl.hd).cell (by rw [List.length_set]; exact HL1.out.symm) (j := j) (by rw [List.length_set, HL1.out]; omega)
                 rw [← getD_lt (by rw [List.length_set, HL1.out]; omega), getD_set_self (by rw [HL1.out]; omega)] at h4
                 exact h4
               clear hs4 hon4))
        all_goals
          go_wp2_with fail
          go_roundw
          case rel => exact ⟨t + 1, (j : Int) - 1, by omega, by go_num, by have := HJ.out; omega, by rw [HSTP.out]; exact HS4.out⟩
          case measure => simp [intOf]
      · have htm : t = m := by omega
        subst htm
        obtain rfl : x = -1 := by omega
        have hl := HDL.out t
        rw [← hlc] at *
        generalize divTo (q : Int) f g y t t = S at *
        obtain ⟨S1, S2⟩ := S
        dsimp only at HSX hl HQ HR
        have hrd1 := HSX.out.hd.read
        have hrd2 := HSX.out.tl.hd.read
        have t1 := trimmed_any (some ⟨gq, 0, none⟩) t S1 wr (by rw [hl.1]; exact hrd1) (by rw [hl.1]; exact Nat.le_refl _) (by rw [hl.1]; omega)
        have t2 := trimmed_any (some ⟨gr, 0, none⟩) c S2 wr (by rw [hl.2]; exact hrd2) (by rw [hl.2]; omega) (by rw [hl.2]; omega)
        rw [hl.1, ← HQ.out] at t1
        rw [hl.2, ← HR.out] at t2
        have T1 := Lib.hid t1; have T2 := Lib.hid t2
        have HK := Lib.hid (show w.grownBy wr none from HSX.out.tl.tl.hd)
        clear t1 t2 hrd1 hrd2 hl
        go_wp2_with (first
          | (go_at_call 142
             with_reducible refine T1.out.mono ?_
             rintro e w' ⟨c1, rfl, h1, rfl⟩
             have H1 := Lib.hid h1
             clear h1)
          | (go_at_call 142
             with_reducible refine T2.out.mono ?_
             rintro e w' ⟨c2, rfl, h2, rfl⟩
             have H2 := Lib.hid h2
             clear h2))
        go_ret2
        exact ⟨_, _, rfl, H1.out, H2.out, HK.out⟩
end Go.Proofs.YtpeaeminjbjlnaaDoor

/-
  Greatest common divisors of polynomials in the program, and the factor that makes them up. Conditions: small sizes; a field.
-/
namespace Go.Proofs.YtpeaeminjbjlnaaDoor
open Go.RowKit
set_option linter.unusedVariables false

def lenV : Value → Nat
  | .slice _ n _ => n
  | _ => 0
theorem PolyOk.els {q : Nat} {f : List Int} (h : PolyOk q f) : ∀ z ∈ f, 0 ≤ z ∧ z < q := h.1.2
theorem nil_ints (w : World) : IntsV w (.slice none 0 0) [] := IntsV.nil w
set_option maxRecDepth 100000 in
theorem scaled_any (q : Nat) [NeZero q] (by' : Int) (u : Value) (f : List Int) (w : World) (hq : 2 ≤ q) (hq2 : q ≤ 97) (hu : IntsV w u f) (hf : ∀ z ∈ f, 0 ≤ z ∧ z < q) (lf : f.length ≤ 400) (hb0 : -1000 ≤ by') (hb1 : by' ≤ 1000) :
    Calls Tryd.prog 251 #[.int .i64 q, u, .int .i64 by'] w fun e w' => ∃ o, e = .returned o ∧ IntsV w' o (poAddL q [] by' f) ∧ w.grownBy w' none := by
  have HA := Lib.hid (polyAdd_any q by' (.slice none 0 0) u [] f w hq hq2 (IntsV.nil w) hu (by simp) hf (by simp) lf (by omega) (by omega))
  obtain ⟨ua, uc, rfl, hui⟩ := hu
  clear hui hf
  go_enter Tryd.func251, Tryd.ntmps251
  go_wp2_with (
    go_at_call 109
    go_loud (with_reducible refine HA.out.mono ?_)
    rintro e w1 ⟨o, rfl, hi, hg⟩
    obtain ⟨a, c, rfl, _⟩ := id hi
    have HI := Lib.hid hi; have HG := Lib.hid hg
    clear hi hg)
  go_ret
  exact ⟨_, rfl, HI.out, HG.out⟩
theorem last_bd {q : Nat} {f : List Int} (hf : PolyOk q f) (hne : f ≠ []) : 0 ≤ lastC f ∧ lastC f < q := by
  have l : f.length - 1 < f.length := by have := len_pos hne; omega
  have e : lastC f = f[f.length - 1] := by unfold lastC; rw [List.getD_eq_getElem?_getD, List.getElem?_eq_getElem l]; rfl
  rw [e]
  exact hf.1.2 _ (List.getElem_mem l)
theorem inv_bd97 {q : Nat} {x : Int} (hq : 2 ≤ q) (hq2 : q ≤ 97) : 0 ≤ invI (q : Int) x ∧ invI (q : Int) x ≤ 97 := by
  have h1 := Int.emod_lt_of_pos (x ^ ((q : Int).toNat - 2 + if (q : Int) = 2 then 1 else 0)) (show 0 < (q : Int) by omega)
  have h2 := Int.emod_nonneg (x ^ ((q : Int).toNat - 2 + if (q : Int) = 2 then 1 else 0)) (show (q : Int) ≠ 0 by omega)
  unfold invI
  omega
/-- the last coefficient, as a walk reads it -/
theorem last_cell {w : World} {a : Option Addr} {c : Nat} {f : List Int} (h : IntsV w (.slice a f.length c) f) (hne : f ≠ []) : ∃ b o, a = some ⟨b, o, none⟩ ∧ w.cell? ⟨b, o + (f.length - 1), none⟩ = some (.int .i64 (lastC f)) := by
  have l : f.length - 1 < f.length := by have := len_pos hne; omega
  obtain ⟨d, rfl, hs, _, hc⟩ := h.at l
  obtain ⟨b, o, _⟩ := d
  simp only at hs hc
  subst hs
  rw [← getD_lt l] at hc
  exact ⟨b, o, rfl, hc⟩
set_option maxRecDepth 100000 in
theorem monic_any (q : Nat) [NeZero q] (u : Value) (f : List Int) (w : World) (hq : 2 ≤ q) (hq2 : q ≤ 97) (hu : IntsV w u f) (hf : PolyOk q f) (hne : f ≠ []) (lf : f.length ≤ 400) :
    Calls Tryd.prog 252 #[.int .i64 q, u] w fun e w' => ∃ o, e = .returned o ∧ IntsV w' o (monicL q f) ∧ w.grownBy w' none := by
  have hl := last_bd hf hne
  have hb := inv_bd97 (x := lastC f) hq hq2
  have HIV := Lib.hid fun wx => inverse_any (q : Int) (lastC f) wx (by omega) (by omega) (by omega) (by omega)
  have HS := Lib.hid (scaled_any q (invI q (lastC f)) u f w hq hq2 hu hf.els lf (by omega) (by omega))
  have hlen := len_pos hne
  unfold monicL
  obtain ⟨ua, uc, rfl, hui⟩ := id hu
  obtain ⟨b, o, rfl, hc⟩ := last_cell hu hne
  have g1 : IntKind.i64.wrap ((f.length : Int) - 1) = ((f.length - 1 : Nat) : Int) := by rw [IntKind.wrap_i64]; omega
  have g2 : ((f.length - 1 : Nat) : Int) < (f.length : Int) := by omega
  clear hui hu hf hb
  generalize poAddL (q : Int) [] (invI q (lastC f)) f = R at *
  generalize invI (q : Int) (lastC f) = y at *
  generalize lastC f = lc at *
  go_enter Tryd.func252, Tryd.ntmps252
  go_wp2_with (first
    | (go_at_call 110
       go_loud (with_reducible refine (HIV.out _).mono ?_)
       rintro e w' ⟨rfl, rfl⟩)
    | (go_at_call 251
       go_loud (with_reducible refine HS.out.mono ?_)
       rintro e w1 ⟨o1, rfl, hi, hg⟩
       obtain ⟨a, c, rfl, _⟩ := id hi
       have HI := Lib.hid hi; have HG := Lib.hid hg
       clear hi hg))
  go_ret
  exact ⟨_, rfl, HI.out, HG.out⟩
set_option maxRecDepth 100000 in
set_option maxHeartbeats 1000000 in
theorem polyGcd_any (q : Nat) [NeZero q] (u v : Value) (f g : List Int) (w : World) (hfl : fldN q = true) (hq2 : q ≤ 97) (hu : IntsV w u f) (hv : IntsV w v g) (hf : PolyOk q f) (hg : PolyOk q g) (lf : f.length ≤ 200) (lg : g.length ≤ 200) :
    Calls Tryd.prog 113 #[.int .i64 q, u, v] w fun e w' => ∃ o, e = .returned o ∧ IntsV w' o (gcdL q f g) ∧ w.grownBy w' none := by
  have hq := lt_p hfl
  have HU := Lib.hid hu; have HV := Lib.hid hv
  have HGD := Lib.hid (show gcdL q f g = if gcdN q g.length f g = [] then [] else monicL q (gcdN q g.length f g) from rfl)
  have HLE := Lib.hid (Nat.le_refl g.length)
  obtain ⟨ua, uc, rfl, hui⟩ := hu
  obtain ⟨va, vc, rfl, hvi⟩ := hv
  clear hui hvi
  have HF := Lib.hid hf; have HG := Lib.hid hg
  clear hf hg
  generalize gcdL (q : Int) f g = D at *
  generalize hT : gcdN (q : Int) g.length f g = T at *
  have HT := Lib.hid hT
  clear hT
  go_enter Tryd.func113, Tryd.ntmps113
  go_wp2_with fail
  go_loopw [1, 2] (fun x1 x2 wr => ∃ (F G : List Int) (n : Nat) (a1 a2 : Option Addr) (c1 c2 : Nat), x1 = .slice a1 F.length c1 ∧ x2 = .slice a2 G.length c2 ∧ IntsV wr (.slice a1 F.length c1) F ∧ IntsV wr (.slice a2 G.length c2) G ∧ PolyOk q F ∧ PolyOk q G ∧ F.length ≤ 200 ∧ G.length ≤ 200 ∧ gcdN q n F G = T ∧ G.length ≤ n ∧ w.grownBy wr none) (fun _ x2 _ => lenV x2)
  case atStart => exact ⟨f, g, g.length, ua, va, uc, vc, rfl, rfl, HU.out, HV.out, HF.out, HG.out, lf, lg, HT.out, HLE.out, grownBy_refl _ _⟩
  case round =>
    obtain ⟨F, G, n, a1, a2, c1, c2, rfl, rfl, h1, h2, p1, p2, l1, l2, hgn, hn, hgr⟩ := hrel
    have H1 := Lib.hid h1; have H2 := Lib.hid h2; have P1 := Lib.hid p1; have P2 := Lib.hid p2; have HGN := Lib.hid hgn; have HGR := Lib.hid hgr
    clear h1 h2 p1 p2 hgn hgr
    by_cases h0 : G.length = 0
    · obtain rfl : G = [] := List.eq_nil_of_length_eq_zero h0
      have hFT := HGN.out
      rw [gcdN_nil] at hFT
      subst hFT
      by_cases hF0 : F.length = 0
      · obtain rfl : F = [] := List.eq_nil_of_length_eq_zero hF0
        have HD := Lib.hid (show D = [] by rw [HGD.out, if_pos rfl])
        go_wp2
        go_ret
        exact ⟨_, rfl, by rw [HD.out]; exact H1.out, HGR.out⟩
      · have hne : F ≠ [] := fun e => hF0 (by rw [e]; rfl)
        have HD := Lib.hid (show D = monicL q F by rw [HGD.out, if_neg hne])
        have HM := Lib.hid (monic_any q _ F wr hq hq2 H1.out P1.out hne (by omega))
        have hF0' : ((F.length : Int) == 0) = false := by rw [beq_eq_false_iff_ne]; omega
        go_wp2_with (
          go_at_call 252
          go_loud (with_reducible refine HM.out.mono ?_)
          rintro e w1 ⟨o1, rfl, hi, hg⟩
          obtain ⟨a, c, rfl, _⟩ := id hi
          have HI := Lib.hid hi; have HGG := Lib.hid hg
          clear hi hg)
        go_ret
        exact ⟨_, rfl, by rw [HD.out]; exact HI.out, HGR.out.trans HGG.out⟩
    · have hne : G ≠ [] := fun e => h0 (by rw [e]; rfl)
      have h0' : (0 : Int) < (G.length : Int) := by omega
      obtain ⟨n', rfl⟩ : ∃ n', n = n' + 1 := ⟨n - 1, by omega⟩
      have hlt := rem_lt hfl P1.out P2.out hne
      have hle := rem_le (p := q) F G
      have HRO := Lib.hid (rem_ok (g := G) P1.out)
      have HNX := Lib.hid (show gcdN q n' G (remL q F G) = T by
        rw [← HGN.out, show gcdN (q : Int) (n' + 1) F G = if G = [] then F else gcdN q n' G (remL q F G) from rfl, if_neg hne])
      have HDV := Lib.hid (polyDivide_any q _ _ F G wr hq hq2 H1.out H2.out P1.out.1 P2.out.els hne l1 l2)
      clear h0
      generalize quoL (q : Int) F G = QQ at *
      generalize remL (q : Int) F G = RR at *
      go_wp2_with (
        go_at_call 102
        go_loud (with_reducible refine HDV.out.mono ?_)
        rintro e w1 ⟨o1, o2, rfl, hi1, hi2, hg⟩
        obtain ⟨b1, d1, rfl, _⟩ := id hi1
        obtain ⟨b2, d2, rfl, _⟩ := id hi2
        have HI2 := Lib.hid hi2; have HGG := Lib.hid hg
        clear hi1 hi2 hg)
      go_roundw
      case rel => exact ⟨G, RR, n', a2, b2, c2, d2, rfl, rfl, H2.out.carry HGG.out, HI2.out, P2.out, HRO.out, l2, by omega, HNX.out, by omega, HGR.out.trans HGG.out⟩
      case measure => simp [lenV]; omega
end Go.Proofs.YtpeaeminjbjlnaaDoor

/-
  The factor of a greatest common divisor, in the program. Conditions: small sizes; a field.
-/
namespace Go.Proofs.YtpeaeminjbjlnaaDoor
open Go.RowKit
set_option linter.unusedVariables false

theorem euc_len {q : Nat} [NeZero q] {R S U V : List Int} {K : Nat} (h7 : U.length + S.length ≤ K) (h8 : V.length + R.length ≤ K) (h : S ≠ []) : (poAddL q U (-1) (poMulL q (quoL q R S) V)).length + S.length ≤ K := by
  have l := len_pos h
  have a1 := poAdd_len (p := q) U (-1) (poMulL q (quoL q R S) V)
  have a2 := poMul_len (p := q) (quoL q R S) V
  have a3 := quo_len (p := q) R S
  by_cases hq : R.length < S.length
  · have e : quoL q R S = [] := by unfold quoL; rw [if_pos hq]
    have e2 : poMulL q (quoL q R S) V = [] := by unfold poMulL; rw [if_pos (Or.inl e)]
    rw [e2] at a1 ⊢
    simp at a1
    omega
  · by_cases hv : V = []
    · have e2 : poMulL q (quoL q R S) V = [] := by unfold poMulL; rw [if_pos (Or.inr hv)]
      rw [e2] at a1 ⊢
      simp at a1
      omega
    · have := len_pos hv
      omega
theorem ints_new1 (w : World) : IntsV (w.alloc (.cells #[.int .i64 1] 3)) (.slice (some ⟨w.heap.size, 0, none⟩) 1 1) [1] :=
  ⟨_, 1, rfl, fun _ => ⟨_, rfl, rfl, by simp, intsAt_new w [1] 3⟩⟩
set_option maxRecDepth 100000 in
set_option maxHeartbeats 2000000 in
theorem polyInverse_any (q : Nat) [NeZero q] (u v x : Value) (f g : List Int) (w : World) (hfl : fldN q = true) (hq2 : q ≤ 97) (hu : IntsV w u f) (hv : IntsV w v g) (hx : IntsV w x (gcdL q f g)) (hf : PolyOk q f) (hg : PolyOk q g) (hne : g ≠ []) (lf : f.length ≤ 41) (lg : g.length ≤ 41) :
    Calls Tryd.prog 111 #[.int .i64 q, u, v, x] w fun e w' => ∃ o, e = .returned o ∧ IntsV w' o (invL q f g (gcdL q f g)) ∧ w.grownBy w' none := by
  have hq := lt_p hfl
  have B := bezout hfl hf hg hne lf lg
  have HLD := Lib.hid (show (gcdL q f g).length ≤ 200 by have := B.len; omega)
  have HDO := Lib.hid B.ok; have HDN := Lib.hid B.ne; have HQN := Lib.hid B.quo; have HRN := Lib.hid B.ner
  have HIN := Lib.hid (show invL q f g (gcdL q f g) = remL q (poAddL q [] (invI q (lastC (eucN q g.length f g [1] []).1)) (eucN q g.length f g [1] []).2) (quoL q g (gcdL q f g)) from rfl)
  have HU := Lib.hid hu; have HV := Lib.hid hv; have HX := Lib.hid hx
  have HF := Lib.hid hf; have HG := Lib.hid hg; have HNE := Lib.hid hne
  have HO1 := Lib.hid (one_ok (p := q) hfl)
  obtain ⟨ua, uc, rfl, hui⟩ := hu
  obtain ⟨va, vc, rfl, hvi⟩ := hv
  obtain ⟨xa, xc, rfl, hxi⟩ := hx
  clear hui hvi hxi hf hg hne B
  generalize invL (q : Int) f g (gcdL q f g) = IV at *
  generalize gcdL (q : Int) f g = D at *
  generalize hE : eucN (q : Int) g.length f g [1] [] = E at *
  have HE := Lib.hid hE
  have HLE := Lib.hid (Nat.le_refl g.length)
  have HLU := Lib.hid (show ([1] : List Int).length + g.length ≤ 42 by simp; omega)
  have HLV := Lib.hid (show ([] : List Int).length + f.length ≤ 42 by simp; omega)
  have g0 : w.grownBy ((w.alloc (.cells #[.int .i64 1] 3)).alloc (.cells #[] 3)) none := (grownBy_alloc w _ none).trans (grownBy_alloc _ _ none)
  have HG0 := Lib.hid g0
  have HI1 := Lib.hid ((ints_new1 w).carry (grownBy_alloc _ (.cells #[] 3) none))
  have HI0 := Lib.hid (OwnInts.empty (B := 0) (w := w.alloc (.cells #[.int .i64 1] 3)) (Nat.zero_le _) rfl).read
  rw [show (w.alloc (.cells #[.int .i64 1] 3)).heap.size = w.heap.size + 1 by simp] at HI0
  clear hE g0
  go_enter Tryd.func111, Tryd.ntmps111
  go_wp2_with fail
  go_loopw [9, 10, 11, 12] (fun x1 x2 x3 x4 wr => ∃ (R S U V : List Int) (n : Nat) (a1 a2 a3 a4 : Option Addr) (c1 c2 c3 c4 : Nat), x1 = .slice a1 R.length c1 ∧ x2 = .slice a2 S.length c2 ∧ x3 = .slice a3 U.length c3 ∧ x4 = .slice a4 V.length c4 ∧
    IntsV wr (.slice a1 R.length c1) R ∧ IntsV wr (.slice a2 S.length c2) S ∧ IntsV wr (.slice a3 U.length c3) U ∧ IntsV wr (.slice a4 V.length c4) V ∧ PolyOk q R ∧ PolyOk q S ∧ PolyOk q U ∧ PolyOk q V ∧ R.length ≤ 41 ∧ S.length ≤ 41 ∧ U.length + S.length ≤ 42 ∧ V.length + R.length ≤ 42 ∧
    eucN q n R S U V = E ∧ S.length ≤ n ∧ w.grownBy wr none) (fun _ x2 _ _ _ => lenV x2)
  case atStart => exact ⟨f, g, [1], [], g.length, ua, va, _, _, uc, vc, 1, 0, rfl, rfl, rfl, rfl, HU.out.carry HG0.out, HV.out.carry HG0.out, HI1.out, HI0.out, HF.out, HG.out, HO1.out, PolyOk.nil _, lf, lg, HLU.out, HLV.out, HE.out, HLE.out, HG0.out⟩
  case round =>
    obtain ⟨R, S, U, V, n, a1, a2, a3, a4, c1, c2, c3, c4, rfl, rfl, rfl, rfl, i1, i2, i3, i4, p1, p2, p3, p4, l1, l2, l3, l4, he, hn, hgr⟩ := hrel
    have I1 := Lib.hid i1; have I2 := Lib.hid i2; have I3 := Lib.hid i3; have I4 := Lib.hid i4; have P1 := Lib.hid p1; have P2 := Lib.hid p2; have P3 := Lib.hid p3; have P4 := Lib.hid p4; have HEE := Lib.hid he; have HGR := Lib.hid hgr
    clear i1 i2 i3 i4 p1 p2 p3 p4 he hgr
    by_cases h0 : S.length = 0
    · obtain rfl : S = [] := List.eq_nil_of_length_eq_zero h0
      have hE := HEE.out
      rw [eucN_nil] at hE
      subst hE
      have hne : R ≠ [] := HRN.out
      have hl := last_bd P1.out hne
      have hb := inv_bd97 (x := lastC R) hq hq2
      have HIV := Lib.hid fun wx => inverse_any (q : Int) (lastC R) wx (by omega) (by omega) (by omega) (by omega)
      have HD1 := Lib.hid fun W (h : wr.grownBy W none) => polyDivide_any q (.slice va g.length vc) (.slice xa D.length xc) g D W hq hq2 (HV.out.carry (HGR.out.trans h)) (HX.out.carry (HGR.out.trans h)) HG.out.1 HDO.out.els HDN.out (by omega) HLD.out
      have HSC := Lib.hid fun W (h : wr.grownBy W none) => scaled_any q (invI q (lastC R)) _ U W hq hq2 (I3.out.carry h) P3.out.els (by omega) (by omega) (by omega)
      have HSO := Lib.hid (poAdd_ok (p := q) (f := []) (k := invI q (lastC R)) (g := U) (PolyOk.nil _))
      have hsl := poAdd_len (p := q) [] (invI q (lastC R)) U
      have hql := quo_len (p := q) g D
      have HQO := Lib.hid (quo_ok (g := D) HG.out)
      have HR := Lib.hid HIN.out
      obtain ⟨lb, lo, rfl, hlc⟩ := last_cell I1.out hne
      have hlenR := len_pos hne
      have w1 : IntKind.i64.wrap ((R.length : Int) - 1) = ((R.length - 1 : Nat) : Int) := by rw [IntKind.wrap_i64]; omega
      have w2 : ((R.length - 1 : Nat) : Int) < (R.length : Int) := by omega
      have hlb : lb < wr.heap.size := World.block_lt_of_cell? wr ⟨lb, lo + (R.length - 1), none⟩ hlc
      have HLC := Lib.hid hlc
      simp only [List.length_nil] at hsl
      clear h0 hlc
      dsimp only at HR
      generalize poAddL (q : Int) [] (invI q (lastC R)) U = SU at *
      generalize quoL (q : Int) g D = QQ at *
      generalize invI (q : Int) (lastC R) = y at *
      generalize lastC R = lc at *
      have HD2 := Lib.hid fun W o1 o2 (h1 : IntsV W o1 SU) (h2 : IntsV W o2 QQ) => polyDivide_any q o1 o2 SU QQ W hq hq2 h1 h2 HSO.out.1 HQO.out.els HQN.out (by omega) (by omega)
      generalize remL (q : Int) SU QQ = RR at *
      go_wp2_with (first
        | (go_at_call 102
           with_reducible refine (HD1.out _ (grownBy_refl _ _)).mono ?_
           rintro e w3 ⟨o1, o2, rfl, hi1, hi2, hg⟩
           obtain ⟨b1, d1, rfl, _⟩ := id hi1
           obtain ⟨b2, d2, rfl, _⟩ := id hi2
           have HM := Lib.hid hi1; have HGM := Lib.hid hg
           have hlc := (World.cell?_of_block (w := wr) (a := ⟨lb, lo + (R.length - 1), none⟩) (hg.block lb hlb (by simp))).trans HLC.out
           clear hi1 hi2 hg)
        | (go_at_call 110
           with_reducible refine (HIV.out _).mono ?_
           rintro e w' ⟨rfl, rfl⟩)
        | (go_at_call 251
           go_loud (with_reducible refine (HSC.out _ HGM.out).mono ?_)
           rintro e w4 ⟨o3, rfl, hi3, hg⟩
           obtain ⟨b3, d3, rfl, _⟩ := id hi3
           have HS3 := Lib.hid hi3; have HG3 := Lib.hid hg
           clear hi3 hg)
        | (go_at_call 102
           go_loud (with_reducible refine (HD2.out _ _ _ HS3.out (HM.out.carry HG3.out)).mono ?_)
           rintro e w5 ⟨o4, o5, rfl, hi4, hi5, hg⟩
           obtain ⟨b4, d4, rfl, _⟩ := id hi4
           obtain ⟨b5, d5, rfl, _⟩ := id hi5
           have HI5 := Lib.hid hi5; have HG5 := Lib.hid hg
           clear hi4 hi5 hg))
      go_ret
      exact ⟨_, rfl, by rw [HR.out]; exact HI5.out, ((HGR.out.trans HGM.out).trans HG3.out).trans HG5.out⟩
    · have hne : S ≠ [] := fun e => h0 (by rw [e]; rfl)
      have h0' : (0 : Int) < (S.length : Int) := by omega
      obtain ⟨n', rfl⟩ : ∃ n', n = n' + 1 := ⟨n - 1, by omega⟩
      have hlt := rem_lt hfl P1.out P2.out hne
      have hle := rem_le (p := q) R S
      have HRO := Lib.hid (rem_ok (g := S) P1.out)
      have HQO := Lib.hid (quo_ok (g := S) P1.out)
      have hql := quo_len (p := q) R S
      have HNX := Lib.hid (show eucN q n' S (remL q R S) V (poAddL q U (-1) (poMulL q (quoL q R S) V)) = E by
        rw [← HEE.out, show eucN (q : Int) (n' + 1) R S U V = if S = [] then (R, U) else eucN q n' S (remL q R S) V (poAddL q U (-1) (poMulL q (quoL q R S) V)) from rfl, if_neg hne])
      have HDV := Lib.hid (polyDivide_any q _ _ R S wr hq hq2 I1.out I2.out P1.out.1 P2.out.els hne (by omega) (by omega))
      have hlen := euc_len (q := q) (U := U) (V := V) l3 l4 hne
      have HUO := Lib.hid (poAdd_ok (p := q) (k := -1) (g := poMulL q (quoL q R S) V) P3.out)
      have HMO := Lib.hid (poMul_ok (p := q) (quoL q R S) V)
      have hml := poMul_len (p := q) (quoL q R S) V
      clear h0
      generalize quoL (q : Int) R S = QQ at *
      generalize remL (q : Int) R S = RR at *
      have HML := Lib.hid fun W o1 (h1 : IntsV W o1 QQ) (h2 : wr.grownBy W none) => polyMul_any q o1 _ QQ V W hq hq2 h1 (I4.out.carry h2) HQO.out.els P4.out.els (by omega) (by omega)
      generalize poMulL (q : Int) QQ V = MM at *
      have HAD := Lib.hid fun W o1 (h1 : IntsV W o1 MM) (h2 : wr.grownBy W none) => polyAdd_any q (-1) _ o1 U MM W hq hq2 (I3.out.carry h2) h1 P3.out.els HMO.out.els (by omega) (by omega) (by omega) (by omega)
      generalize poAddL (q : Int) U (-1) MM = NV at *
      go_wp2_with (first
        | (go_at_call 102
           go_loud (with_reducible refine HDV.out.mono ?_)
           rintro e w3 ⟨o1, o2, rfl, hi1, hi2, hg⟩
           obtain ⟨b1, d1, rfl, _⟩ := id hi1
           obtain ⟨b2, d2, rfl, _⟩ := id hi2
           have HI1 := Lib.hid hi1; have HI2 := Lib.hid hi2; have HG3 := Lib.hid hg
           clear hi1 hi2 hg)
        | (go_at_call 106
           go_loud (with_reducible refine (HML.out _ _ HI1.out HG3.out).mono ?_)
           rintro e w4 ⟨o3, rfl, hi3, hg⟩
           obtain ⟨b3, d3, rfl, _⟩ := id hi3
           have HI3 := Lib.hid hi3; have HG4 := Lib.hid (HG3.out.trans hg); have HG34 := Lib.hid hg
           clear hi3 hg)
        | (go_at_call 109
           go_loud (with_reducible refine (HAD.out _ _ HI3.out HG4.out).mono ?_)
           rintro e w5 ⟨o4, rfl, hi4, hg⟩
           obtain ⟨b4, d4, rfl, _⟩ := id hi4
           have HI4 := Lib.hid hi4; have HG5 := Lib.hid (HG4.out.trans hg); have HG35 := Lib.hid (HG34.out.trans hg)
           clear hi4 hg))
      go_roundw
      case rel => exact ⟨S, RR, V, NV, n', a2, b2, a4, b4, c2, d2, c4, d4, rfl, rfl, rfl, rfl, I2.out.carry HG5.out, HI2.out.carry HG35.out, I4.out.carry HG5.out, HI4.out, P2.out, HRO.out, P4.out, HUO.out, l2, by omega, by omega, hlen, HNX.out, by omega, HGR.out.trans HG5.out⟩
      case measure => simp [lenV]; omega
end Go.Proofs.YtpeaeminjbjlnaaDoor

/-
  A list of two rows that has just been laid. Conditions: none.
-/
namespace Go.Proofs.YtpeaeminjbjlnaaDoor
open Go.RowKit
set_option linter.unusedVariables false

theorem pair_mat {w : World} {x z : Value} {a b : List Int} (hx : IntsV w x a) (hz : IntsV w z b) : MatV (w.alloc (.cells #[x, z] 24)) (.slice (some ⟨w.heap.size, 0, none⟩) 2 2) [a, b] := by
  have hg := grownBy_alloc w (.cells #[x, z] 24) none
  have hb := bx (alloc_heap_new w (.cells #[x, z] 24))
  refine ⟨_, 2, rfl, fun _ => ⟨⟨w.heap.size, 0, none⟩, rfl, rfl, by simp, fun i hi => ?_⟩⟩
  match i, hi with
  | 0, hi => exact ⟨x, hb.1, hx.carry hg⟩
  | 1, hi => exact ⟨z, hb.2.1, hz.carry hg⟩
end Go.Proofs.YtpeaeminjbjlnaaDoor

/-
  Small helping facts. Conditions: as each says.
-/
namespace Go.Proofs.YtpeaeminjbjlnaaDoor
open Go.RowKit
set_option linter.unusedVariables false

theorem matB_of {p n : Nat} {L : List (List Int)} (hf : fldN p = true) (hn : n ≤ 24) (hl : L.length ≤ 24) (hL : RowsOk p n L) : matB p n L = true := by
  unfold matB
  rw [fldB_nat, hf, rowsB_ok.2 hL]
  simp
  omega
theorem pSame_m (c : Int) (u v : Value) (w : World) {A : List (List Int)} (hu : MatV w u A) (hv : MatV w v A) (hs : Small 1000 A) :
    Calls Tryd.prog 28 #[.agg #[.int .i64 c, u], .agg #[.int .i64 c, v]] w fun e w' => e = .returned (.bool true) ∧ w.grownBy w' none := by
  have h := pSame_any c c u v A A w hu hv (Nat.le_trans hs.1 (by decide)) (Nat.le_trans hs.1 (by decide)) (fun row hr => Nat.le_trans (hs.2 row hr) (by decide)) (fun row hr => Nat.le_trans (hs.2 row hr) (by decide))
  rw [show (c == c && A == A) = true by simp] at h
  exact h
theorem mat_one {w : World} {r : Value} {x : List Int} (h : IntsV w r x) : MatV (w.alloc (.cells #[r] 24)) (.slice (some ⟨w.heap.size, 0, none⟩) 1 1) [x] := by
  refine ⟨some ⟨w.heap.size, 0, none⟩, 1, rfl, fun _ => ⟨⟨w.heap.size, 0, none⟩, rfl, rfl, by simp, fun i hi => ?_⟩⟩
  have hi0 : i = 0 := by simp at hi; exact hi
  subst hi0
  exact ⟨r, box_cell w #[r] 24 0, h.carry (grownBy_alloc w _ none)⟩
end Go.Proofs.YtpeaeminjbjlnaaDoor

/-
  What is a polynomial, in the program. Conditions: small sizes.
-/
namespace Go.Proofs.YtpeaeminjbjlnaaDoor
open Go.RowKit
set_option linter.unusedVariables false

def lastB (f : List Int) : Bool := (f.length : Int) == 0 || f.getD (f.length - 1) 0 != 0
def polyB (p : Int) (f : List Int) : Bool := fldB p && (decide ((f.length : Int) ≤ 41) && (vecB p f.length f && lastB f))
theorem polyB_nat {p : Int} {f : List Int} (h : polyB p f = true) : ∃ (q : Nat) (_ : NeZero q), p = q ∧ fldN q = true ∧ 2 ≤ q ∧ q ≤ 97 ∧ f.length ≤ 41 ∧ PolyOk q f := by
  unfold polyB at h
  simp only [Bool.and_eq_true, decide_eq_true_eq] at h
  obtain ⟨h1, h2, h3, h4⟩ := h
  have hb := fldB_bd h1
  obtain ⟨q, rfl⟩ := Int.eq_ofNat_of_zero_le (show 0 ≤ p by omega)
  haveI : NeZero q := ⟨by omega⟩
  rw [fldB_nat] at h1
  refine ⟨q, inferInstance, rfl, h1, by omega, by omega, by omega, vecB_ok.1 h3, fun hne => ?_⟩
  unfold lastB at h4
  rw [Bool.or_eq_true, beq_iff_eq, bne_iff_ne] at h4
  rcases h4 with h4 | h4
  · exact absurd (List.eq_nil_of_length_eq_zero (by omega)) hne
  · exact h4
theorem polyB_of {q : Nat} [NeZero q] {f : List Int} (hf : fldN q = true) (hl : f.length ≤ 41) (h : PolyOk q f) : polyB q f = true := by
  unfold polyB
  rw [fldB_nat, hf, vecB_ok.2 h.1]
  have hl' : decide ((f.length : Int) ≤ 41) = true := decide_eq_true (by omega)
  rw [hl']
  unfold lastB
  by_cases h0 : f = []
  · subst h0; rfl
  · have := h.2 h0
    rw [bne_iff_ne.2 this]
    simp
set_option maxRecDepth 100000 in
theorem isPoly_any (p : Int) (u : Value) (f : List Int) (w : World) (ht : Tab w) (hu : IntsV w u f) (hl : f.length ≤ 1000000) :
    Calls Tryd.prog 242 #[.int .i64 p, u] w fun e w' => e = .returned (.bool (polyB p f)) ∧ w = w' := by
  have HIF := isField_any p w ht
  have HVE := isVector_any p f.length u f w hu hl
  have HU := Lib.hid hu
  obtain ⟨ua, uc, rfl, _⟩ := id hu
  clear hu ht
  cases h1 : fldB p
  · rw [h1] at HIF
    have HR := Lib.hid (show polyB p f = false by unfold polyB; rw [h1]; rfl)
    have HIF := Lib.hid HIF
    rw [HR.out]
    clear h1
    go_enter Tryd.func242, Tryd.ntmps242
    go_wp2_with (go_at_call 204; with_reducible refine HIF.out.mono ?_; rintro e w' ⟨rfl, rfl⟩)
    go_ret
    exact ⟨rfl, rfl⟩
  · rw [h1] at HIF
    have HIF := Lib.hid HIF
    by_cases h2 : (f.length : Int) ≤ 41
    · cases h3 : vecB p f.length f
      · rw [h3] at HVE
        have HVE := Lib.hid HVE
        have HR := Lib.hid (show polyB p f = false by unfold polyB; rw [h1, h3]; simp)
        rw [HR.out]
        clear h1 h3
        go_enter Tryd.func242, Tryd.ntmps242
        go_wp2_with (first
          | (go_at_call 204; with_reducible refine HIF.out.mono ?_; rintro e w' ⟨rfl, rfl⟩)
          | (go_at_call 173; with_reducible refine HVE.out.mono ?_; rintro e w' ⟨rfl, rfl⟩))
        go_ret
        exact ⟨rfl, rfl⟩
      · rw [h3] at HVE
        have HVE := Lib.hid HVE
        have HB := Lib.hid (show polyB p f = lastB f by unfold polyB; rw [h1, h3, decide_eq_true h2]; rfl)
        by_cases h4 : f.length = 0
        · have HR := Lib.hid (show polyB p f = true by rw [HB.out]; unfold lastB; rw [h4]; rfl)
          rw [HR.out]
          rw [h4, show ((0 : Nat) : Int) = 0 from rfl] at HVE
          rw [h4]
          clear h1 h3
          go_enter Tryd.func242, Tryd.ntmps242
          go_wp2_with (first
            | (go_at_call 204; with_reducible refine HIF.out.mono ?_; rintro e w' ⟨rfl, rfl⟩)
            | (go_at_call 173; with_reducible refine HVE.out.mono ?_; rintro e w' ⟨rfl, rfl⟩))
          go_ret
          exact ⟨rfl, rfl⟩
        · have h4a : ((f.length : Int) == 0) = false := by rw [beq_eq_false_iff_ne]; omega
          have HR := Lib.hid (show polyB p f = (f.getD (f.length - 1) 0 != 0) by rw [HB.out]; unfold lastB; rw [h4a]; rfl)
          have hl1 : f.length - 1 < f.length := by omega
          obtain ⟨d, rfl, hs, _, hc⟩ := HU.out.at hl1
          obtain ⟨db, dof, _⟩ := d
          simp only at hs hc
          subst hs
          rw [← getD_lt hl1] at hc
          have w1 : IntKind.i64.wrap ((f.length : Int) - 1) = ((f.length - 1 : Nat) : Int) := by rw [IntKind.wrap_i64]; omega
          have w2 : ((f.length - 1 : Nat) : Int) < (f.length : Int) := by omega
          rw [HR.out]
          clear h1 h3 HB HR hl1
          generalize f.getD (f.length - 1) 0 = x at *
          by_cases hx : x = 0
          · subst hx
            go_enter Tryd.func242, Tryd.ntmps242
            go_wp2_with (first
              | (go_at_call 204; with_reducible refine HIF.out.mono ?_; rintro e w' ⟨rfl, rfl⟩)
              | (go_at_call 173; with_reducible refine HVE.out.mono ?_; rintro e w' ⟨rfl, rfl⟩))
            go_ret
            exact ⟨rfl, rfl⟩
          · have hx1 : (x == 0) = false := by rw [beq_eq_false_iff_ne]; exact hx
            have hx2 : (x != 0) = true := by rw [bne_iff_ne]; exact hx
            go_enter Tryd.func242, Tryd.ntmps242
            go_wp2_with (first
              | (go_at_call 204; with_reducible refine HIF.out.mono ?_; rintro e w' ⟨rfl, rfl⟩)
              | (go_at_call 173; with_reducible refine HVE.out.mono ?_; rintro e w' ⟨rfl, rfl⟩))
            go_ret
            exact ⟨by rw [hx2]; rfl, rfl⟩
    · have HR := Lib.hid (show polyB p f = false by unfold polyB; rw [decide_eq_false h2]; simp)
      rw [HR.out]
      clear h1
      go_enter Tryd.func242, Tryd.ntmps242
      go_wp2_with (first
        | (go_at_call 204; with_reducible refine HIF.out.mono ?_; rintro e w' ⟨rfl, rfl⟩))
      go_ret
      exact ⟨rfl, rfl⟩
def arePB (p : Int) (L : List (List Int)) : Bool := L.all (polyB p) && fldB p
set_option maxRecDepth 100000 in
theorem arePolys_any (p : Int) (v : Value) (L : List (List Int)) (w : World) (ht : Tab w) (hv : MatV w v L) (hl : L.length ≤ 1000) (hll : ∀ row ∈ L, row.length ≤ 1000000) :
    Calls Tryd.prog 101 #[.int .i64 p, v] w fun e w' => e = .returned (.bool (arePB p L)) ∧ w = w' := by
  have HV := Lib.hid hv; have HLL := Lib.hid hll; have HT := Lib.hid ht
  have HIF := Lib.hid (isField_any p w ht)
  obtain ⟨va, vc, rfl⟩ := hv.shape
  clear hv hll ht
  generalize hlen : L.length = l at *
  have HLEN := Lib.hid hlen
  clear hlen
  go_enter Tryd.func101, Tryd.ntmps101
  go_wp2_with fail
  go_loopw [9] (fun i wr => ∃ k : Nat, k ≤ l ∧ i = .int .i64 k ∧ (∀ j, j < k → polyB p (L.getD j []) = true) ∧ wr = w) (fun i _ => l - (intOf i).toNat)
  case atStart => exact ⟨0, by omega, rfl, fun _ h => absurd h (by omega), rfl⟩
  case round =>
    obtain ⟨k, hk, rfl, hall, rfl⟩ := hrel
    have HALL := Lib.hid hall
    clear hall
    by_cases hlt : k < l
    · have hkl : k < L.length := by rw [HLEN.out]; exact hlt
      obtain ⟨b, o, cap, ml, r, rc, he, hcell, hrow⟩ := HV.out.rowD hkl
      cases he
      have hm := getD_mem hkl
      have hp := isPoly_any p _ (L.getD k []) wr HT.out hrow (HLL.out _ hm)
      generalize hrw : L.getD k [] = row at *
      have HRW := Lib.hid hrw
      clear hrw hrow
      generalize row.length = rl at *
      cases hb : polyB p row
      · rw [hb] at hp
        have HP := Lib.hid hp
        have HR := Lib.hid (show arePB p L = false by
          unfold arePB
          rw [Bool.and_eq_false_iff]
          left
          rw [List.all_eq_false]
          exact ⟨_, hm, by rw [hb]; simp⟩)
        clear hp hb hm hkl
        go_wp2_with (
          go_at_call 242
          with_reducible refine HP.out.mono ?_
          rintro e w' ⟨rfl, rfl⟩)
        go_ret
        exact ⟨by rw [HR.out]; rfl, rfl⟩
      · rw [hb] at hp
        have HP := Lib.hid hp; have HB := Lib.hid hb
        clear hp hb hm hkl
        go_wp2_with (
          go_at_call 242
          with_reducible refine HP.out.mono ?_
          rintro e w' ⟨rfl, rfl⟩)
        go_roundw
        case rel => exact ⟨k + 1, by omega, by go_num, fun j hj => by
          by_cases e : j = k
          · rw [e, HRW.out]; exact HB.out
          · exact HALL.out j (by omega), by simp⟩
        case measure => simp [intOf]; omega
    · have hkl : k = l := by omega
      subst hkl
      have HR := Lib.hid (show arePB p L = fldB p by
        unfold arePB
        have h : L.all (polyB p) = true := by
          rw [List.all_eq_true]
          intro row hr
          obtain ⟨j, hj, rfl⟩ := List.mem_iff_getElem.1 hr
          have := HALL.out j (by rw [← HLEN.out]; exact hj)
          rwa [List.getD_eq_getElem?_getD, List.getElem?_eq_getElem hj] at this
        rw [h, Bool.true_and])
      go_wp2_with (go_at_call 204; with_reducible refine HIF.out.mono ?_; rintro e w' ⟨rfl, rfl⟩)
      go_ret
      exact ⟨by rw [HR.out]; rfl, rfl⟩
end Go.Proofs.YtpeaeminjbjlnaaDoor

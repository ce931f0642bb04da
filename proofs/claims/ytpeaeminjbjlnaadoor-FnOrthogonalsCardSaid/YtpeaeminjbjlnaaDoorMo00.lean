/-
  Orthogonals of relations in the program: what the closure makes of a row, and the whole. Conditions: small sizes.
-/
import Derived.Test.YtpeaeminjbjlnaaDoorMl06
import Derived.Test.YtpeaeminjbjlnaaDoorMv08
import Derived.Test.YtpeaeminjbjlnaaDoorMl02
import Derived.Test.YtpeaeminjbjlnaaDoorMv12
namespace Go.Proofs.YtpeaeminjbjlnaaDoor
open Go.RowKit
set_option linter.unusedVariables false

theorem flip_len {q l r : Nat} {a : List Int} (h : a.length = l + r) : (flipRow q l a).length = l + r := by
  unfold flipRow
  rw [List.length_append, List.length_take, List.length_map, List.length_drop]
  omega
theorem flip_l {q l r t : Nat} {a : List Int} (h : a.length = l + r) (ht : t < l) : (flipRow q l a).getD t 0 = a.getD t 0 := by
  unfold flipRow
  rw [List.getD_eq_getElem?_getD, List.getElem?_append_left (by rw [List.length_take]; omega), List.getElem?_take_of_lt ht, List.getD_eq_getElem?_getD]
theorem flip_r {q l r t : Nat} {a : List Int} (h : a.length = l + r) (ht : t < r) : (flipRow q l a).getD (l + t) 0 = (-(a.getD (l + t) 0)) % (q : Int) := by
  have hl : (a.take l).length = l := by rw [List.length_take]; omega
  unfold flipRow
  rw [List.getD_eq_getElem?_getD, List.getElem?_append_right (by omega), hl, List.getElem?_map, List.getElem?_drop, show l + (l + t - l) = l + t by omega, List.getElem?_eq_getElem (by omega), List.getD_eq_getElem?_getD, List.getElem?_eq_getElem (by omega)]
  rfl
theorem getD_setI {zs : List Int} {k t : Nat} {x : Int} (h : k < zs.length) : (zs.set k x).getD t 0 = if t = k then x else zs.getD t 0 := by
  rw [List.getD_eq_getElem?_getD, List.getElem?_set]
  split
  · next e => subst e; simp
  · next e => rw [if_neg (Ne.symm e), List.getD_eq_getElem?_getD]
theorem ext_getD {x y : List Int} (h : x.length = y.length) (e : ∀ t, t < x.length → x.getD t 0 = y.getD t 0) : x = y := by
  refine List.ext_getElem h fun t h1 h2 => ?_
  have := e t h1
  rwa [List.getD_eq_getElem?_getD, List.getElem?_eq_getElem h1, List.getD_eq_getElem?_getD, List.getElem?_eq_getElem h2, Option.getD_some, Option.getD_some] at this

theorem gdrw (a : World) : a.grownBy a.drew none := ⟨rfl, rfl, rfl, Nat.le_refl _, fun _ _ _ => rfl⟩
theorem bx_one {w : World} {k : Nat} {x : Value} {t : TypeId} (h : w.heap[k]? = some (.cells #[x] t (0, 0))) : w.cell? ⟨k, 0, none⟩ = some x := cell_blk h 0

set_option maxRecDepth 100000 in
set_option maxHeartbeats 1000000 in
/-- what the program's closure makes of a row -/
theorem fn_orth (B q l r : Nat) [NeZero q] (b : Value) (bx0 bp : Nat) (w : World) (L : List (List Int)) (hL : RowsOk q (l + r) L) (hq2 : 2 ≤ q) (hq : q ≤ 97) (hlr : l + r ≤ 24) (hbx : w.heap[bx0]? = some (.cells #[.int .i64 l, .int .i64 r, b] 65 (0, 0))) (hbp : w.heap[bp]? = some (.cells #[.int .i64 q] 3 (0, 0))) :
    RowFn 235 (fun x => #[x, .pointer (some ⟨bx0, 0, none⟩), .pointer (some ⟨bp, 0, none⟩)]) B w L (flipRow q l) := by
  intro W a c row hrow hg hi hc hb
  obtain ⟨hl, hbd⟩ := hL row hrow
  have HB := Lib.hid fun W' (h : W.grownBy W' none) => And.intro (bx3 (bx_on hbx (hg.trans h))).1 (bx_one (bx_on hbp (hg.trans h)))
  have HCL := Lib.hid (clone_any (.slice a row.length c) row W hi (by omega))
  have HFL := Lib.hid (flip_len (q := q) hl)
  have HL := Lib.hid hl
  have HBD := Lib.hid (show ∀ t, t < l + r → 0 ≤ row.getD t 0 ∧ row.getD t 0 < q from fun t ht => by
    rw [List.getD_eq_getElem?_getD, List.getElem?_eq_getElem (by omega)]
    exact hbd _ (List.getElem_mem _))
  have F1 := Lib.hid fun t (ht : t < l) => flip_l (q := q) (r := r) hl ht
  have F2 := Lib.hid fun t (ht : t < r) => flip_r (q := q) (l := l) hl ht
  rw [hl] at HCL ⊢
  clear hi hc hb hg hL hbx hbp hbd hrow
  go_enter Tryd.func235, Tryd.ntmps235
  go_wp2_with (
    go_at_call 112
    go_loud (refine HCL.out.mono ?_)
    rintro e w1 ⟨v, rfl, ho, g1⟩
    obtain ⟨oa, oc, rfl⟩ := own_shape ho
    rw [HL.out] at ho ⊢
    have HS := Lib.hid ((Sep.start W).newI g1 ho)
    have hb1 := (HB.out w1 g1).1
    clear ho g1)
  go_loopw [6] (fun i wr => ∃ (k : Nat) (zs : List Int), l ≤ k ∧ k ≤ l + r ∧ i = .int .i64 k ∧ zs.length = l + r ∧ (∀ t, t < k → zs.getD t 0 = (flipRow q l row).getD t 0) ∧ (∀ t, k ≤ t → zs.getD t 0 = row.getD t 0) ∧ Sep wr [OI (.slice oa (l + r) oc) zs, KeepA W]) (fun i _ => l + r - (intOf i).toNat)
  case atStart => exact ⟨l, row, by omega, by omega, rfl, HL.out, fun t ht => (F1.out t ht).symm, fun t _ => rfl, HS.out⟩
  case round =>
    obtain ⟨k, zs, hk0, hk, rfl, hz, h1, h2, hs⟩ := hrel
    have HZ := Lib.hid hz; have H1 := Lib.hid h1; have H2 := Lib.hid h2; have HSX := Lib.hid hs
    clear hz h1 h2 hs hb1
    by_cases hlt : k < l + r
    · obtain ⟨g, cap, hge, _⟩ := HSX.out.hd.parts (by intro h; have := HZ.out; rw [h] at this; simp at this; omega)
      rw [HZ.out] at hge
      cases hge
      have HD := Lib.hid HSX.out.dr
      have hc := HD.out.hd.cell HZ.out.symm (show k < zs.length by rw [HZ.out]; exact hlt)
      have hfr := HD.out.hd.free HZ.out.symm k
      have hzk : zs[k]'(by rw [HZ.out]; exact hlt) = row.getD k 0 := by
        have := H2.out k (Nat.le_refl _)
        rwa [List.getD_eq_getElem?_getD, List.getElem?_eq_getElem (by rw [HZ.out]; exact hlt), Option.getD_some] at this
      rw [hzk] at hc
      obtain ⟨hbk0, hbk1⟩ := HBD.out k hlt
      have hB := HB.out wr.drew HD.out.tl.hd
      have hb0 := hB.2
      have HSN := Lib.hid (HD.out.setI HZ.out.symm k ((-(row.getD k 0)) % (q : Int)))
      have HFK := Lib.hid (show (flipRow q l row).getD k 0 = (-(row.getD k 0)) % (q : Int) by
        obtain ⟨t, rfl⟩ : ∃ t, k = l + t := ⟨k - l, by omega⟩
        exact F2.out t (by omega))
      have hkz : k < zs.length := by rw [HZ.out]; exact hlt
      have HKZ := Lib.hid hkz
      clear hzk hB hkz
      generalize row.getD k 0 = xk at *
      have hw : IntKind.i64.wrap (-xk) = -xk := by rw [IntKind.wrap_i64]; omega
      have hm1 := Int.emod_nonneg (-xk) (show (q : Int) ≠ 0 by omega)
      have hm2 := Int.emod_lt_of_pos (-xk) (show 0 < (q : Int) by omega)
      have HMO := Lib.hid fun W' => mod_all (q : Int) (-xk) (by omega) (by omega) (by omega) (by omega) W'
      generalize (-xk) % (q : Int) = nk at *
      go_wp2_with fail
      go_region_law (first
        | (try go_simp
           go_at_call 236
           go_loud (refine (HMO.out _).mono ?_)
           rintro e w' ⟨rfl, rfl⟩))
      all_goals
        go_wp2
        go_roundw
        case rel => exact ⟨k + 1, zs.set k nk, by omega, by omega, by go_num, by rw [List.length_set]; exact HZ.out, fun t ht => by
          rw [getD_setI HKZ.out]
          split
          · next e => rw [e, HFK.out]
          · exact H1.out t (by omega), fun t ht => by
          rw [getD_setI HKZ.out, if_neg (by omega)]
          exact H2.out t (by omega), HSN.out⟩
        case measure => simp [intOf]; omega
    · have hfin : zs = flipRow q l row := ext_getD (by rw [HZ.out, HFL.out]) fun t ht => H1.out t (by have := HZ.out; omega)
      have HFI := Lib.hid hfin
      clear hfin
      go_wp2
      go_ret
      have hsx := HSX.out
      rw [HFI.out] at hsx
      have h3 := hsx.ints
      rw [HFL.out]
      exact ⟨oa, oc, rfl, h3.read, fun _ k hk => Or.inr ((h3.lt k (by show (Value.slice _ _ _).ownBlock = some k; rw [← h3.blk]; exact hk)).1), hsx.tl.hd⟩

theorem size_rel (l r : Int) (v : Value) (w : World) (h0 : 0 ≤ l) (h1 : l ≤ 1000) (h2 : 0 ≤ r) (h3 : r ≤ 1000) : Calls Tryd.prog 219 #[rlV l r v] w fun e w' => e = .returned (.int .i64 (l + r)) ∧ w.grownBy w' none := by
  have HG := Lib.hid fun o => grownBy_alloc w o none
  unfold rlV
  go_enter Tryd.func219, Tryd.ntmps219
  go_wp2
  go_ret
  exact ⟨rfl, HG.out _⟩

set_option maxRecDepth 100000 in
set_option maxHeartbeats 2000000 in
theorem orthogonalRelation_yes (p l r : Int) (u : Value) (A : List (List Int)) (w : World) (ht : Tab w) (hu : MatC w u A) (hb : relB p l r A = true) :
    Calls Tryd.prog 95 #[.int .i64 p, rlV l r u] w fun e w' => ∃ o, e = .returned (.tuple #[rlV l r o, .bool true]) ∧ Pre w.heap.size w' o (orthR p l.toNat r.toNat A) ∧ w.grownBy w' none := by
  have hb0 := hb
  obtain ⟨q, iq, a, b, rfl, rfl, rfl, hf, hq, h1, h2, hA, hok⟩ := relB_parts hb
  simp only [Int.toNat_natCast]
  have hq2 := lt_p hf
  have H1 := fun W (hg : w.grownBy W none) => isRelation_any q a b u A W (ht.grown hg) (hu.v.carry hg) (by omega) (fun row hr => by rw [(hok row hr).1]; omega)
  rw [hb0] at H1
  have HA := Lib.hid H1
  have hfo := map_ok (f := flipRow q a) hok fun x hx => flipRow_ok hx
  have H2 := fun W (hg : w.grownBy W none) (hb1 : W.heap[w.heap.size + 1]? = some (.cells #[.int .i64 a, .int .i64 b, u] 65 (0, 0))) (hb2 : W.heap[w.heap.size]? = some (.cells #[.int .i64 q] 3 (0, 0))) =>
    eachOrth_any (.pointer (some ⟨w.heap.size + 1, 0, none⟩)) (.pointer (some ⟨w.heap.size, 0, none⟩)) a b u A (flipRow q a) W w hu hg (by omega) (fn_orth w.heap.size q a b u (w.heap.size + 1) w.heap.size W A hok (by omega) hq h1 hb1 hb2)
  have H3 := fun W o (h : MatV W o (A.map (flipRow q a))) => orthogonal_any q o _ (a + b) W hf (by omega) h hfo (by rw [List.length_map]; omega) (by omega)
  rw [show (((a + b : Nat)) : Int) = (a : Int) + (b : Int) by omega, show orthL q (A.map (flipRow q a)) (a + b) = orthR q a b A from rfl] at H3
  have H4 := Lib.hid fun W v => size_rel a b v W (by omega) (by omega) (by omega) (by omega)
  obtain ⟨ua, uc, rfl⟩ := hu.shape
  unfold rlV at *
  have HD := Lib.hid H2; have HE := Lib.hid H3
  generalize orthR q a b A = PL at *
  generalize A.map (flipRow q a) = CV at *
  generalize A.length = la at *
  have HS := Lib.hid ((((Sep.start w).box #[.int .i64 q] 3).box #[.int .i64 a, .int .i64 b, .slice ua la uc] 65).box #[.int .i64 0, .int .i64 0, .slice none 0 0] 65)
  have HG := Lib.hid (show w.grownBy _ none from HS.out.tl.tl.tl.hd)
  have hbz : w.heap.size + 1 + 1 < (((w.alloc (.cells #[.int .i64 q] 3)).alloc (.cells #[.int .i64 a, .int .i64 b, .slice ua la uc] 65)).alloc (.cells #[.int .i64 0, .int .i64 0, .slice none 0 0] 65)).heap.size := by simp
  simp only [show ∀ (W : World) o, (W.alloc o).heap.size = W.heap.size + 1 from fun W o => by simp] at HS
  have XF := Lib.hid fun W (c6 : Array Value) (h : Sep W [BxA (w.heap.size + 1 + 1) c6 65, BxA (w.heap.size + 1) #[.int .i64 a, .int .i64 b, .slice ua la uc] 65, BxA w.heap.size #[.int .i64 q] 3, KeepA w]) =>
    And.intro (bx3 h.s2.hd).1 (And.intro (bx3 h.s2.hd).2.1 (And.intro (bx3 h.s2.hd).2.2.1 (bx_one h.s3.hd)))
  obtain ⟨y0, y1, y2, y3⟩ := XF.out _ _ HS.out
  clear hu hok hA hb hb0 H1 H2 H3 ht hf hfo
  have hmf : ∀ (fn : Fn) (first cap : Array Value) (W : World), (Instr.makeFunc fn first cap).run Tryd.prog W = .ok (.func fn first cap) W := fun _ _ _ _ => rfl
  go_enter Tryd.func95, Tryd.ntmps95
  go_wp2_with (first
    | (go_at_call 156
       go_loud (with_reducible refine (HA.out _ HG.out).mono ?_)
       rintro e w1 ⟨rfl, g1⟩
       have HS1 := Lib.hid (HS.out.grown g1)
       have HG1 := Lib.hid (HG.out.trans g1)
       have HZ1 := Lib.hid (Nat.lt_of_lt_of_le hbz g1.size)
       obtain ⟨a0, a1, a2, a3⟩ := XF.out _ _ HS1.out
       clear g1)
    | (go_at_call 234
       go_loud (refine (HD.out _ HG1.out HS1.out.s2.hd HS1.out.s3.hd).mono ?_)
       rintro e w2 ⟨o, us, rfl, hs2, _⟩
       obtain ⟨xa, xc, hxe⟩ := hs2.readS.shape
       subst hxe
       have HM2 := Lib.hid hs2.readS
       have hg2 : World.grownBy _ w2 none := hs2.s2.hd
       have HS2 := Lib.hid (HS1.out.grown hg2)
       have HG2 := Lib.hid (HG1.out.trans hg2)
       have HZ2 := Lib.hid (Nat.lt_of_lt_of_le HZ1.out hg2.size)
       clear hs2 hg2))
  have HD2 := Lib.hid HS2.out.dr
  have X2 := Lib.hid (XF.out _ _ HD2.out)
  have HM3 := Lib.hid fun W (h : w2.drew.grownBy W none) => HM2.out.carry ((gdrw w2).trans h)
  have HZ3 := Lib.hid (show w.heap.size + 1 + 1 < w2.drew.heap.size from HZ2.out)
  have HG3 := Lib.hid (HG2.out.trans (gdrw w2))
  generalize CV.length = cl at *
  go_region_held3 (fun w' => w'.cell? ⟨w.heap.size + 1, 0, none⟩ = some (.int .i64 a) ∧ w'.cell? ⟨w.heap.size + 1, 1, none⟩ = some (.int .i64 b) ∧ w'.cell? ⟨w.heap.size + 1, 2, none⟩ = some (.slice ua la uc) ∧ w'.cell? ⟨w.heap.size, 0, none⟩ = some (.int .i64 q))
    (first | with_reducible exact X2.out | with_reducible exact X3.out | with_reducible exact X4.out | with_reducible exact X5.out)
    (first
      | (go_at_call 219
         go_loud (refine (H4.out _ _).mono ?_)
         rintro e w3 ⟨rfl, g3⟩
         have GD3 := Lib.hid g3
         have HD3 := Lib.hid (HD2.out.grown g3)
         have X3 := Lib.hid (XF.out _ _ HD3.out)
         clear g3)
      | (go_at_call 172
         go_loud (refine (HE.out _ _ (HM3.out _ GD3.out)).mono ?_)
         rintro e w4 ⟨ra, rc, rfl, hp, g4⟩
         have HP := Lib.hid hp
         have HD4 := Lib.hid (HD3.out.grown g4)
         have X4 := Lib.hid (XF.out _ _ HD4.out)
         obtain ⟨t0, t1, t2, t3, t4, t5⟩ := bx3 HD4.out.hd
         have HD5 := Lib.hid (((HD4.out.setB 0 (.int .i64 a)).setB 1 (.int .i64 b)).setB 2 (.slice ra PL.length rc))
         have X5 := Lib.hid (XF.out _ _ HD5.out)
         have HZ4 := Lib.hid (Nat.lt_of_lt_of_le HZ3.out GD3.out.size)
         clear hp g4))
  all_goals
    have HMM := Lib.hid (HP.out.only (three_set (w := w4) (w.heap.size + 1 + 1) (.int .i64 a) (.int .i64 b) (.slice ra PL.length rc)) (fun k' hk' => by have : k' = w.heap.size + 1 + 1 := hk'; have := HZ4.out; omega))
    obtain ⟨u0, u1, u2, u3, u4, u5⟩ := bx3 HD5.out.hd
    have HEE := Lib.hid (show w.grownBy _ none from HD5.out.tl.tl.tl.hd)
    have hz4 := HZ4.out
    generalize PL.length = rl at *
    generalize ((w4.setCell ⟨w.heap.size + 1 + 1, 0, none⟩ (.int .i64 a)).setCell ⟨w.heap.size + 1 + 1, 1, none⟩ (.int .i64 b)).setCell ⟨w.heap.size + 1 + 1, 2, none⟩ (.slice ra rl rc) = w6 at *
    go_wp2
    refine bodyPost_ret_by (v := .tuple #[.agg #[.int .i64 a, .int .i64 b, .slice ra rl rc], .bool true]) ?_ rfl ⟨_, rfl, HMM.out.base (by omega), HEE.out⟩
    simp [results, go_sem, *]
end Go.Proofs.YtpeaeminjbjlnaaDoor

/-
  Orthogonals of relations in the reference. Conditions: small sizes.
-/
namespace Go.Proofs.YtpeaeminjbjlnaaDoor
open Go.RowKit
set_option linter.unusedVariables false

theorem neg_sub (q x : Int) : (q - x) % q = (-x) % q := by
  rw [show q - x = q + -x by omega, Int.add_emod_left]
set_option maxRecDepth 100000 in
set_option maxHeartbeats 4000000 in
theorem sOrthogonalRelation_yes (p l r : Int) (u : Value) (A : List (List Int)) (w : World) (hu : MatV w u A) (hp0 : -1000 ≤ p) (hp1 : p ≤ 1000) (hb : relB p l r A = true) :
    Calls Tryd.prog 96 #[.int .i64 p, rlV l r u] w fun e w' => ∃ o, e = .returned (.tuple #[rlV l r o, .bool true]) ∧ Pre w.heap.size w' o (orthR p l.toNat r.toNat A) ∧ w.grownBy w' none := by
  have hb0 := hb
  obtain ⟨q, iq, a, b, rfl, rfl, rfl, hf, hq, h1, h2, hA, hok⟩ := relB_parts hb
  simp only [Int.toNat_natCast]
  have hq2 := lt_p hf
  have H1 := fun W (hg : w.grownBy W none) => rlGood_any q a b u A W (hu.carry hg) (by omega) (fun row hr => by rw [(hok row hr).1]; omega) hp0 hp1
  rw [hb0] at H1
  have HA := Lib.hid H1
  have hfo := map_ok (f := flipRow q a) hok fun x hx => flipRow_ok hx
  have H3 := fun W o (h : MatV W o (A.map (flipRow q a))) => spNull_any q (a + b) o _ W hf (by omega) h hfo (by rw [List.length_map]; omega) (by omega)
  rw [show (((a + b : Nat)) : Int) = (a : Int) + (b : Int) by omega, show orthL q (A.map (flipRow q a)) (a + b) = orthR q a b A from rfl] at H3
  have HE := Lib.hid H3
  have HU := Lib.hid hu; have HOK := Lib.hid hok
  obtain ⟨ua, uc, rfl⟩ := hu.shape
  unfold rlV at *
  generalize orthR q a b A = PL at *
  generalize hla : A.length = la at *
  have HLA := Lib.hid hla
  have HS := Lib.hid (((Sep.start w).box #[.int .i64 a, .int .i64 b, .slice ua la uc] 65).box #[.int .i64 0, .int .i64 0, .slice none 0 0] 65)
  have HG := Lib.hid (show w.grownBy _ none from HS.out.tl.tl.hd)
  simp only [show ∀ (W : World) o, (W.alloc o).heap.size = W.heap.size + 1 from fun W o => by simp] at HS
  obtain ⟨y0, y1, y2, _, _, _⟩ := bx3 HS.out.s2.hd
  clear hu hok hA hb hb0 H1 H3 hf hfo hla
  go_enter Tryd.func96, Tryd.ntmps96
  go_wp2_with (
    go_at_call 159
    go_loud (with_reducible refine (HA.out _ HG.out).mono ?_)
    rintro e w1 ⟨rfl, g1⟩
    have HS1 := Lib.hid (HS.out.grown g1).nilM
    obtain ⟨a0, a1, a2, _, _, _⟩ := bx3 HS1.out.s3.hd
    clear g1)
  clear a0 a1 a2
  go_loopw [6, 19] (fun out i wr => ∃ (k : Nat) (vs : List Value), k ≤ la ∧ i = .int .i64 k ∧ Sep wr [OM out vs ((A.map (flipRow q a)).take k), BxA (w.heap.size + 1) #[.int .i64 0, .int .i64 0, .slice none 0 0] 65, BxA w.heap.size #[.int .i64 a, .int .i64 b, .slice ua la uc] 65, KeepA w]) (fun _ i _ => la - (intOf i).toNat)
  case atStart => exact ⟨0, [], by omega, rfl, HS1.out⟩
  case round =>
    obtain ⟨k, vs, hk, rfl, hs⟩ := hrel
    have HSX := Lib.hid hs
    have hg : w.grownBy wr none := hs.s4.hd
    clear hs
    by_cases hlt : k < la
    · have hkA : k < A.length := by rw [HLA.out]; exact hlt
      obtain ⟨bb, bo, bcap, bml, br, brc, he, hcell, hrow⟩ := HU.out.rowK hg hkA
      cases he
      obtain ⟨hrl, hrb⟩ := HOK.out _ (getD_mem hkA)
      have HSN := Lib.hid (take_snocF (f := flipRow q a) hkA)
      have HPL := Lib.hid (show ((A.map (flipRow q a)).take k).length = k by rw [List.length_take, List.length_map, HLA.out]; omega)
      have HBD := Lib.hid (show ∀ t, t < a + b → 0 ≤ (A.getD k []).getD t 0 ∧ (A.getD k []).getD t 0 < q from fun t ht => by
        rw [List.getD_eq_getElem?_getD (l := A.getD k []), List.getElem?_eq_getElem (by omega)]
        exact hrb _ (List.getElem_mem _))
      have F1 := Lib.hid fun t (ht : t < a) => flip_l (q := q) (r := b) hrl ht
      have F2 := Lib.hid fun t (ht : t < b) => flip_r (q := q) (l := a) hrl ht
      have HFL := Lib.hid (flip_len (q := q) hrl)
      have HRL := Lib.hid hrl
      rw [hrl] at hcell hrow
      have HOW := Lib.hid (l1Own_any _ (A.getD k []) wr (hrow.carry hg) (by omega))
      obtain ⟨b0, b1, b2, _, _, _⟩ := bx3 HSX.out.s3.hd
      clear hrow hrb hkA hg hrl
      generalize A.getD k [] = row at *
      go_wp2_with (
        go_at_call 217
        go_loud (refine HOW.out.mono ?_)
        rintro e w2 ⟨v, rfl, ho, g2⟩
        obtain ⟨oa, oc, rfl⟩ := own_shape ho
        rw [HRL.out] at ho ⊢
        have HS2 := Lib.hid (HSX.out.newI g2 ho)
        obtain ⟨c0, c1, c2, _, _, _⟩ := bx3 HS2.out.s4.hd
        clear ho g2)
      clear b0 b1 b2 c0 c1 c2
      obtain ⟨w3, hw3⟩ : ∃ w3, w3 = w2 := ⟨_, rfl⟩
      go_loopw [10] (fun i wx => ∃ (j : Nat) (zs : List Int), a ≤ j ∧ j ≤ a + b ∧ i = .int .i64 j ∧ zs.length = a + b ∧ (∀ t, t < j → zs.getD t 0 = (flipRow q a row).getD t 0) ∧ (∀ t, j ≤ t → zs.getD t 0 = row.getD t 0) ∧ Sep wx [OI (.slice oa (a + b) oc) zs, OM u6 vs ((A.map (flipRow q a)).take k), BxA (w.heap.size + 1) #[.int .i64 0, .int .i64 0, .slice none 0 0] 65, BxA w.heap.size #[.int .i64 a, .int .i64 b, .slice (some ⟨bb, bo, none⟩) la uc] 65, KeepA w]) (fun i _ => a + b - (intOf i).toNat)
      case atStart => exact ⟨a, row, by omega, by omega, rfl, HRL.out, fun t ht => (F1.out t ht).symm, fun t _ => rfl, HS2.out⟩
      case round =>
        obtain ⟨j, zs, hj0, hj, rfl, hz, h1', h2', hs⟩ := hrel
        have HZ := Lib.hid hz; have G1 := Lib.hid h1'; have G2 := Lib.hid h2'; have HSY := Lib.hid hs
        clear hz h1' h2' hs
        by_cases hlj : j < a + b
        · obtain ⟨g, cap, hge, _⟩ := HSY.out.hd.parts (by intro h; have := HZ.out; rw [h] at this; simp at this; omega)
          rw [HZ.out] at hge
          cases hge
          have hc := HSY.out.hd.cell HZ.out.symm (show j < zs.length by rw [HZ.out]; exact hlj)
          have hfr := HSY.out.hd.free HZ.out.symm j
          have hzk : zs[j]'(by rw [HZ.out]; exact hlj) = row.getD j 0 := by
            have := G2.out j (Nat.le_refl _)
            rwa [List.getD_eq_getElem?_getD, List.getElem?_eq_getElem (by rw [HZ.out]; exact hlj), Option.getD_some] at this
          rw [hzk] at hc
          obtain ⟨hbk0, hbk1⟩ := HBD.out j hlj
          have HSN2 := Lib.hid (HSY.out.setI HZ.out.symm j ((-(row.getD j 0)) % (q : Int)))
          have HFK := Lib.hid (show (flipRow q a row).getD j 0 = (-(row.getD j 0)) % (q : Int) by
            obtain ⟨t, rfl⟩ : ∃ t, j = a + t := ⟨j - a, by omega⟩
            exact F2.out t (by omega))
          have HKZ := Lib.hid (show j < zs.length by rw [HZ.out]; exact hlj)
          clear hzk
          generalize row.getD j 0 = xk at *
          have hN := fun W => fdNegE_any q xk W (by omega) (by omega) hbk0 (by omega)
          rw [neg_sub] at hN
          generalize (-xk) % (q : Int) = nk at *
          have HN := Lib.hid hN
          clear hN
          go_wp2_with (
            go_at_call 237
            go_loud (with_reducible refine (HN.out _).mono ?_)
            rintro e w' ⟨rfl, rfl⟩)
          go_roundw
          case rel => exact ⟨j + 1, zs.set j nk, by omega, by omega, by go_num, by rw [List.length_set]; exact HZ.out, fun t ht => by
            rw [getD_setI HKZ.out]
            split
            · next e => rw [e, HFK.out]
            · exact G1.out t (by omega), fun t ht => by
            rw [getD_setI HKZ.out, if_neg (by omega)]
            exact G2.out t (by omega), HSN2.out⟩
          case measure => simp [intOf]; omega
        · have hfin : zs = flipRow q a row := ext_getD (by rw [HZ.out, HFL.out]) fun t ht => G1.out t (by have := HZ.out; omega)
          have hsy := HSY.out
          rw [hfin] at hsy
          have HSF := Lib.hid hsy
          clear hfin hsy
          go_wp2_with (
            at_builtin
            refine app_rowS rfl (.tmp 42) (.tmp 44) rfl rfl rfl HSF.out (by rw [HPL.out]; omega) ?_
            intro g8 c8 w8 h8
            rw [HPL.out] at h8 ⊢
            have HS8 := Lib.hid h8
            clear h8)
          go_roundw
          case rel => exact ⟨k + 1, _, by omega, by go_num, by rw [HSN.out]; exact HS8.out⟩
          case measure => simp [intOf]; omega
    · have hall : (A.map (flipRow q a)).take k = A.map (flipRow q a) := List.take_of_length_le (by rw [List.length_map, HLA.out]; omega)
      have hsx := HSX.out
      rw [hall] at hsx
      obtain ⟨xa, xc, hxe⟩ := hsx.hd.read.shape
      subst hxe
      have HD := Lib.hid hsx.tl.dr
      have HRD := Lib.hid fun W (h : wr.drew.grownBy W none) => hsx.hd.read.carry ((gdrw wr).trans h)
      have XF := Lib.hid fun W (c6 : Array Value) (h : Sep W [BxA (w.heap.size + 1) c6 65, BxA w.heap.size #[.int .i64 a, .int .i64 b, .slice ua la uc] 65, KeepA w]) =>
        And.intro (bx3 h.s2.hd).1 (bx3 h.s2.hd).2.1
      have X2 := Lib.hid (XF.out _ _ HD.out)
      have HRR := Lib.hid (HRD.out _ (grownBy_refl _ none))
      have hz3 : w.heap.size + 1 < wr.drew.heap.size := lt_of_blk HD.out.hd
      have hwr : IntKind.i64.wrap ((a : Int) + (b : Int)) = (a : Int) + (b : Int) := by rw [IntKind.wrap_i64]; omega
      clear hsx hall hg
      generalize (A.map (flipRow q a)).length = cl at *
      go_wp2_with fail
      go_region_held3 (fun w' => w'.cell? ⟨w.heap.size, 0, none⟩ = some (.int .i64 a) ∧ w'.cell? ⟨w.heap.size, 1, none⟩ = some (.int .i64 b))
        (first | with_reducible exact X2.out | with_reducible exact X4.out | with_reducible exact X5.out)
        (first
          | (go_at_call 177
             go_loud (refine (HE.out _ _ HRR.out).mono ?_)
             rintro e w4 ⟨ra, rc, rfl, hp, g4⟩
             have HP := Lib.hid hp
             have HD4 := Lib.hid (HD.out.grown g4)
             have X4 := Lib.hid (XF.out _ _ HD4.out)
             obtain ⟨t0, t1, t2, t3, t4, t5⟩ := bx3 HD4.out.hd
             have HD5 := Lib.hid (((HD4.out.setB 0 (.int .i64 a)).setB 1 (.int .i64 b)).setB 2 (.slice ra PL.length rc))
             have X5 := Lib.hid (XF.out _ _ HD5.out)
             clear hp g4))
      all_goals
        have HMM := Lib.hid (HP.out.only (three_set (w := w4) (w.heap.size + 1) (.int .i64 a) (.int .i64 b) (.slice ra PL.length rc)) (fun k' hk' => by have : k' = w.heap.size + 1 := hk'; omega))
        obtain ⟨u0, u1, u2, u3, u4, u5⟩ := bx3 HD5.out.hd
        have HEE := Lib.hid (show w.grownBy _ none from HD5.out.tl.tl.hd)
        generalize PL.length = rl at *
        generalize ((w4.setCell ⟨w.heap.size + 1, 0, none⟩ (.int .i64 a)).setCell ⟨w.heap.size + 1, 1, none⟩ (.int .i64 b)).setCell ⟨w.heap.size + 1, 2, none⟩ (.slice ra rl rc) = w6 at *
        go_wp2
        refine bodyPost_ret_by (v := .tuple #[.agg #[.int .i64 a, .int .i64 b, .slice ra rl rc], .bool true]) ?_ rfl ⟨_, rfl, HMM.out.base (by omega), HEE.out⟩
        simp [results, go_sem, *]
end Go.Proofs.YtpeaeminjbjlnaaDoor

/-
  The specification's separators. Conditions: the sizes are small.
-/
import Derived.Test.YtpeaeminjbjlnaaDoorMs19
import Derived.Test.YtpeaeminjbjlnaaDoorMs18
import Derived.Test.YtpeaeminjbjlnaaDoorMs17
import Derived.Test.YtpeaeminjbjlnaaDoorMs08
import Derived.Test.YtpeaeminjbjlnaaDoorMs00
import Derived.Test.YtpeaeminjbjlnaaDoorMs01
namespace Go.Proofs.YtpeaeminjbjlnaaDoor
open Go.RowKit
set_option linter.unusedVariables false

section
variable (p n : Int) (u v : Value) (L : List (List Int)) (x : List Int) (w : World) (hu : MatV w u L) (hv : IntsV w v x) (hl : L.length ≤ 1000000) (hll : ∀ row ∈ L, row.length ≤ 1000000) (hxl : x.length ≤ 1000000) (hp0 : -1000 ≤ p) (hp1 : p ≤ 1000)
include hu hv hl hll hxl hp0 hp1
set_option maxRecDepth 100000 in
theorem sSeparatorOf_no (hno : vectorB p n L x = false) : Calls Tryd.prog 73 #[.int .i64 p, mxV n u, v] w (SepPost w none) := by
  have HS := fun w' (hg : w.grownBy w' none) => spVector_any p n u v L x w' (hu.carry hg) (hv.carry hg) hl hll hxl hp0 hp1
  rw [hno] at HS
  have HS := Lib.hid HS
  unfold mxV at *
  obtain ⟨a, c, rfl⟩ := hu.shape
  obtain ⟨xa, xc, rfl, hvx⟩ := hv
  clear hu hvx hll hno
  generalize L.length = l at *
  generalize x.length = xl at *
  go_enter Tryd.func73, Tryd.ntmps73
  go_wp2_with (go_at_call 197
               with_reducible refine (HS.out _ (grownBy_alloc _ _ none)).mono ?_
               rintro e w1 ⟨rfl, hg⟩
               have HG := Lib.hid ((grownBy_alloc w _ none).trans hg)
               clear hg)
  go_ret2
  exact ⟨rfl, HG.out⟩
set_option maxRecDepth 100000 in
set_option maxHeartbeats 1000000 in
theorem sSeparatorOf_yes (hb : vectorB p n L x = true) : Calls Tryd.prog 73 #[.int .i64 p, mxV n u, v] w (SepPost w (sepOf p (orthL p L n.toNat) x)) := by
  have HS := fun w' (hg : w.grownBy w' none) => spVector_any p n u v L x w' (hu.carry hg) (hv.carry hg) hl hll hxl hp0 hp1
  rw [hb] at HS
  have HS := Lib.hid HS
  obtain ⟨q, i, m, rfl, rfl, h1, h2, h3, h4, h5, h6, h7⟩ := vectorB_nat hb
  rw [Int.toNat_natCast]
  have hxm := h7.1
  subst hxm
  have hp1 := lt_p h1
  have HO := Lib.hid fun w' (hg : w.grownBy w' none) => spNull_any q x.length u L w' h1 (by omega) (hu.carry hg) h6 (by omega) (by omega)
  have hor := (orth_red h1 h6).1
  have hkb := (orth_red h1 h6).len_le
  have HOR := Lib.hid hor
  have HF := Lib.hid h1
  have HV := Lib.hid hv
  have H7 := Lib.hid h7
  unfold mxV at *
  obtain ⟨a, c, rfl⟩ := hu.shape
  obtain ⟨xa, xc, rfl, hvx⟩ := hv
  have e0 := Lib.hid (alloc_heap_new w (.cells #[.int .i64 x.length, .slice a L.length c] 74))
  clear hu hvx hll hb h1 h5 h6 h7 hor
  generalize orthL q L x.length = K at *
  generalize hKl : K.length = kl at *
  have HKL := Lib.hid hKl
  clear hKl
  generalize L.length = l at *
  generalize x.length = m at *
  go_enter Tryd.func73, Tryd.ntmps73
  go_wp2_with (first
    | (go_at_call 197
       with_reducible refine (HS.out _ (grownBy_alloc _ _ none)).mono ?_
       rintro e w1 ⟨rfl, hg⟩
       obtain ⟨c0, c1, f0, f1⟩ := bx (bx_on e0.out hg)
       have HG := Lib.hid ((grownBy_alloc w _ none).trans hg)
       clear hg)
    | (go_at_call 177
       with_reducible refine (HO.out _ HG.out).mono ?_
       rintro e w2 ⟨ka, kc, rfl, hp, hg⟩
       have HP := Lib.hid hp.read; have HG2 := Lib.hid (HG.out.trans hg)
       clear hp hg c0 c1 f0 f1))
  go_loopw [27] (fun i wr => ∃ k : Nat, k ≤ kl ∧ i = .int .i64 k ∧ (∀ j, j < k → dotP q (K.getD j []) x = 0) ∧ w2.grownBy wr none) (fun i _ => kl - (intOf i).toNat)
  case atStart => exact ⟨0, by omega, rfl, fun j h => absurd h (by omega), grownBy_refl _ _⟩
  case round =>
    obtain ⟨k, hk, rfl, hz, hgr⟩ := hrel
    have HZ := Lib.hid hz; have HGR := Lib.hid hgr
    clear hz hgr
    by_cases hlt : k < kl
    · have hkk : k < K.length := by rw [HKL.out]; exact hlt
      obtain ⟨b, o, cap, ml, r, rc, he, hcell, hrow0⟩ := HP.out.rowK HGR.out hkk
      cases he
      have hro := HOR.out _ (getD_mem hkk)
      have hdb := dotP_bd (p := q) (K.getD k []) x
      have HDOT := Lib.hid (spDot_q q _ _ (K.getD k []) x wr (hrow0.carry HGR.out) (HV.out.carry (HG2.out.trans HGR.out)) (by rw [hro.1, H7.out.1]) (by rw [hro.1]; omega) (by omega) (by omega) (fun z hz => by have := hro.2 z hz; omega) (fun z hz => by have := H7.out.2 z hz; omega))
      rw [show dotTo (K.getD k []) x (K.getD k []).length % q = dotP q (K.getD k []) x from rfl] at HDOT
      rw [hro.1] at hcell HDOT hrow0
      have HRO := Lib.hid hro; have HROW := Lib.hid hrow0
      clear hro hrow0
      by_cases hd0 : dotP q (K.getD k []) x = 0
      · rw [hd0] at HDOT
        have HD0 := Lib.hid hd0
        clear hd0 hdb hkk
        go_wp2_with (go_at_call 178
                     with_reducible refine HDOT.out.mono ?_
                     rintro e w' ⟨rfl, q3, rfl⟩)
        go_roundw
        case rel => exact ⟨k + 1, by omega, by go_num, fun j hj => by
          by_cases hjk : j = k
          · rw [hjk]; exact HD0.out
          · exact HZ.out j (by omega), HGR.out.trans (grown_drewN _ _)⟩
        case measure => simp [intOf]; omega
      · have HSEP := Lib.hid (sepOf_at hkk HZ.out hd0)
        obtain ⟨hi1, hi2, hi3⟩ := inv_ok HF.out (show 0 < dotP q (K.getD k []) x by omega) hdb.2
        have HINV := Lib.hid fun wq => fdInvS_any q (dotP q (K.getD k []) x) wq HF.out (by omega) (by omega) hdb.2
        generalize hby : dotP q (K.getD k []) x = by' at *
        have hbb : (by' == 0) = false := by rw [beq_eq_false_iff_ne]; exact hd0
        generalize hiv : invI q by' = iv at *
        generalize K.getD k [] = row at *
        clear hby hkk hiv hi1
        go_wp2_with (first
          | (go_at_call 178
             with_reducible refine HDOT.out.mono ?_
             rintro e w' ⟨rfl, q3, rfl⟩)
          | (go_at_call 198
             with_reducible refine (HINV.out _).mono ?_
             rintro e w' ⟨rfl, rfl⟩))
        have HG3 := Lib.hid (HGR.out.trans (grown_drewN wr q3))
        generalize wr.drewN q3 = w5 at *
        clear hcell
        have HSC := Lib.hid (show (scaleV q row iv).length = m by simp only [scaleV, List.length_map]; exact HRO.out.1)
        go_loopw [12, 42] (fun out i wx => ∃ k2 : Nat, k2 ≤ m ∧ i = .int .i64 k2 ∧ Sep wx [OI out ((scaleV q row iv).take k2), KeepA w5]) (fun _ i _ => m - (intOf i).toNat)
        case atStart => exact ⟨0, by omega, rfl, (Sep.start w5).nilI⟩
        case round =>
          obtain ⟨k2, hk2, rfl, hs⟩ := hrel
          have HS6 := Lib.hid hs
          clear hs
          by_cases hlt2 : k2 < m
          · obtain ⟨d, rfl, hs1, hd1, hc1⟩ := (HROW.out.carry (HG3.out.trans HS6.out.s2.hd)).at (show k2 < row.length by rw [HRO.out.1]; exact hlt2)
            obtain ⟨db, dof, _⟩ := d
            simp only at hs1 hc1
            subst hs1
            have hbd := HRO.out.2 _ (List.getElem_mem (show k2 < row.length by rw [HRO.out.1]; exact hlt2))
            have hsn := take_snocD 0 (show k2 < (scaleV q row iv).length by rw [HSC.out]; exact hlt2)
            rw [scale_getD (by rw [HRO.out.1]; exact hlt2), getD_lt (by rw [HRO.out.1]; exact hlt2)] at hsn
            have HSN := Lib.hid hsn
            generalize row[k2]'(by rw [HRO.out.1]; exact hlt2) = y at *
            have HMUL := Lib.hid fun wq => fdMulS_any q y iv wq (by omega) (by omega) hbd.1 (by omega) (by omega) (by omega)
            have A5 := Lib.hid (show ((scaleV q row iv).take k2).length ≤ 1000000000 by rw [List.length_take]; omega)
            clear hsn hd1
            generalize y * iv % (q : Int) = ny at *
            go_wp2_with (first
              | (go_at_call 199
                 with_reducible refine (HMUL.out _).mono ?_
                 rintro e w' ⟨rfl, rfl⟩)
              | (at_builtin
                 refine app_intS rfl _ _ rfl rfl rfl HS6.out A5.out ?_
                 intro g2 cap2 w7 hs7
                 have HS7 := Lib.hid hs7
                 clear hs7))
            go_roundw
            case rel => exact ⟨k2 + 1, by omega, by go_num, by have h := HS7.out; rw [List.length_take] at h; rw [HSN.out]; exact h⟩
            case measure => simp [intOf]; omega
          · have ht : (scaleV q row iv).take k2 = scaleV q row iv := List.take_of_length_le (by rw [HSC.out]; omega)
            have HTK := Lib.hid ht
            clear ht
            go_wp2
            go_ret2
            rw [HSEP.out]
            exact ⟨_, rfl, by have h := HS6.out.hd.read; rw [HTK.out] at h; exact h, HG2.out.trans (HG3.out.trans HS6.out.s2.hd)⟩
    · have HEND := Lib.hid (sepOf_end fun j hj => HZ.out j (by have := HKL.out; omega))
      go_wp2
      go_ret2
      rw [HEND.out]
      exact ⟨rfl, HG2.out.trans HGR.out⟩
end
end Go.Proofs.YtpeaeminjbjlnaaDoor

/-
  What the six functions on separators answer, together. Conditions: small sizes.
-/
namespace Go.Proofs.YtpeaeminjbjlnaaDoor
open Go.RowKit
set_option linter.unusedVariables false

theorem qDot_q (p : Int) (v u : Value) (x y : List Int) (w : World) (hv : IntsV w v x) (hu : IntsV w u y) (hl : x.length = y.length) (hlm : x.length ≤ 1000) (hp : 1 ≤ p) (hp2 : p ≤ 1000) (hx : ∀ z ∈ x, 0 ≤ z ∧ z ≤ 1000) (hy : ∀ z ∈ y, 0 ≤ z ∧ z ≤ 1000) :
    Calls Tryd.prog 77 #[.int .i64 p, v, u] w fun e w' => e = .returned (.int .i64 (dotP p x y)) ∧ ∃ q, w' = w.drewN q := by
  have HV := Lib.hid hv; have HU := Lib.hid hu; have HX := Lib.hid hx; have HY := Lib.hid hy
  obtain ⟨a, cap, rfl, h1⟩ := hv
  obtain ⟨ua, ucap, rfl, h2⟩ := hu
  clear h1 h2 hx hy
  unfold dotP
  rw [← hl]
  have HLL := Lib.hid hl
  clear hl
  generalize hlen : x.length = l at *
  have HL := Lib.hid hlen
  clear hlen
  go_enter Tryd.func77, Tryd.ntmps77
  go_wp2
  go_loopw [7, 11] (fun s i wr => ∃ k : Nat, k ≤ l ∧ i = .int .i64 k ∧ s = .int .i64 (dotTo x y k % p) ∧ ∃ q, wr = w.drewN q) (fun _ i _ => l - (intOf i).toNat)
  case atStart => exact ⟨0, by omega, rfl, by simp [dotTo], 0, rfl⟩
  case round =>
    obtain ⟨k, hk, rfl, rfl, q0, rfl⟩ := hrel
    by_cases hlt : k < l
    · have hkx : k < x.length := by rw [HL.out]; exact hlt
      have hky : k < y.length := by rw [← HLL.out]; exact hlt
      obtain ⟨d, rfl, hs, hd, hcell⟩ := HV.out.at hkx
      obtain ⟨d2, rfl, hs2, hd2, hcell2⟩ := HU.out.at hky
      obtain ⟨db, dof, _⟩ := d
      obtain ⟨db2, dof2, _⟩ := d2
      simp only at hs hcell hs2 hcell2
      subst hs hs2
      have b1 := HX.out _ (List.getElem_mem hkx)
      have b2 := HY.out _ (List.getElem_mem hky)
      have hn : dotTo x y (k + 1) % p = (dotTo x y k % p + x[k] * y[k]) % p := by
        show (dotTo x y k + x.getD k 0 * y.getD k 0) % p = _
        rw [getD_lt hkx, getD_lt hky, Int.emod_add_emod]
      have HN := Lib.hid hn
      have m0 := Int.emod_nonneg (dotTo x y k) (show p ≠ 0 by omega)
      have m1 := Int.emod_lt_of_pos (dotTo x y k) (show 0 < p by omega)
      clear hn hd hd2
      generalize x[k] = xk at *
      generalize y[k] = yk at *
      generalize dotTo x y k % p = s at *
      have b3 := mul_bd2 (A := 1000) (B := 1000) ⟨by omega, b1.2⟩ b2 (by omega) (by omega)
      have b4 := Int.mul_nonneg b1.1 b2.1
      go_wp2
      go_quiet (fail)
      go_wp2
      go_roundw
      case rel => exact ⟨k + 1, by omega, by go_num, by rw [HN.out], ⟨_, rfl⟩⟩
      case measure => simp [intOf]; omega
    · have hkl : k = l := by omega
      subst hkl
      go_wp2
      go_ret
      exact ⟨rfl, _, rfl⟩


def SepU (w : World) (Z : Option (List Int)) (e : Ending) (w' : World) : Prop :=
  ∃ o, e = .returned (.tuple #[o, .bool Z.isSome]) ∧ IntsV w' o (Z.getD []) ∧ w.grownBy w' none
theorem nil_ints (w : World) : IntsV w nilS [] := (OwnInts.nil 0 w).read
theorem SepPost.u {w w' : World} {Z : Option (List Int)} {e : Ending} (h : SepPost w Z e w') : SepU w Z e w' := by
  cases Z with
  | none => obtain ⟨rfl, h⟩ := h; exact ⟨_, rfl, nil_ints w', h⟩
  | some z => obtain ⟨o, rfl, h1, h2⟩ := h; exact ⟨_, rfl, h1, h2⟩
/-- the six answers -/
structure Six (p n : Int) (u v : Value) (L : List (List Int)) (x : List Int) (w : World) (Z : Option (List Int)) (k h : Bool) (C : List Int) : Prop where
  h1 : ∀ W, w.grownBy W none → Calls Tryd.prog 72 #[.int .i64 p, mxV n u, v] W (SepU W Z)
  h2 : ∀ W, w.grownBy W none → Calls Tryd.prog 73 #[.int .i64 p, mxV n u, v] W (SepU W Z)
  h3 : ∀ W, w.grownBy W none → Calls Tryd.prog 56 #[.int .i64 p, mxV n u, v] W fun e w' => e = .returned (.tuple #[.bool h, .bool k]) ∧ W.grownBy w' none
  h4 : ∀ W, w.grownBy W none → Calls Tryd.prog 74 #[.int .i64 p, mxV n u, v] W fun e w' => e = .returned (.tuple #[.bool h, .bool k]) ∧ W.grownBy w' none
  h5 : ∀ W, w.grownBy W none → Calls Tryd.prog 75 #[.int .i64 p, mxV n u, v] W fun e w' => ∃ o, e = .returned (.tuple #[o, .bool h]) ∧ IntsV w' o C ∧ W.grownBy w' none
  h6 : ∀ W, w.grownBy W none → Calls Tryd.prog 76 #[.int .i64 p, mxV n u, v] W fun e w' => ∃ o, e = .returned (.tuple #[o, .bool h]) ∧ IntsV w' o C ∧ W.grownBy w' none
theorem six {p n : Int} {u v : Value} {L : List (List Int)} {x : List Int} {w : World} (ht : Tab w) (hu : MatV w u L) (hv : IntsV w v x) (hl : L.length ≤ 1000) (hll : ∀ row ∈ L, row.length ≤ 1000) (hxl : x.length ≤ 1000) (hp0 : -1000 ≤ p) (hp1 : p ≤ 1000) :
    (Six p n u v L x w none false false []) ∨
    (∃ (q : Nat) (_ : NeZero q) (m : Nat), p = q ∧ n = m ∧ fldN q = true ∧ q ≤ 97 ∧ m ≤ 24 ∧ L.length ≤ m ∧ IsRed q m L ∧ RowsOk q m L ∧ VecOk q m x ∧
      ((Six p n u v L x w none true true (coordsL L x) ∧ (coordsL L x).length = L.length ∧ (∀ z ∈ coordsL L x, 0 ≤ z ∧ z < (q : Int)) ∧ ∀ j, j < m → colTo q (coordsL L x) L j L.length = x.getD j 0) ∨
       (∃ z, Six p n u v L x w (some z) true false [] ∧ VecOk q m z ∧ dotP q z x = 1 ∧ ∀ b ∈ L, dotP q z b = 0))) := by
  have big : ∀ row ∈ L, row.length ≤ 1000000 := fun row hr => Nat.le_trans (hll row hr) (by decide)
  have bl : L.length ≤ 1000000 := Nat.le_trans hl (by decide)
  have bx : x.length ≤ 1000000 := Nat.le_trans hxl (by decide)
  cases hb : vectorB p n L x
  · refine Or.inl ⟨fun W hg => ?_, fun W hg => ?_, fun W hg => ?_, fun W hg => ?_, fun W hg => ?_, fun W hg => ?_⟩
    · exact (separatorOf_no p n u v L x W (hu.carry hg) (hv.carry hg) bl big bx (ht.grown hg) hb).mono fun e w' h => h.u
    · exact (sSeparatorOf_no p n u v L x W (hu.carry hg) (hv.carry hg) bl big bx hp0 hp1 hb).mono fun e w' h => h.u
    · exact hasVector_no p n u v L x W (ht.grown hg) (hu.carry hg) (hv.carry hg) bl big bx hb
    · exact sHasVector_no p n u v L x W (hu.carry hg) (hv.carry hg) bl big bx hp0 hp1 hb
    · exact (coordinatesOf_no p n u v L x W (ht.grown hg) (hu.carry hg) (hv.carry hg) bl big bx hb).mono fun e w' h => ⟨_, h.1, nil_ints w', h.2⟩
    · exact (sCoordinatesOf_no p n u v L x W (hu.carry hg) (hv.carry hg) bl big bx hp0 hp1 hb).mono fun e w' h => ⟨_, h.1, nil_ints w', h.2⟩
  · obtain ⟨q, i, m, rfl, rfl, hf, hq, hm, hlm, hred, hok, hvx⟩ := vectorB_nat hb
    refine Or.inr ⟨q, i, m, rfl, rfl, hf, hq, hm, hlm, hred, hok, hvx, ?_⟩
    have s1 := fun W (hg : w.grownBy W none) => separatorOf_yes q m u v L x W (hu.carry hg) (hv.carry hg) bl big bx (ht.grown hg) hb
    have s2 := fun W (hg : w.grownBy W none) => sSeparatorOf_yes q m u v L x W (hu.carry hg) (hv.carry hg) bl big bx hp0 hp1 hb
    have s3 := fun W (hg : w.grownBy W none) => hasVector_yes q m u v L x W (ht.grown hg) (hu.carry hg) (hv.carry hg) bl big bx hb
    have s4 := fun W (hg : w.grownBy W none) => sHasVector_yes q m u v L x W (hu.carry hg) (hv.carry hg) bl big bx hp0 hp1 hb
    have s5 := fun W (hg : w.grownBy W none) => coordinatesOf_yes q m u v L x W (ht.grown hg) (hu.carry hg) (hv.carry hg) bl big bx hb
    have s6 := fun W (hg : w.grownBy W none) => sCoordinatesOf_yes q m u v L x W (hu.carry hg) (hv.carry hg) bl big bx hp0 hp1 hb
    rw [Int.toNat_natCast] at s1 s2 s3 s4 s5 s6
    have hno := sep_none hf hred hvx
    cases hh : hasB q m L x
    · rw [hh] at s3 s4 s5 s6 hno
      cases hz : sepOf q (orthL q L m) x with
      | none => rw [hz] at hno; simp at hno
      | some z =>
        rw [hz] at s1 s2
        obtain ⟨z1, z2, z3⟩ := sep_some hf hred hvx hz
        refine Or.inr ⟨z, ⟨fun W hg => (s1 W hg).mono fun e w' h => h.u, fun W hg => (s2 W hg).mono fun e w' h => h.u, s3, s4, fun W hg => (s5 W hg).mono ?_, fun W hg => (s6 W hg).mono ?_⟩, z1, z2, z3⟩
        · rintro e w' ⟨o, h1, h2, h3⟩; exact ⟨o, h1, h2.read, h3⟩
        · rintro e w' ⟨o, h1, h2, h3⟩; exact ⟨o, h1, h2.read, h3⟩
    · rw [hh] at s3 s4 s5 s6
      have hz := hno.2 hh
      rw [hz] at s1 s2
      refine Or.inl ⟨⟨fun W hg => (s1 W hg).mono fun e w' h => h.u, fun W hg => (s2 W hg).mono fun e w' h => h.u, s3, s4, fun W hg => (s5 W hg).mono ?_, fun W hg => (s6 W hg).mono ?_⟩, by simp [coordsL], ?_, ?_⟩
      · rintro e w' ⟨o, h1, h2, h3⟩; exact ⟨o, h1, h2.read, h3⟩
      · rintro e w' ⟨o, h1, h2, h3⟩; exact ⟨o, h1, h2.read, h3⟩
      · intro z hz
        unfold coordsL at hz
        rw [List.mem_map] at hz
        obtain ⟨b, hb', rfl⟩ := hz
        obtain ⟨t, ht', rfl⟩ := List.getElem_of_mem hb'
        have hlt := lead_lt hf hred ht'
        rw [List.getD_eq_getElem?_getD, List.getElem?_eq_getElem ht', Option.getD_some] at hlt
        rw [getD_lt (by rw [hvx.1]; exact hlt)]
        exact hvx.2 _ (List.getElem_mem _)
      · intro j hj
        obtain ⟨c1, c2⟩ := col_comb (p := q) (k := coordsL L x) (fun row hr => (hok row hr).1) hj L.length (Nat.le_refl _)
        rw [← c2]
        unfold hasB at hh
        rw [beq_iff_eq] at hh
        rw [hh]
end Go.Proofs.YtpeaeminjbjlnaaDoor

/-
  What the two functions on spans answer, together. Conditions: small sizes.
-/
namespace Go.Proofs.YtpeaeminjbjlnaaDoor
open Go.RowKit
set_option linter.unusedVariables false

theorem space_of {q m : Nat} [NeZero q] {L : List (List Int)} (hf : fldN q = true) (hm : m ≤ 24) (hL : RowsOk q m L) : spaceB q m (reducedL q m L) = true := by
  have hr := reducedL_red hf hL
  have hl := hr.len_le
  unfold spaceB redB
  rw [fldB_nat, hf, rowsB_ok.2 hr.1, Int.toNat_natCast, reducedL_self hf hr]
  simp
  omega
/-- the two answers -/
structure TwoNo (p n : Int) (v : Value) (w : World) : Prop where
  h1 : ∀ W, w.grownBy W none → Calls Tryd.prog 79 #[.int .i64 p, .int .i64 n, v] W fun e w' => e = .returned (.tuple #[mxV 0 nilS, .bool false]) ∧ W.grownBy w' none
  h2 : ∀ W, w.grownBy W none → Calls Tryd.prog 80 #[.int .i64 p, .int .i64 n, v] W fun e w' => e = .returned (.tuple #[mxV 0 nilS, .bool false]) ∧ W.grownBy w' none
structure TwoYes (p n : Int) (v : Value) (L R : List (List Int)) (w : World) : Prop where
  h1 : ∀ W, w.grownBy W none → Calls Tryd.prog 79 #[.int .i64 p, .int .i64 n, v] W fun e w' => ∃ o, e = .returned (.tuple #[mxV n o, .bool true]) ∧ MatV w' o R ∧ W.grownBy w' none
  h2 : ∀ W, w.grownBy W none → Calls Tryd.prog 80 #[.int .i64 p, .int .i64 n, v] W fun e w' => ∃ o, e = .returned (.tuple #[mxV n o, .bool true]) ∧ MatV w' o R ∧ W.grownBy w' none
  h3 : ∀ W u r row, row ∈ L → Tab W → MatV W u R → IntsV W r row → Calls Tryd.prog 56 #[.int .i64 p, mxV n u, r] W fun e w' => e = .returned (.tuple #[.bool true, .bool true]) ∧ W.grownBy w' none
theorem two {p n : Int} {v : Value} {L : List (List Int)} {w : World} (ht : Tab w) (hv : MatV w v L) (hl : L.length ≤ 1000) (hll : ∀ row ∈ L, row.length ≤ 1000) (hp0 : -1000 ≤ p) (hp1 : p ≤ 1000) :
    TwoNo p n v w ∨ (∃ (m : Nat) (R : List (List Int)), n = m ∧ m ≤ 24 ∧ R.length ≤ m ∧ (∀ row ∈ R, row.length = m) ∧ (∀ row ∈ L, row.length = m) ∧ TwoYes p n v L R w) := by
  have big : ∀ row ∈ L, row.length ≤ 1000000 := fun row hr => Nat.le_trans (hll row hr) (by decide)
  have bl : L.length ≤ 1000000 := Nat.le_trans hl (by decide)
  cases hb : spanB p n L
  · exact Or.inl ⟨fun W hg => spanOf_no p n v L W (ht.grown hg) (hv.carry hg) bl big hb, fun W hg => sSpanOf_no p n v L W (hv.carry hg) bl big hp0 hp1 hb⟩
  · have hb' := hb
    unfold spanB at hb'
    simp only [Bool.and_eq_true, decide_eq_true_eq] at hb'
    obtain ⟨h1, ⟨h2, h2'⟩, h3, h4⟩ := hb'
    obtain ⟨b1, b2⟩ := fldB_bd h1
    obtain ⟨q, rfl⟩ := Int.eq_ofNat_of_zero_le (show 0 ≤ p by omega)
    obtain ⟨m, rfl⟩ := Int.eq_ofNat_of_zero_le h2
    haveI : NeZero q := ⟨by omega⟩
    have hf : fldN q = true := by rw [← fldB_nat]; exact h1
    have hok : RowsOk q m L := rowsB_ok.1 h4
    have hr := reducedL_red hf hok
    have hlen := hr.len_le
    refine Or.inr ⟨m, reducedL q m L, rfl, by omega, hlen, fun row hrow => (hr.1 row hrow).1, fun row hrow => (hok row hrow).1, ⟨fun W hg => ?_, fun W hg => ?_, fun W u r row hrow ht' hu hr' => ?_⟩⟩
    · refine (spanOf_yes q m v L W (ht.grown hg) (hv.carry hg) hb).mono ?_
      rintro e w' ⟨o, h5, h6, h7⟩
      rw [Int.toNat_natCast] at h6
      exact ⟨o, h5, h6.read, h7⟩
    · refine (sSpanOf_yes q m v L W (hv.carry hg) hb).mono ?_
      rintro e w' ⟨o, h5, h6, h7⟩
      rw [Int.toNat_natCast] at h6
      exact ⟨o, h5, h6.read, h7⟩
    · have hs := space_of hf (show m ≤ 24 by omega) hok
      have hrv := hok row hrow
      have hvb : vectorB q m (reducedL q m L) row = true := by
        unfold vectorB
        rw [hs, vecB_ok.2 hrv]
        rfl
      have hin : hasB q m (reducedL q m L) row = true := by
        rw [hasB_iff hf hr hrv, reducedL_span hf hok]
        obtain ⟨i, hi, rfl⟩ := List.getElem_of_mem hrow
        have := La.In.row (n := m) (A := mx q L) hi
        rwa [mx_at hi] at this
      have h := hasVector_yes q m u r (reducedL q m L) row W ht' hu hr' (by omega) (fun row hrow => by rw [(hr.1 row hrow).1]; omega) (by rw [hrv.1]; omega) hvb
      rw [Int.toNat_natCast, hin] at h
      exact h
end Go.Proofs.YtpeaeminjbjlnaaDoor

/-
  The laws' test of the lengths. Conditions: none.
-/
namespace Go.Proofs.YtpeaeminjbjlnaaDoor
open Go.RowKit
set_option linter.unusedVariables false

def Gives (v : Value) (w : World) (e : Ending) (w' : World) : Prop := e = .returned v ∧ w.grownBy w' none
theorem Gives.mono {v v' : Value} {w w' : World} {e : Ending} (h : Gives v w e w') (hv : v = v') : Gives v' w e w' := by subst hv; exact h

def bigB (l m : Nat) : Bool := decide (1048576 < (l : Int)) || decide (1048576 - (l : Int) < m)
theorem bigB_no {l m : Nat} (h : bigB l m = false) : l ≤ 1048576 ∧ m ≤ 1048576 := by
  unfold bigB at h
  rw [Bool.or_eq_false_iff, decide_eq_false_iff_not, decide_eq_false_iff_not] at h
  omega
theorem big_any (a b : Option Addr) (l m c d : Nat) (w : World) (hl : l ≤ 9223372036854775807) (hm : m ≤ 9223372036854775807) : Calls Tryd.prog 13 #[.slice a l c, .slice b m d] w fun e w' => e = .returned (.bool (bigB l m)) ∧ w = w' := by
  by_cases h1 : 1048576 < (l : Int)
  · have HF := Lib.hid (show bigB l m = true by unfold bigB; simp only [h1, decide_true, Bool.true_or])
    go_enter Tryd.func13, Tryd.ntmps13
    go_wp2
    go_ret
    exact ⟨by rw [HF.out]; rfl, rfl⟩
  · have hd : decide (1048576 < (l : Int)) = false := by simpa using h1
    by_cases h2 : 1048576 - (l : Int) < m
    · have HF := Lib.hid (show bigB l m = true by unfold bigB; simp only [h2, decide_true, Bool.or_true])
      go_enter Tryd.func13, Tryd.ntmps13
      go_wp2
      go_ret
      exact ⟨by rw [HF.out]; rfl, rfl⟩
    · have hd2 : decide (1048576 - (l : Int) < m) = false := by simpa using h2
      have HF := Lib.hid (show bigB l m = false by unfold bigB; rw [hd, hd2]; rfl)
      go_enter Tryd.func13, Tryd.ntmps13
      go_wp2
      go_ret
      exact ⟨by rw [HF.out]; rfl, rfl⟩

end Go.Proofs.YtpeaeminjbjlnaaDoor

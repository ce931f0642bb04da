/-
  What the law on polynomials asks of the lists. Conditions: valid polynomials.
-/
import Derived.Test.YtpeaeminjbjlnaaDoorMp00
import Derived.Test.YtpeaeminjbjlnaaDoorMp01
import Derived.Test.YtpeaeminjbjlnaaDoorMj04
import Derived.Test.YtpeaeminjbjlnaaDoorMk09
import Derived.Test.YtpeaeminjbjlnaaDoorMk08
import Derived.Test.YtpeaeminjbjlnaaDoorMj02
namespace Go.Proofs.YtpeaeminjbjlnaaDoor
open Go.RowKit
set_option linter.unusedVariables false

def cutK (K : List Int) : List Int := if K.length ≤ 41 then K else []
theorem cutK_ok {q : Nat} [NeZero q] {K : List Int} (hf : fldN q = true) (h : PolyOk q K) : polyB q (cutK K) = true := by
  unfold cutK
  split
  · next hl => exact polyB_of hf hl h
  · exact polyB_of hf (by simp) (PolyOk.nil _)
structure PoFacts (p : Int) (f g : List Int) : Prop where
  fq : polyB p (quoL p f g) = true
  lk : (poMulL p (quoL p f g) g).length ≤ 41
  fk : polyB p (poMulL p (quoL p f g) g) = true
  fr : polyB p (remL p f g) = true
  back : poAddL p (poMulL p (quoL p f g) g) 1 (remL p f g) = f
  rl : (remL p f g).length < g.length
  fd : polyB p (gcdL p f g) = true
  dne : gcdL p f g ≠ []
  fu : polyB p (invL p f g (gcdL p f g)) = true
  fv : polyB p (cofL p f g) = true
  fx : polyB p (cutK (poMulL p (invL p f g (gcdL p f g)) f)) = true
  fy : polyB p (cutK (poMulL p (cofL p f g) g)) = true
  sum : (poMulL p (invL p f g (gcdL p f g)) f).length ≤ 41 → (poMulL p (cofL p f g) g).length ≤ 41 → poAddL p (cutK (poMulL p (invL p f g (gcdL p f g)) f)) 1 (cutK (poMulL p (cofL p f g) g)) = gcdL p f g
  zl : (poAddL p (cutK (poMulL p (invL p f g (gcdL p f g)) f)) 1 (cutK (poMulL p (cofL p f g) g))).length ≤ 41
  rf : remL p f (gcdL p f g) = []
  rg : remL p g (gcdL p f g) = []
theorem cutK_len (K : List Int) : (cutK K).length ≤ 41 := by unfold cutK; split <;> simp_all
theorem po_facts {p : Int} {f g : List Int} (hb : (polyB p f && polyB p g) = true) (hne : g ≠ []) : PoFacts p f g := by
  rw [Bool.and_eq_true] at hb
  obtain ⟨q, iq, rfl, hf, hq, hq2, l1, o1⟩ := polyB_nat hb.1
  obtain ⟨q', iq', e1, _, _, _, l2, o2⟩ := polyB_nat hb.2
  obtain rfl : q = q' := by omega
  have B := bezout hf o1 o2 hne l1 l2
  have bl := B.len
  have hgl := len_pos hne
  have hql := quo_len (p := q) f g
  have hml := poMul_len (p := q) (quoL q f g) g
  have hqs : f.length < g.length → quoL q f g = [] := fun h => by unfold quoL; rw [if_pos h]
  have lq : (quoL q f g).length ≤ 41 := by
    by_cases h : f.length < g.length
    · rw [hqs h]; simp
    · omega
  have lk : (poMulL q (quoL q f g) g).length ≤ 41 := by
    by_cases h : f.length < g.length
    · rw [hqs h]; unfold poMulL; rw [if_pos (Or.inl rfl)]; simp
    · omega
  have hrl := rem_lt (p := q) hf o1 o2 hne
  have hdl : (gcdL q f g).length ≤ g.length := by
    rcases Nat.lt_or_ge g.length (gcdL q f g).length with h | h
    · exact absurd (by unfold quoL; rw [if_pos h]) B.quo
    · exact h
  have hdp := len_pos B.ne
  have hul : (invL q f g (gcdL q f g)).length ≤ g.length - (gcdL q f g).length := by
    have h1 : (invL q f g (gcdL q f g)).length < (quoL q g (gcdL q f g)).length := rem_lt (p := q) (f := poAddL q [] (invI q (lastC (eucN q g.length f g [1] []).1)) (eucN q g.length f g [1] []).2) hf (poAdd_ok (PolyOk.nil _)) (quo_ok o2) B.quo
    have h2 := quo_len (p := q) g (gcdL q f g)
    omega
  have hal := poAdd_len (p := q) (gcdL q f g) (-1) (poMulL q (invL q f g (gcdL q f g)) f)
  have hao := poAdd_ok (p := q) (g := poMulL q (invL q f g (gcdL q f g)) f) (k := -1) B.ok
  have hmf := poMul_len (p := q) (invL q f g (gcdL q f g)) f
  have hmz : invL q f g (gcdL q f g) = [] → (poMulL q (invL q f g (gcdL q f g)) f).length = 0 := fun h => by rw [h]; unfold poMulL; rw [if_pos (Or.inl rfl)]; rfl
  have hvl : (cofL q f g).length ≤ 41 := by
    have h2 := quo_len (p := q) (poAddL q (gcdL q f g) (-1) (poMulL q (invL q f g (gcdL q f g)) f)) g
    have h3 : (cofL q f g).length = (quoL q (poAddL q (gcdL q f g) (-1) (poMulL q (invL q f g (gcdL q f g)) f)) g).length := rfl
    by_cases hu0 : invL q f g (gcdL q f g) = []
    · have := hmz hu0
      omega
    · have := len_pos hu0
      omega
  have hvo : PolyOk q (cofL q f g) := quo_ok hao
  have one : toF q 1 = 1 := rfl
  refine ⟨polyB_of hf lq (quo_ok o1), lk, polyB_of hf lk (poMul_ok _ _), polyB_of hf (by omega) (rem_ok o1), ?_, hrl, polyB_of hf (by omega) B.ok, B.ne, polyB_of hf (by omega) B.oku, polyB_of hf hvl hvo, cutK_ok hf (poMul_ok _ _), cutK_ok hf (poMul_ok _ _), ?_, ?_, rem_zero hf o1 B.ok B.ne B.df, rem_zero hf o2 B.ok B.ne B.dg⟩
  · refine poly_ext (poAdd_ok (poMul_ok _ _)) o1 ?_
    rw [vec_poAdd, vec_poMul]
    funext j
    rw [div_eq (f := f) hf o2 hne j, one]
    grind
  · intro h1 h2
    unfold cutK
    rw [if_pos h1, if_pos h2]
    refine poly_ext (poAdd_ok (poMul_ok _ _)) B.ok ?_
    rw [vec_poAdd, vec_poMul, vec_poMul]
    funext j
    rw [B.sum j, one]
    grind
  · have h1 := poAdd_len (p := q) (cutK (poMulL q (invL q f g (gcdL q f g)) f)) 1 (cutK (poMulL q (cofL q f g) g))
    have h2 := cutK_len (poMulL q (invL q f g (gcdL q f g)) f)
    have h3 := cutK_len (poMulL q (cofL q f g) g)
    omega
theorem po_eval {p : Int} {f g : List Int} (hb : (polyB p f && polyB p g) = true) (x : Int) : evTo p (poMulL p f g) x (poMulL p f g).length = evTo p f x f.length * evTo p g x g.length % p ∧ (0 ≤ evTo p f x f.length ∧ evTo p f x f.length ≤ 97) ∧ (0 ≤ evTo p g x g.length ∧ evTo p g x g.length ≤ 97) := by
  rw [Bool.and_eq_true] at hb
  obtain ⟨q, iq, rfl, hf, hq, hq2, l1, o1⟩ := polyB_nat hb.1
  have h1 := ev_bd (p := q) f x f.length
  have h2 := ev_bd (p := q) g x g.length
  exact ⟨ev_mul f g x, ⟨h1.1, by omega⟩, h2.1, by omega⟩
theorem po_mulB {p : Int} {f g : List Int} (hb : (polyB p f && polyB p g) = true) (hl : (poMulL p f g).length ≤ 41) : polyB p (poMulL p f g) = true := by
  rw [Bool.and_eq_true] at hb
  obtain ⟨q, iq, rfl, hf, hq, hq2, l1, o1⟩ := polyB_nat hb.1
  exact polyB_of hf hl (poMul_ok _ _)
theorem po_mullen {p : Int} {f g : List Int} (hb : (polyB p f && polyB p g) = true) : (poMulL p f g).length ≤ 100 := by
  rw [Bool.and_eq_true] at hb
  obtain ⟨q, iq, rfl, hf, hq, hq2, l1, o1⟩ := polyB_nat hb.1
  obtain ⟨q', iq', e1, _, _, _, l2, o2⟩ := polyB_nat hb.2
  have := poMul_len (p := q) f g
  omega
end Go.Proofs.YtpeaeminjbjlnaaDoor

/-
  The number of some bytes. Conditions: the code is well laid.
-/
namespace Go.Proofs.YtpeaeminjbjlnaaDoor
open Go.RowKit
set_option linter.unusedVariables false
set_option maxRecDepth 100000 in
theorem numberOf_any (cv : Value) (w : World) (hc : CodeAt w cv) : Calls Tryd.prog 23 #[cv] w fun e w' => ∃ n : Int, e = .returned (.int .i64 n) ∧ 0 ≤ n ∧ n < 1000003 ∧ w = w' := by
  obtain ⟨a, len, cap, rfl, hl, hx⟩ := hc
  have HX := Lib.hid hx
  clear hx
  go_enter Tryd.func23, Tryd.ntmps23
  go_wp2_with fail
  go_loopw [3, 8] (fun n i wr => ∃ (k : Nat) (x : Int), k ≤ len ∧ i = .int .i64 k ∧ n = .int .i64 x ∧ 0 ≤ x ∧ x < 1000003 ∧ wr = w) (fun _ i _ => len - (intOf i).toNat)
  case atStart => exact ⟨0, 0, by omega, rfl, rfl, by omega, by omega, rfl⟩
  case round =>
    obtain ⟨k, x, hk, rfl, rfl, x0, x1, rfl⟩ := hrel
    by_cases hlt : k < len
    · obtain ⟨d, y, rfl, _, hs, hcell, y0, y1⟩ := HX.out k hlt
      obtain ⟨db, dof, _⟩ := d
      simp only at hs hcell
      subst hs
      have e1 : IntKind.i64.wrap (31 * x) = 31 * x := by rw [IntKind.wrap_i64]; omega
      have e2 : IntKind.i64.wrap y = y := by rw [IntKind.wrap_i64]; omega
      have e3 : IntKind.i64.wrap (31 * x + y) = 31 * x + y := by rw [IntKind.wrap_i64]; omega
      have e4 : (31 * x + y).tmod 1000003 = (31 * x + y) % 1000003 := Int.tmod_eq_emod_of_nonneg (by omega)
      have z0 := Int.emod_nonneg (31 * x + y) (show (1000003 : Int) ≠ 0 by omega)
      have z1 := Int.emod_lt_of_pos (31 * x + y) (show (0 : Int) < 1000003 by omega)
      have e5 : IntKind.i64.wrap ((31 * x + y) % 1000003) = (31 * x + y) % 1000003 := by rw [IntKind.wrap_i64]; omega
      have hk2 : (k : Int) < (len : Int) := by omega
      have Z := Lib.hid (And.intro z0 z1)
      clear z0 z1
      go_wp2_with fail
      go_roundw
      case rel => exact ⟨k + 1, (31 * x + y) % 1000003, by omega, by go_num, by first | rfl | go_num, Z.out.1, Z.out.2, by simp⟩
      case measure => simp [intOf]; omega
    · go_wp2
      go_ret
      exact ⟨_, rfl, x0, x1, rfl⟩
end Go.Proofs.YtpeaeminjbjlnaaDoor

/-
  What is a polynomial, and its trimming, in the reference. Conditions: small sizes.
-/
namespace Go.Proofs.YtpeaeminjbjlnaaDoor
open Go.RowKit
set_option linter.unusedVariables false

theorem polyB_all (p : Int) (f : List Int) : polyB p f = (fldB p && (decide ((f.length : Int) ≤ 41) && (f.all (elB p) && lastB f))) := by
  unfold polyB vecB
  rw [show decide ((f.length : Int) = f.length) = true from decide_eq_true rfl, Bool.true_and]
set_option maxRecDepth 100000 in
theorem poGood_any (p : Int) (u : Value) (f : List Int) (w : World) (hp0 : -1000 ≤ p) (hp1 : p ≤ 1000) (hu : IntsV w u f) (hl : f.length ≤ 1000000) :
    Calls Tryd.prog 103 #[.int .i64 p, u] w fun e w' => e = .returned (.bool (polyB p f)) ∧ w = w' := by
  have HIF := fdGood_any p w hp0 hp1
  have HVE := fdIn_any p u f w hu hl (by omega) (by omega)
  have HU := Lib.hid hu
  obtain ⟨ua, uc, rfl, _⟩ := id hu
  rw [polyB_all]
  clear hu
  cases h1 : fldB p
  · rw [h1] at HIF
    have HIF := Lib.hid HIF
    clear h1 HVE
    rw [Bool.false_and]
    go_enter Tryd.func103, Tryd.ntmps103
    go_wp2_with (go_at_call 206; with_reducible refine HIF.out.mono ?_; rintro e w' ⟨rfl, rfl⟩)
    go_ret
    exact ⟨rfl, rfl⟩
  · rw [h1] at HIF
    have HIF := Lib.hid HIF
    by_cases h2 : (f.length : Int) ≤ 41
    · rw [decide_eq_true h2, Bool.true_and, Bool.true_and]
      cases h3 : f.all (elB p)
      · rw [h3] at HVE
        have HVE := Lib.hid HVE
        rw [Bool.false_and]
        clear h1 h3
        go_enter Tryd.func103, Tryd.ntmps103
        go_wp2_with (first
          | (go_at_call 206; with_reducible refine HIF.out.mono ?_; rintro e w' ⟨rfl, rfl⟩)
          | (go_at_call 192; with_reducible refine HVE.out.mono ?_; rintro e w' ⟨rfl, rfl⟩))
        go_ret
        exact ⟨rfl, rfl⟩
      · rw [h3] at HVE
        have HVE := Lib.hid HVE
        rw [Bool.true_and]
        by_cases h4 : f.length = 0
        · have HR := Lib.hid (show lastB f = true by unfold lastB; rw [h4]; rfl)
          rw [HR.out]
          rw [h4] at HVE
          rw [h4]
          clear h1 h3
          go_enter Tryd.func103, Tryd.ntmps103
          go_wp2_with (first
            | (go_at_call 206; with_reducible refine HIF.out.mono ?_; rintro e w' ⟨rfl, rfl⟩)
            | (go_at_call 192; with_reducible refine HVE.out.mono ?_; rintro e w' ⟨rfl, rfl⟩))
          go_ret
          exact ⟨rfl, rfl⟩
        · have h4a : ((f.length : Int) == 0) = false := by rw [beq_eq_false_iff_ne]; omega
          have HR := Lib.hid (show lastB f = (f.getD (f.length - 1) 0 != 0) by unfold lastB; rw [h4a]; rfl)
          have hl1 : f.length - 1 < f.length := by omega
          obtain ⟨d, rfl, hs, _, hc⟩ := HU.out.at hl1
          obtain ⟨db, dof, _⟩ := d
          simp only at hs hc
          subst hs
          rw [← getD_lt hl1] at hc
          have w1 : IntKind.i64.wrap ((f.length : Int) - 1) = ((f.length - 1 : Nat) : Int) := by rw [IntKind.wrap_i64]; omega
          have w2 : ((f.length - 1 : Nat) : Int) < (f.length : Int) := by omega
          rw [HR.out]
          clear h1 h3 HR hl1
          generalize f.getD (f.length - 1) 0 = x at *
          by_cases hx : x = 0
          · subst hx
            go_enter Tryd.func103, Tryd.ntmps103
            go_wp2_with (first
              | (go_at_call 206; with_reducible refine HIF.out.mono ?_; rintro e w' ⟨rfl, rfl⟩)
              | (go_at_call 192; with_reducible refine HVE.out.mono ?_; rintro e w' ⟨rfl, rfl⟩))
            go_ret
            exact ⟨rfl, rfl⟩
          · have hx1 : (x == 0) = false := by rw [beq_eq_false_iff_ne]; exact hx
            have hx2 : (x != 0) = true := by rw [bne_iff_ne]; exact hx
            go_enter Tryd.func103, Tryd.ntmps103
            go_wp2_with (first
              | (go_at_call 206; with_reducible refine HIF.out.mono ?_; rintro e w' ⟨rfl, rfl⟩)
              | (go_at_call 192; with_reducible refine HVE.out.mono ?_; rintro e w' ⟨rfl, rfl⟩))
            go_ret
            exact ⟨by rw [hx2]; rfl, rfl⟩
    · rw [decide_eq_false h2, Bool.false_and, Bool.and_false]
      clear h1 HVE
      go_enter Tryd.func103, Tryd.ntmps103
      go_wp2_with (first
        | (go_at_call 206; with_reducible refine HIF.out.mono ?_; rintro e w' ⟨rfl, rfl⟩))
      go_ret
      exact ⟨rfl, rfl⟩
set_option maxRecDepth 100000 in
theorem poTrim_any (a : Option Addr) (c : Nat) (zs : List Int) (w : World) (hv : IntsV w (.slice a zs.length c) zs) (hc : zs.length ≤ c) (hl : zs.length ≤ 1000) :
    Calls Tryd.prog 246 #[.slice a zs.length c] w fun e w' => ∃ o, e = .returned o ∧ OwnInts w.heap.size w' o (trimL zs) ∧ w.grownBy w' none := by
  have HV := Lib.hid hv
  have hown := fun c' => l1Own_any (.slice a (trimL zs).length c') (trimL zs) w (by
    rw [trimL_len]
    exact ints_take hv (trimTo_le zs zs.length) c') (by have := trimL_le zs; omega)
  have HTL := Lib.hid (trimL_len zs)
  have HOWN := Lib.hid hown
  clear hv hown
  generalize hlz : zs.length = l at *
  have HLZ := Lib.hid hlz
  clear hlz
  go_enter Tryd.func246, Tryd.ntmps246
  go_wp2_with fail
  go_loopw [3] (fun i wr => ∃ k : Nat, k ≤ l ∧ i = .int .i64 k ∧ trimTo zs l = trimTo zs k ∧ wr = w) (fun i _ => (intOf i).toNat)
  case atStart => exact ⟨l, Nat.le_refl _, rfl, rfl, rfl⟩
  case round =>
    obtain ⟨k, hk, rfl, ht, rfl⟩ := hrel
    have HTK := Lib.hid ht
    clear ht
    by_cases h0 : k = 0
    · subst h0
      have HZ0 := Lib.hid (show (trimL zs).length = 0 by rw [HTL.out, HTK.out]; rfl)
      have h := HOWN.out c
      rw [HZ0.out] at h
      have HF := Lib.hid h
      clear h
      go_wp2_with (
        go_at_call 217
        go_loud (with_reducible refine HF.out.mono ?_)
        rintro e w1 ⟨o, rfl, ho, hg⟩
        obtain ⟨b1, d1, rfl, _⟩ := own_cap' ho
        have HO := Lib.hid ho; have HG := Lib.hid hg
        clear ho hg)
      go_ret
      exact ⟨_, rfl, HO.out, HG.out⟩
    · obtain ⟨m, rfl⟩ : ∃ m, k = m + 1 := ⟨k - 1, by omega⟩
      have hml : m < zs.length := by rw [HLZ.out]; omega
      obtain ⟨d, rfl, hs, hd, hcell⟩ := HV.out.at hml
      obtain ⟨db, dof, _⟩ := d
      simp only at hs hcell
      subst hs
      rw [← getD_lt hml] at hcell
      have e1 : ((m + 1 : Nat) : Int) - 1 = (m : Int) := by omega
      have e2 : IntKind.i64.wrap (m : Int) = (m : Int) := by rw [IntKind.wrap_i64]; omega
      have e3 : (0 : Int) < ((m + 1 : Nat) : Int) := by omega
      have e4 : (m : Int) < (l : Int) := by omega
      have HST := Lib.hid (show trimTo zs (m + 1) = if zs.getD m 0 = 0 then trimTo zs m else m + 1 from rfl)
      clear hd hml
      generalize zs.getD m 0 = x at *
      by_cases hx : x = 0
      · subst hx
        go_wp2_with fail
        go_roundw
        case rel => exact ⟨m, by omega, by go_num, by rw [HTK.out, HST.out, if_pos rfl], by simp⟩
        case measure => simp [intOf]
      · have hx' : (x == 0) = false := by rw [beq_eq_false_iff_ne]; exact hx
        have HZ0 := Lib.hid (show (trimL zs).length = m + 1 by rw [HTL.out, HTK.out, HST.out, if_neg hx])
        have e5 : ((m + 1 : Nat) : Int) ≤ (c : Int) := by omega
        have h := HOWN.out c
        rw [HZ0.out] at h
        have HF := Lib.hid h
        clear h
        go_wp2_with (
          go_at_call 217
          go_loud (with_reducible refine HF.out.mono ?_)
          rintro e w1 ⟨o, rfl, ho, hg⟩
          obtain ⟨b1, d1, rfl, _⟩ := own_cap' ho
          have HO := Lib.hid ho; have HG := Lib.hid hg
          clear ho hg)
        go_ret
        exact ⟨_, rfl, HO.out, HG.out⟩
theorem poIf_any (u : Value) (f : List Int) (w : World) (hu : IntsV w u f) (hl : f.length ≤ 1000000) : Calls Tryd.prog 107 #[u] w fun e w' => ∃ o, e = .returned (.tuple #[o, .bool (decide (f.length ≤ 41))]) ∧ IntsV w o (if f.length ≤ 41 then f else []) ∧ w = w' := by
  have HU := Lib.hid hu
  obtain ⟨a, c, rfl, _⟩ := id hu
  clear hu
  by_cases h : f.length ≤ 41
  · have h' : ¬ (41 : Int) < (f.length : Int) := by omega
    rw [if_pos h, decide_eq_true h]
    go_enter Tryd.func107, Tryd.ntmps107
    go_wp2
    go_ret2
    exact ⟨_, rfl, HU.out, rfl⟩
  · have h' : (41 : Int) < (f.length : Int) := by omega
    rw [if_neg h, decide_eq_false h]
    go_enter Tryd.func107, Tryd.ntmps107
    go_wp2
    go_ret2
    exact ⟨_, rfl, IntsV.nil _, rfl⟩
end Go.Proofs.YtpeaeminjbjlnaaDoor

/-
  Products of polynomials in the reference. Conditions: small sizes.
-/
namespace Go.Proofs.YtpeaeminjbjlnaaDoor
open Go.RowKit
set_option linter.unusedVariables false

/-- a product as the reference makes it: not trimmed -/
def mulF (p : Int) (f g : List Int) : List Int := if f = [] ∨ g = [] then [] else mulTo p f g f.length
theorem mulF_eq {p : Nat} [NeZero p] {f g : List Int} (hf : fldN p = true) (h1 : PolyOk p f) (h2 : PolyOk p g) : mulF p f g = poMulL p f g := by
  unfold mulF poMulL
  by_cases h : f = [] ∨ g = []
  · rw [if_pos h, if_pos h]
  · rw [if_neg h, if_neg h, mul_trim hf h1 h2 (fun e => h (Or.inl e)) (fun e => h (Or.inr e))]
theorem mulF_ok {p : Nat} [NeZero p] (f g : List Int) : VecOk p (mulF p f g).length (mulF p f g) := by
  unfold mulF
  split
  · exact ⟨rfl, fun z hz => by simp at hz⟩
  · exact mul_ok f g _
theorem mulF_len (p : Int) (f g : List Int) : (mulF p f g).length ≤ f.length + g.length - 1 := by
  unfold mulF
  split
  · simp
  · rw [mul_len]; omega
set_option maxRecDepth 100000 in
set_option maxHeartbeats 2000000 in
theorem poMul_any (q : Nat) [NeZero q] (u v : Value) (f g : List Int) (w : World) (hq : 2 ≤ q) (hq2 : q ≤ 97) (hu : IntsV w u f) (hv : IntsV w v g) (hf : ∀ z ∈ f, 0 ≤ z ∧ z < q) (hg : ∀ z ∈ g, 0 ≤ z ∧ z < q) (lf : f.length ≤ 200) (lg : g.length ≤ 200) :
    Calls Tryd.prog 108 #[.int .i64 q, u, v] w fun e w' => ∃ o, e = .returned o ∧ OwnInts w.heap.size w' o (mulF q f g) ∧ w.grownBy w' none := by
  obtain ⟨i0, hi, hz0, hz1, hz2⟩ := info_parts info_int
  have HI := Lib.hid hi; have HZ0 := Lib.hid hz0; have HZ1 := Lib.hid hz1; have HZ2 := Lib.hid hz2
  have HU := Lib.hid hu; have HV := Lib.hid hv
  have HFB := Lib.hid hf; have HGB := Lib.hid hg
  have HMO := Lib.hid fun i => (mul_ok (p := q) f g i).2
  have HML := Lib.hid fun i => mul_len (q : Int) f g i
  obtain ⟨ua, uc, rfl, hui⟩ := hu
  obtain ⟨va, vc, rfl, hvi⟩ := hv
  have HS0 := Lib.hid (Sep.start w)
  clear hui hvi hf hg hi hz0 hz1 hz2
  by_cases hf0 : f.length = 0
  · have HR := Lib.hid (show mulF q f g = [] by unfold mulF; rw [if_pos (Or.inl (List.eq_nil_of_length_eq_zero hf0))])
    rw [hf0]
    go_enter Tryd.func108, Tryd.ntmps108
    go_wp2
    go_ret
    exact ⟨_, rfl, by rw [HR.out]; exact OwnInts.nil _ _, ⟨rfl, rfl, rfl, Nat.le_refl _, fun _ _ _ => rfl⟩⟩
  · have hf0' : ((f.length : Int) == 0) = false := by rw [beq_eq_false_iff_ne]; omega
    by_cases hg0 : g.length = 0
    · have HR := Lib.hid (show mulF q f g = [] by unfold mulF; rw [if_pos (Or.inr (List.eq_nil_of_length_eq_zero hg0))])
      rw [hg0]
      go_enter Tryd.func108, Tryd.ntmps108
      go_wp2
      go_ret
      exact ⟨_, rfl, by rw [HR.out]; exact OwnInts.nil _ _, ⟨rfl, rfl, rfl, Nat.le_refl _, fun _ _ _ => rfl⟩⟩
    · have hg0' : ((g.length : Int) == 0) = false := by rw [beq_eq_false_iff_ne]; omega
      have HR := Lib.hid (show mulF q f g = mulTo q f g f.length by
        unfold mulF
        rw [if_neg]
        rintro (h | h)
        · exact hf0 (by rw [h]; rfl)
        · exact hg0 (by rw [h]; rfl))
      generalize hn : f.length + g.length - 1 = n at *
      have hw1 : IntKind.i64.wrap ((f.length : Int) + (g.length : Int)) = (f.length : Int) + (g.length : Int) := by rw [IntKind.wrap_i64]; omega
      have hw2 : IntKind.i64.wrap ((f.length : Int) + (g.length : Int) - 1) = (n : Int) := by rw [IntKind.wrap_i64]; omega
      have hn1 : f.length ≤ n := by omega
      have hn2 : f.length + g.length = n + 1 := by omega
      have hn3 : n ≤ 400 := by omega
      have hcast : (f.length : Int) + (g.length : Int) - 1 = (n : Int) := by omega
      have HM0 := Lib.hid (show mulTo q f g 0 = List.replicate n 0 by unfold mulTo; rw [hn])
      have HCAST := Lib.hid hcast; have HN2 := Lib.hid hn2
      clear hn hg0 hcast hn2
      go_enter Tryd.func108, Tryd.ntmps108
      go_wp2_with (
        at_make
        refine wpList_make_full _ rfl _ _ 24 rfl _ 3 i0 (.int .i64 0) 1 Tryd.underlying24 HI.out HZ0.out HZ1.out _ _ _ _ n (by first | rfl | rw [HCAST.out]) (by first | rfl | rw [HCAST.out]) rfl rfl (by rw [HZ2.out]; omega) (by unfold maxLen; omega) (Nat.le_refl _) ?_
        intro w5 hown' hgr'
        rw [madeCells_int] at hown'
        have hs5 := HS0.out.newI hgr' (show OwnInts _ w5 (.slice (some ⟨w.heap.size, 0, none⟩) n n) (List.replicate n 0) by unfold OwnInts; rw [List.length_replicate]; exact hown')
        have HS5 := Lib.hid hs5
        clear hown' hgr' hs5)
      go_loopw [29] (fun i wr => ∃ k : Nat, k ≤ f.length ∧ i = .int .i64 k ∧ Sep wr [OI (.slice (some ⟨w.heap.size, 0, none⟩) n n) (mulTo q f g k), KeepA w]) (fun i _ => f.length - (intOf i).toNat)
      case atStart => exact ⟨0, by omega, rfl, by rw [HM0.out]; exact HS5.out⟩
      case round =>
        obtain ⟨k, hk, rfl, hs⟩ := hrel
        have HSX := Lib.hid hs
        clear hs
        by_cases hlt : k < f.length
        · obtain ⟨d, rfl, hs1, hd1, hc1⟩ := (HU.out.carry HSX.out.tl.hd).at hlt
          obtain ⟨db, dof, _⟩ := d
          simp only at hs1 hc1
          subst hs1
          have hb := HFB.out _ (List.getElem_mem hlt)
          rw [← getD_lt hlt] at hb hc1
          have HNX := Lib.hid (show mulTo q f g (k + 1) = addAt q (mulTo q f g k) k (f.getD k 0) g from rfl)
          have HZL := Lib.hid (HML.out k); have HZB := Lib.hid (HMO.out k)
          have HKN := Lib.hid (show k + g.length ≤ n by have := HN2.out; omega)
          clear hd1
          generalize f.getD k 0 = x at *
          generalize mulTo (q : Int) f g k = z at *
          have HZL := Lib.hid (show z.length = n from HZL.out)
          go_wp2_with fail
          go_loopw [36] (fun i wx => ∃ (j : Nat) (zs : List Int), j ≤ g.length ∧ i = .int .i64 j ∧ zs.length = n ∧ (∀ t, k ≤ t → t < k + j → zs.getD t 0 = (z.getD t 0 + x * g.getD (t - k) 0) % q) ∧ (∀ t, t < k ∨ k + j ≤ t → zs.getD t 0 = z.getD t 0) ∧ Sep wx [OI (.slice (some ⟨w.heap.size, 0, none⟩) n n) zs, KeepA w]) (fun i _ => g.length - (intOf i).toNat)
          case atStart => exact ⟨0, z, by omega, rfl, HZL.out, fun t h1 h2 => absurd h1 (by omega), fun _ _ => rfl, HSX.out⟩
          case round =>
            obtain ⟨j, zs, hj, rfl, hz, h1, h2, hs⟩ := hrel
            have HZ := Lib.hid hz; have H1 := Lib.hid h1; have H2 := Lib.hid h2; have HSY := Lib.hid hs
            clear hz h1 h2 hs
            by_cases hlj : j < g.length
            · have HD := Lib.hid HSY.out.dr
              have hgd : w.grownBy wr.drew none := HD.out.tl.hd
              have hkj : k + j < n := by have := HKN.out; omega
              have hjz : k + j < zs.length := by rw [HZ.out]; exact hkj
              have hc0 := HD.out.hd.cell HZ.out.symm hjz
              have hfr := HD.out.hd.free HZ.out.symm (k + j)
              rw [← getD_lt hjz, H2.out (k + j) (Or.inr (Nat.le_refl _))] at hc0
              have hzk : k + j < z.length := by rw [HZL.out]; exact hkj
              have B1 := HZB.out _ (List.getElem_mem hzk)
              rw [← getD_lt hzk] at B1
              have B2 := HGB.out _ (List.getElem_mem hlj)
              rw [← getD_lt hlj] at B2
              obtain ⟨d2, hd2, hsp2, hdb2, hcy⟩ := (HV.out.carry hgd).at hlj
              obtain ⟨db2, dof2, _⟩ := d2
              simp only at hsp2 hcy
              subst hsp2
              subst hd2
              rw [← getD_lt hlj] at hcy
              have hcy' : wr.cell? ⟨db2, dof2 + j, none⟩ = some (.int .i64 (g.getD j 0)) := hcy
              have HSN := Lib.hid fun y => HD.out.setI HZ.out.symm (k + j) y
              have HJZ := Lib.hid hjz
              have e1 : IntKind.i64.wrap ((k + j : Nat) : Int) = ((k + j : Nat) : Int) := by rw [IntKind.wrap_i64]; omega
              have e2 : ((k + j : Nat) : Int) < (n : Int) := by omega
              have e3 : (k : Int) + (j : Int) = ((k + j : Nat) : Int) := by omega
              clear hgd hdb2 hjz hzk
              generalize hak : z.getD (k + j) 0 = ak at *
              generalize hbk : g.getD j 0 = bk at *
              have HAK := Lib.hid hak; have HBK := Lib.hid hbk
              generalize hm : k + j = m at *
              have HM := Lib.hid hm
              have m0 := Int.emod_nonneg (x * bk) (show (q : Int) ≠ 0 by omega)
              have m1 := Int.emod_lt_of_pos (x * bk) (show 0 < (q : Int) by omega)
              have M1 := Lib.hid fun w1 => fdMulS_any q x bk w1 (by omega) (by omega) hb.1 (by omega) B2.1 (by omega)
              have m2 := fun w1 => fdAddS_any q ak (x * bk % q) w1 (by omega) (by omega) B1.1 (by omega) m0 (by omega)
              rw [add_mod] at m2
              have M2 := Lib.hid m2
              clear m0 m1 m2 hak hbk hm
              go_wp2_with fail
              go_region_law (first
                | (try go_simp
                   go_at_call 199
                   refine (M1.out _).mono ?_
                   rintro e w' ⟨rfl, rfl⟩)
                | (try go_simp
                   go_at_call 248
                   refine (M2.out _).mono ?_
                   rintro e w' ⟨rfl, rfl⟩))
              all_goals
                go_wp2
                go_roundw
                case rel => exact ⟨j + 1, zs.set m ((ak + x * bk) % q), by omega, by go_num, by rw [List.length_set]; exact HZ.out, fun t ht ht2 => by
                  have := HM.out
                  rw [getD_setI HJZ.out]
                  split
                  · next e => rw [e, HAK.out, show m - k = j by omega, HBK.out]
                  · exact H1.out t ht (by omega), fun t ht => by
                  have := HM.out
                  rw [getD_setI HJZ.out, if_neg (by omega)]
                  exact H2.out t (by omega), HSN.out _⟩
                case measure => simp [intOf]; omega
            · have hfin : zs = addAt q z k x g := by
                refine list_ext_getD (by rw [HZ.out, addAt_len, HZL.out]) fun t ht => ?_
                have htz : t < z.length := by rw [HZL.out, ← HZ.out]; exact ht
                rw [addAt_getD htz]
                by_cases hc : k ≤ t ∧ t < k + g.length
                · rw [if_pos hc]
                  exact H1.out t hc.1 (by omega)
                · rw [if_neg hc]
                  exact H2.out t (by omega)
              have hsy := HSY.out
              rw [hfin, ← HNX.out] at hsy
              have HSF := Lib.hid hsy
              clear hfin hsy
              go_wp2
              go_roundw
              case rel => exact ⟨k + 1, by omega, by go_num, HSF.out⟩
              case measure => simp [intOf]; omega
        · have hkl : k = f.length := by omega
          subst hkl
          go_wp2
          go_ret
          exact ⟨_, rfl, by rw [HR.out]; exact HSX.out.ints, HSX.out.tl.hd⟩
end Go.Proofs.YtpeaeminjbjlnaaDoor

/-
  Drawn polynomials. Conditions: small sizes.
-/
namespace Go.Proofs.YtpeaeminjbjlnaaDoor
open Go.RowKit
set_option linter.unusedVariables false

/-- the head of a row of integers, in the same block -/
theorem own_take {B : Nat} {w : World} {zs : List Int} {g n cap : Nat} (h : OwnInts B w (.slice (some ⟨g, 0, none⟩) n cap) zs) (hn : zs.length = n) {k : Nat} (hk : k ≤ n) : OwnInts B w (.slice (some ⟨g, 0, none⟩) k cap) (zs.take k) := by
  obtain ⟨h1, h2⟩ := h
  have hl : (zs.take k).length = k := by rw [List.length_take]; omega
  rcases h2 with ⟨h2, _⟩ | ⟨g', cap', cur, hv, hb, hg, hle, hcm, hsz, htk⟩
  · cases h2
  · cases hv
    refine ⟨by simp, Or.inr ⟨g, cap, cur, by rw [hl], hb, hg, by omega, hcm, hsz, ?_⟩⟩
    rw [hl, List.map_take, ← htk, List.take_take]
    congr 1
    omega
theorem Sep.cutI {w : World} {l : List Asrt} {zs : List Int} {g n cap : Nat} (h : Sep w (OI (.slice (some ⟨g, 0, none⟩) n cap) zs :: l)) (hn : zs.length = n) {k : Nat} (hk : k ≤ n) : Sep w (OI (.slice (some ⟨g, 0, none⟩) k cap) (zs.take k) :: l) :=
  h.upd' (A' := OI (.slice (some ⟨g, 0, none⟩) k cap) (zs.take k)) (Only.refl _ _) (own_take h.hd hn hk) fun _ hk' => Or.inl hk'
theorem mem_trimL {f : List Int} {z : Int} (h : z ∈ trimL f) : z ∈ f := List.mem_of_mem_take h
/-- a drawn list, beside the cursor -/
def DPo (P : List Int → Prop) (N b : Nat) (n : Int) (lst : List Asrt) (e : Ending) (w' : World) : Prop :=
  ∃ (o : Value) (zs : List Int), e = .returned o ∧ P zs ∧ Sep w' (OI o zs :: CA N b n :: lst)
def Ply (q : Nat) (zs : List Int) : Prop := zs.length ≤ 7 ∧ ∀ z ∈ zs, 0 ≤ z ∧ z < q
theorem Sep.swapI {w w' : World} {l : List Asrt} {v o : Value} {zs xs : List Int} (h : Sep w (OI v zs :: l)) (hg : w.grownBy w' none) (ho : OwnInts w.heap.size w' o xs) : Sep w' (OI o xs :: l) := (h.newI hg ho).s2.tl
set_option maxRecDepth 100000 in
set_option maxHeartbeats 1000000 in
theorem poly_any {N : Nat} {lst : List Asrt} (q b : Nat) (n : Int) (w : World) (h : Sep w (CA N b n :: lst)) (hq1 : 1 ≤ q) (hq : q ≤ 1000) (hn0 : 0 ≤ n) (hn : n + 60000 ≤ 1000000000000) :
    Calls Tryd.prog 290 #[.pointer (some ⟨b, 0, none⟩), .int .i64 q] w (DPo (Ply q) N b (n + 50) lst) := by
  have HS := Lib.hid h
  clear h
  go_enter Tryd.func290, Tryd.ntmps290
  go_wp2_with fail
  refine (Bd.among_new [(0 : Int), 1, 1, 2, 2, 3, 3, 4, 5, 7] _ _ _ _ HS.out.hd (by decide) (by decide) (by omega)).mono ?_
  rintro e w1 ⟨x, rfl, hx, c1, g1⟩
  have hx1 : 0 ≤ x ∧ x ≤ 7 := by simp at hx; omega
  obtain ⟨x, rfl⟩ := Int.eq_ofNat_of_zero_le hx1.1
  have hxb : x ≤ 7 := by omega
  have HS1 := Lib.hid (HS.out.draw c1 g1)
  clear hx c1 g1 hx1
  go_wp2_with fail
  go_loopw [6, 7] (fun out i wr => ∃ (k : Nat) (zs : List Int), k ≤ x ∧ i = .int .i64 k ∧ zs.length = k ∧ (∀ z ∈ zs, 0 ≤ z ∧ z < q) ∧ Sep wr (OI out zs :: CA N b (n + 2 + 4 * k) :: lst)) (fun _ i _ => x - (intOf i).toNat)
  case atStart => exact ⟨0, [], by omega, rfl, rfl, fun z hz => by simp at hz, by rw [show n + 2 + 4 * ((0 : Nat) : Int) = n + 2 by omega]; exact HS1.out.nilI⟩
  case round =>
    obtain ⟨k, zs, hk, rfl, hz, hb, hs⟩ := hrel
    have HZ := Lib.hid hz; have HB := Lib.hid hb; have HS2 := Lib.hid hs
    clear hz hb hs
    by_cases hlt : k < x
    · go_wp2_with fail
      refine (Bd.one_any 3 b _ _ HS2.out.s2.hd (by omega) (by omega)).mono ?_
      rintro e w2 ⟨bv, rfl, c2, g2⟩
      have HS3 := Lib.hid (HS2.out.s2.draw c2 g2).s2
      clear c2 g2
      cases bv
      · go_wp2_with (first
          | (go_at_call 274
             refine (Bd.elem_any q b _ _ HS3.out.s2.hd (by omega) (by omega)).mono ?_
             rintro e w3 ⟨z, rfl, hz, c3, g3⟩
             have HS4 := Lib.hid ((HS3.out.s2.draw c3 g3).s2)
             have hzb : 0 ≤ z ∧ z < q := by omega
             clear c3 g3 hz)
          | (at_builtin
             refine app_intS rfl _ _ rfl rfl rfl HS4.out (by rw [HZ.out]; omega) ?_
             intro g4 cap4 w4 hs4
             have HS5 := Lib.hid hs4
             clear hs4))
        go_roundw
        case rel => exact ⟨k + 1, zs ++ [z], by omega, by go_num, by rw [List.length_append, HZ.out]; rfl, fun y hy => by
            rcases List.mem_append.1 hy with h | h
            · exact HB.out y h
            · rw [List.mem_singleton] at h; rw [h]; exact hzb, by have h := HS5.out; rw [show n + 2 + 4 * (k : Int) + 2 + 2 = n + 2 + 4 * ((k + 1 : Nat) : Int) by omega] at h; exact h⟩
        case measure => simp [intOf]; omega
      · go_wp2_with (
          at_builtin
          refine app_intS rfl _ _ rfl rfl rfl HS3.out (by rw [HZ.out]; omega) ?_
          intro g4 cap4 w4 hs4
          have HS5 := Lib.hid ((hs4.s2.more (m := n + 2 + 4 * ((k + 1 : Nat) : Int)) (by omega)).s2)
          clear hs4)
        go_roundw
        case rel => exact ⟨k + 1, zs ++ [0], by omega, by go_num, by rw [List.length_append, HZ.out]; rfl, fun y hy => by
            rcases List.mem_append.1 hy with h | h
            · exact HB.out y h
            · rw [List.mem_singleton] at h; rw [h]; omega, HS5.out⟩
        case measure => simp [intOf]; omega
    · obtain ⟨a, c, rfl, hac⟩ := own_cap' HS2.out.hd
      have HTR := Lib.hid (poTrim_any a c zs wr HS2.out.hd.read hac (by rw [HZ.out]; omega))
      have hz7 : zs.length ≤ 7 := by rw [HZ.out]; omega
      clear HZ
      generalize hzz : zs.length = zl at *
      have HZZ := Lib.hid hzz
      clear hzz
      go_wp2_with (
        go_at_call 246
        go_loud (with_reducible refine HTR.out.mono ?_)
        rintro e w5 ⟨o, rfl, ho, hg⟩
        have HO := Lib.hid ho; have HG := Lib.hid hg
        clear ho hg)
      go_ret
      exact ⟨_, _, rfl, ⟨by have := trimL_le zs; have := HZZ.out; omega, fun z hz => HB.out z (mem_trimL hz)⟩, ((HS2.out.swapI HG.out HO.out).s2.more (by omega)).s2⟩
def AnyPl (q : Nat) (zs : List Int) : Prop := zs.length ≤ 50 ∧ ∀ z ∈ zs, -1 ≤ z ∧ z ≤ q
theorem AnyPl.snoc {q : Nat} {zs : List Int} {z : Int} (h : ∀ y ∈ zs, -1 ≤ y ∧ y ≤ (q : Int)) (hz : -1 ≤ z ∧ z ≤ q) : ∀ y ∈ zs ++ [z], -1 ≤ y ∧ y ≤ (q : Int) := fun y hy => by
  rcases List.mem_append.1 hy with h1 | h1
  · exact h y h1
  · rw [List.mem_singleton] at h1; rw [h1]; exact hz
set_option maxRecDepth 100000 in
set_option maxHeartbeats 1000000 in
theorem anyPoly_any {N : Nat} {lst : List Asrt} (q b : Nat) (n : Int) (w : World) (h : Sep w (CA N b n :: lst)) (hq1 : 1 ≤ q) (hq : q ≤ 1000) (hn0 : 0 ≤ n) (hn : n + 60000 ≤ 1000000000000) :
    Calls Tryd.prog 289 #[.pointer (some ⟨b, 0, none⟩), .int .i64 q] w (DPo (AnyPl q) N b (n + 1000) lst) := by
  have HP := Lib.hid (poly_any q b n w h hq1 hq hn0 hn)
  clear h
  go_enter Tryd.func289, Tryd.ntmps289
  go_wp2_with (
    go_at_call 290
    go_loud (with_reducible refine HP.out.mono ?_)
    rintro e w1 ⟨o, zs, rfl, ⟨hl, hb⟩, hs⟩
    obtain ⟨a, c, rfl, hac⟩ := own_cap' (show OwnInts 0 w1 o zs from hs.hd)
    have HS1 := Lib.hid hs
    have HB := Lib.hid (show ∀ y ∈ zs, -1 ≤ y ∧ y ≤ (q : Int) from fun y hy => by have := hb y hy; omega)
    generalize hzl : zs.length = zl at *
    have HZL := Lib.hid hzl
    clear hs hb hzl)
  refine (Bd.pick_any 24 b _ _ HS1.out.s2.hd (by omega) (by omega)).mono ?_
  rintro e w2 ⟨x, rfl, ⟨x0, x1⟩, c2, g2⟩
  have HS2 := Lib.hid (HS1.out.s2.draw c2 g2).s2
  clear c2 g2 HP HS1
  by_cases h0 : x = 0
  · subst h0
    go_wp2_with (first
      | (go_at_call 130
         refine (Bd.among_new [(0 : Int), -1, q] _ _ _ _ HS2.out.s2.hd (by simp) (by simp) (by omega)).mono ?_
         rintro e w3 ⟨v, rfl, hv, c3, g3⟩
         have HS3 := Lib.hid (HS2.out.s2.draw c3 g3).s2
         have hv1 : -1 ≤ v ∧ v ≤ q := by simp at hv; omega
         clear c3 g3 hv)
      | (at_builtin
         refine app_intS rfl _ _ rfl rfl rfl HS3.out (by rw [HZL.out]; omega) ?_
         intro g4 cap4 w4 hs4
         have HS4 := Lib.hid hs4
         clear hs4))
    go_ret
    exact ⟨_, _, rfl, ⟨by rw [List.length_append, HZL.out]; simp; omega, AnyPl.snoc HB.out hv1⟩, (HS4.out.s2.more (by omega)).s2⟩
  · by_cases h1 : x = 1
    · subst h1
      go_wp2_with fail
      go_loopw [5] (fun out wr => ∃ zs : List Int, zs.length ≤ 42 ∧ (∀ y ∈ zs, -1 ≤ y ∧ y ≤ (q : Int)) ∧ Sep wr (OI out zs :: CA N b (n + 100 + 4 * zs.length) :: lst)) (fun out _ => match out with | .slice _ l _ => 42 - l | _ => 0)
      case atStart => exact ⟨zs, by rw [HZL.out]; omega, HB.out, (HS2.out.s2.more (by omega)).s2⟩
      case round =>
        clear HS2 HB HZL
        obtain ⟨ys, hl2, hb, hs⟩ := hrel
        obtain ⟨a, c, rfl, hac⟩ := own_cap' hs.hd
        have HSX := Lib.hid hs; have HB := Lib.hid hb
        generalize hyl : ys.length = yl at *
        have HYL := Lib.hid hyl
        clear hs hb hyl
        go_wp2_with fail
        refine (Bd.pick_any 3 b _ _ HSX.out.s2.hd (by omega) (by omega)).mono ?_
        rintro e w3 ⟨y, rfl, ⟨y0, y1⟩, c3, g3⟩
        have HS3 := Lib.hid (HSX.out.s2.draw c3 g3).s2
        have hw1 : IntKind.i64.wrap (40 + y) = 40 + y := by rw [IntKind.wrap_i64]; omega
        clear c3 g3
        by_cases hlt : (yl : Int) < 40 + y
        · go_wp2_with (first
            | (go_at_call 274
               refine (Bd.elem_any q b _ _ HS3.out.s2.hd (by omega) (by omega)).mono ?_
               rintro e w4 ⟨z, rfl, hz, c4, g4⟩
               have HS4 := Lib.hid ((HS3.out.s2.draw c4 g4).s2)
               have hzb : -1 ≤ z ∧ z ≤ q := by omega
               clear c4 g4 hz)
            | (at_builtin
               refine app_intS rfl _ _ rfl rfl rfl HS4.out (by rw [HYL.out]; omega) ?_
               intro g5 cap5 w5 hs5
               have HS5 := Lib.hid hs5
               clear hs5))
          go_roundw
          case rel => exact ⟨_, by rw [List.length_append, HYL.out]; simp; omega, AnyPl.snoc HB.out hzb, by
              have h := (HS5.out.s2.more (m := n + 100 + 4 * ((ys ++ [z]).length : Int)) (by rw [List.length_append, HYL.out]; simp; omega)).s2
              exact h⟩
          case measure =>
            show 42 - (ys.length + 1) < 42 - yl
            rw [HYL.out]; omega
        · have hne : ys ≠ [] := by intro h; have := HYL.out; rw [h] at this; simp at this; omega
          obtain ⟨gr, gc, hge, _⟩ := (show OwnInts 0 w3 (.slice a yl c) ys from HS3.out.hd).parts hne
          have hga : a = some ⟨gr, 0, none⟩ := by injection hge
          subst hga
          clear hge
          have e1 : IntKind.i64.wrap ((yl : Int) - 1) = ((yl - 1 : Nat) : Int) := by rw [IntKind.wrap_i64]; omega
          have e2 : ((yl - 1 : Nat) : Int) ≤ (c : Int) := by omega
          have HS4 := Lib.hid (HS3.out.cutI HYL.out (k := yl - 1) (by omega))
          have HTL := Lib.hid (show (ys.take (yl - 1)).length = yl - 1 by rw [List.length_take, HYL.out]; omega)
          have HBT := Lib.hid (show ∀ y ∈ ys.take (yl - 1), -1 ≤ y ∧ y ≤ (q : Int) from fun y hy => HB.out y (List.mem_of_mem_take hy))
          clear hne
          generalize ys.take (yl - 1) = T at *
          go_wp2_with (
            at_builtin
            refine app_intS rfl _ _ rfl rfl rfl HS4.out (by rw [HTL.out]; omega) ?_
            intro g5 cap5 w5 hs5
            have HS5 := Lib.hid hs5
            clear hs5)
          go_ret
          exact ⟨_, _, rfl, ⟨by rw [List.length_append, HTL.out]; simp; omega, AnyPl.snoc HBT.out (by omega)⟩, (HS5.out.s2.more (by omega)).s2⟩
    · go_wp2_with fail
      go_ret
      exact ⟨_, _, rfl, ⟨by rw [HZL.out]; omega, HB.out⟩, (HS2.out.s2.more (by omega)).s2⟩
end Go.Proofs.YtpeaeminjbjlnaaDoor

/-
  The entries that draw two polynomials. Conditions: the code is well laid.
-/
namespace Go.Proofs.YtpeaeminjbjlnaaDoor
open Go.RowKit
set_option linter.unusedVariables false

/-- two drawn lists, beside the cursor -/
def DPo2 (q N b : Nat) (n : Int) (lst : List Asrt) (e : Ending) (w' : World) : Prop :=
  ∃ (o1 o2 : Value) (f g : List Int), e = .returned (.tuple #[o1, o2]) ∧ AnyPl q f ∧ AnyPl q g ∧ Sep w' (OI o1 f :: OI o2 g :: CA N b n :: lst)
set_option maxRecDepth 100000 in
set_option maxHeartbeats 2000000 in
theorem polyPair_any {N : Nat} {lst : List Asrt} (q b : Nat) (n : Int) (w : World) (h : Sep w (CA N b n :: lst)) (hq1 : 1 ≤ q) (hq : q ≤ 1000) (hn0 : 0 ≤ n) (hn : n + 100000 ≤ 1000000000000) :
    Calls Tryd.prog 241 #[.pointer (some ⟨b, 0, none⟩), .int .i64 q] w (DPo2 q N b (n + 3000) lst) := by
  have HA := Lib.hid (anyPoly_any q b n w h hq1 hq hn0 (by omega))
  have HB := Lib.hid fun W (ls : List Asrt) (hs : Sep W (CA N b (n + 1000) :: ls)) => anyPoly_any q b (n + 1000) W hs hq1 hq (by omega) (by omega)
  clear h
  go_enter Tryd.func241, Tryd.ntmps241
  go_wp2_with (first
    | (go_at_call 289
       with_reducible refine HA.out.mono ?_
       rintro e w1 ⟨o, f, rfl, ⟨lf, bf⟩, hs⟩
       obtain ⟨a, c, rfl, _⟩ := own_cap' (show OwnInts 0 w1 o f from hs.hd)
       have HS1 := Lib.hid hs; have HBF := Lib.hid bf
       clear hs bf)
    | (go_at_call 289
       refine (HB.out w1 _ HS1.out.s2).mono ?_
       rintro e w2 ⟨o, g, rfl, ⟨lg, bg⟩, hs⟩
       obtain ⟨a2, c2, rfl, _⟩ := own_cap' (show OwnInts 0 w2 o g from hs.hd)
       have HS2 := Lib.hid (show Sep w2 (CA N b (n + 1000 + 1000) :: OI (.slice a f.length c) f :: OI (.slice a2 g.length c2) g :: lst) from hs.s2.s3.s2)
       have HBG := Lib.hid bg
       clear hs bg))
  refine (Bd.one_any 2 b _ _ HS2.out.hd (by omega) (by omega)).mono ?_
  rintro e w3 ⟨bv, rfl, c3, g3⟩
  have HS3 := Lib.hid (HS2.out.draw c3 g3)
  clear c3 g3 HA HB HS1 HS2
  have hg1 := poGood_any q (.slice a f.length c) f w3 (by omega) (by omega) HS3.out.tl.hd.read (by omega)
  have hg2 := poGood_any q (.slice a2 g.length c2) g w3 (by omega) (by omega) HS3.out.tl.tl.hd.read (by omega)
  have HEND := Lib.hid (show Sep w3 (OI (.slice a f.length c) f :: OI (.slice a2 g.length c2) g :: CA N b (n + 3000) :: lst) from ((HS3.out.more (m := n + 3000) (by omega)).s3.s3))
  cases bv
  · clear hg1 hg2
    go_wp2_with fail
    go_ret2
    exact ⟨_, _, f, g, rfl, ⟨lf, HBF.out⟩, ⟨lg, HBG.out⟩, HEND.out⟩
  · cases h1 : polyB q f
    · rw [h1] at hg1
      have HG1 := Lib.hid hg1
      clear hg1 hg2 h1
      go_wp2_with (go_at_call 103; with_reducible refine HG1.out.mono ?_; rintro e w' ⟨rfl, rfl⟩)
      go_ret2
      exact ⟨_, _, f, g, rfl, ⟨lf, HBF.out⟩, ⟨lg, HBG.out⟩, HEND.out⟩
    · cases h2 : polyB q g
      · rw [h1] at hg1
        rw [h2] at hg2
        have HG1 := Lib.hid hg1; have HG2 := Lib.hid hg2
        clear hg1 hg2 h1 h2
        go_wp2_with (first
          | (go_at_call 103; with_reducible refine HG1.out.mono ?_; rintro e w' ⟨rfl, rfl⟩)
          | (go_at_call 103; with_reducible refine HG2.out.mono ?_; rintro e w' ⟨rfl, rfl⟩))
        go_ret2
        exact ⟨_, _, f, g, rfl, ⟨lf, HBF.out⟩, ⟨lg, HBG.out⟩, HEND.out⟩
      · rw [h1] at hg1
        rw [h2] at hg2
        have HG1 := Lib.hid hg1; have HG2 := Lib.hid hg2
        obtain ⟨q', iq, e1, hf, hq2, hq97, l1, o1⟩ := polyB_nat h1
        obtain rfl : q = q' := by omega
        obtain ⟨q', iq', e2, _, _, _, l2, o2⟩ := polyB_nat h2
        obtain rfl : q = q' := by omega
        have HO1 := Lib.hid o1.els; have HO2 := Lib.hid o2.els
        have HPY := Lib.hid (poly_any q b _ w3 HS3.out hq1 hq (by omega) (by omega))
        clear hg1 hg2 h1 h2 e1 e2 o1 o2 HEND
        go_wp2_with (first
          | (go_at_call 103; with_reducible refine HG1.out.mono ?_; rintro e w' ⟨rfl, rfl⟩)
          | (go_at_call 103; with_reducible refine HG2.out.mono ?_; rintro e w' ⟨rfl, rfl⟩)
          | (go_at_call 290
             go_loud (with_reducible refine HPY.out.mono ?_)
             rintro e w4 ⟨o, h, rfl, ⟨lh, bh⟩, hs⟩
             obtain ⟨a4, c4, rfl, _⟩ := own_cap' (show OwnInts 0 w4 o h from hs.hd)
             have HM1 := Lib.hid (poMul_any q _ _ f h w4 hq2 hq97 hs.tl.tl.hd.read hs.hd.read HO1.out bh (by omega) (by omega))
             have HM2 := Lib.hid fun W (hg : w4.grownBy W none) => poMul_any q _ _ g h W hq2 hq97 (hs.tl.tl.tl.hd.read.carry hg) (hs.hd.read.carry hg) HO2.out bh (by omega) (by omega)
             have HS4 := Lib.hid hs
             clear hs bh)
          | (go_at_call 108
             with_reducible refine HM1.out.mono ?_
             rintro e w5 ⟨o5, rfl, ho, hg⟩
             have HS5 := Lib.hid (HS4.out.newI hg ho)
             have HG5 := Lib.hid hg
             clear ho hg)
          | (go_at_call 108
             with_reducible refine (HM2.out _ HG5.out).mono ?_
             rintro e w6 ⟨o6, rfl, ho, hg⟩
             have HS6 := Lib.hid (HS5.out.newI hg ho)
             clear ho hg))
        go_ret2
        have k1 := mulF_ok (p := q) f h
        have k2 := mulF_ok (p := q) g h
        have k3 := mulF_len (q : Int) f h
        have k4 := mulF_len (q : Int) g h
        have hs := HS6.out
        have hs2 := ((hs.s2.s3.tl.s4.tl.s4.tl.s3).more (m := n + 3000) (by omega)).s3.s3
        exact ⟨_, _, _, _, rfl, ⟨by omega, fun z hz => by have := k1.2 z hz; omega⟩, ⟨by omega, fun z hz => by have := k2.2 z hz; omega⟩, hs2⟩

/-- a drawn prime and two lists -/
def DPol (w : World) (e : Ending) (w' : World) : Prop :=
  ∃ (p : Nat) (o1 o2 : Value) (f g : List Int), e = .returned (.tuple #[.int .i64 p, o1, o2]) ∧ 2 ≤ p ∧ p ≤ 97 ∧ AnyPl p f ∧ AnyPl p g ∧ IntsV w' o1 f ∧ IntsV w' o2 g ∧ w.grownBy w' none
set_option maxRecDepth 100000 in
theorem drawPolyMul_any (cv : Value) (w : World) (hc : CodeAt w cv) : Calls Tryd.prog 100 #[cv] w (DPol w) := by
  have HS := Lib.hid (Sep.startD hc)
  obtain ⟨a0, len, cap, rfl, _, _⟩ := hc
  go_enter Tryd.func100, Tryd.ntmps100
  go_wp2_with fail
  generalize w.alloc (.cells #[.slice a0 len cap, .int .i64 0, .int .u64 0] 140) = w0 at *
  generalize hN : w.heap.size = N at *
  refine (Bd.prime_any _ _ _ HS.out.hd (by omega)).mono ?_
  rintro e w1 ⟨p, rfl, hp, c1, g1⟩
  obtain ⟨q, rfl, hq2, hq97, hf⟩ := prime_fld hp
  have HP := Lib.hid (polyPair_any q N _ w1 (HS.out.draw c1 g1) (by omega) (by omega) (by omega) (by omega))
  clear hp c1 g1 hf
  go_wp2_with (
    go_at_call 241
    go_loud (with_reducible refine HP.out.mono ?_)
    rintro e w2 ⟨o1, o2, f, g, rfl, hf, hg, hs⟩
    obtain ⟨b1, d1, rfl, _⟩ := own_cap' (show OwnInts 0 w2 o1 f from hs.hd)
    obtain ⟨b2, d2, rfl, _⟩ := own_cap' (show OwnInts 0 w2 o2 g from hs.tl.hd)
    have HSX := Lib.hid hs
    have HAF := Lib.hid hf; have HAG := Lib.hid hg
    clear hs hf hg)
  refine bodyPost_ret_by (v := .tuple #[.int .i64 q, .slice b1 f.length d1, .slice b2 g.length d2]) ?_ rfl ⟨q, _, _, f, g, rfl, hq2, hq97, HAF.out, HAG.out, HSX.out.hd.read, HSX.out.tl.hd.read, HSX.out.tl.tl.tl.hd⟩
  simp [results, go_sem, *]
theorem drawPolyDivide_any (cv : Value) (w : World) (hc : CodeAt w cv) : Calls Tryd.prog 14 #[cv] w (DPol w) := by
  have HP := Lib.hid (drawPolyMul_any cv w hc)
  obtain ⟨a0, len, cap, rfl, _, _⟩ := hc
  go_enter Tryd.func14, Tryd.ntmps14
  go_wp2_with (
    go_at_call 100
    go_loud (with_reducible refine HP.out.mono ?_)
    rintro e w2 ⟨q, o1, o2, f, g, rfl, h1, h2, h3, h4, h5, h6, h7⟩
    obtain ⟨b1, d1, rfl, _⟩ := id h5
    obtain ⟨b2, d2, rfl, _⟩ := id h6
    have H := Lib.hid (And.intro h1 (And.intro h2 (And.intro h3 (And.intro h4 (And.intro h5 (And.intro h6 h7))))))
    clear h1 h2 h3 h4 h5 h6 h7)
  refine bodyPost_ret_by (v := .tuple #[.int .i64 q, .slice b1 f.length d1, .slice b2 g.length d2]) ?_ rfl ⟨q, _, _, f, g, rfl, H.out⟩
  simp [results, go_sem, *]
end Go.Proofs.YtpeaeminjbjlnaaDoor

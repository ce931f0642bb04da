/-
  The coefficients that give the greatest common divisor, in the program. Conditions: small sizes.
-/
import Derived.Test.YtpeaeminjbjlnaaDoorMp03
import Derived.Test.YtpeaeminjbjlnaaDoorMp01
namespace Go.Proofs.YtpeaeminjbjlnaaDoor
open Go.RowKit
set_option linter.unusedVariables false
set_option maxRecDepth 100000 in
set_option maxHeartbeats 1000000 in
theorem cBez_yes (p : Int) (u v : Value) (f g : List Int) (w : World) (ht : Tab w) (hu : IntsV w u f) (hv : IntsV w v g) (lf : f.length ≤ 1000000) (lg : g.length ≤ 1000000) (hb : (polyB p f && polyB p g) = true) (hne : g ≠ []) :
    Calls Tryd.prog 21 #[.int .i64 p, u, v] w fun e w' => ∃ o1 o2 o3, e = .returned (.tuple #[o1, o2, o3, .bool true]) ∧ IntsV w' o1 (gcdL p f g) ∧ IntsV w' o2 (invL p f g (gcdL p f g)) ∧ IntsV w' o3 (cofL p f g) ∧ w.grownBy w' none := by
  have HM := Lib.hid (cGcd_yes p u v f g w ht hu hv lf lg hb hne)
  rw [Bool.and_eq_true] at hb
  obtain ⟨q, iq, rfl, hf, hq, hq2, l1, o1⟩ := polyB_nat hb.1
  obtain ⟨q', iq', e1, _, _, _, l2, o2⟩ := polyB_nat hb.2
  obtain rfl : q = q' := by omega
  have B := bezout hf o1 o2 hne l1 l2
  have bl := B.len
  have hul : (invL q f g (gcdL q f g)).length ≤ 41 := by
    have h1 := rem_lt (p := q) (f := poAddL q [] (invI q (lastC (eucN q g.length f g [1] []).1)) (eucN q g.length f g [1] []).2) hf (poAdd_ok (PolyOk.nil _)) (quo_ok o2) B.quo
    have h2 := quo_len (p := q) g (gcdL q f g)
    have h3 := len_pos B.ne
    have h4 : (invL q f g (gcdL q f g)).length < (quoL q g (gcdL q f g)).length := h1
    omega
  have hml := poMul_len (p := q) (invL q f g (gcdL q f g)) f
  have hal := poAdd_len (p := q) (gcdL q f g) (-1) (poMulL q (invL q f g (gcdL q f g)) f)
  have hmo := poMul_ok (p := q) (invL q f g (gcdL q f g)) f
  have hao := poAdd_ok (p := q) (g := poMulL q (invL q f g (gcdL q f g)) f) (k := -1) B.ok
  have hvl : (cofL q f g).length ≤ 200 := by
    unfold cofL
    have := quo_len (p := q) (poAddL q (gcdL q f g) (-1) (poMulL q (invL q f g (gcdL q f g)) f)) g
    omega
  have HIV := Lib.hid fun W x (gr : w.grownBy W none) (hx : IntsV W x (gcdL q f g)) => polyInverse_any q u v x f g W hf hq2 (hu.carry gr) (hv.carry gr) hx o1 o2 hne l1 l2
  have HMU := Lib.hid fun W x (gr : w.grownBy W none) (hx : IntsV W x (invL q f g (gcdL q f g))) => polyMul_any q x u (invL q f g (gcdL q f g)) f W hq hq2 hx (hu.carry gr) B.oku.els o1.els (by omega) (by omega)
  have HAD := Lib.hid fun W x y (hx : IntsV W x (gcdL q f g)) (hy : IntsV W y (poMulL q (invL q f g (gcdL q f g)) f)) => polyAdd_any q (-1) x y (gcdL q f g) (poMulL q (invL q f g (gcdL q f g)) f) W hq hq2 hx hy B.ok.els hmo.els (by omega) (by omega) (by omega) (by omega)
  have HDV := Lib.hid fun W x (gr : w.grownBy W none) (hx : IntsV W x (poAddL q (gcdL q f g) (-1) (poMulL q (invL q f g (gcdL q f g)) f))) => polyDivide_any q x v (poAddL q (gcdL q f g) (-1) (poMulL q (invL q f g (gcdL q f g)) f)) g W hq hq2 hx (hv.carry gr) hao.1 o2.els hne (by omega) (by omega)
  have HCU := Lib.hid fun W o (h : IntsV W o (invL q f g (gcdL q f g))) => clone_any o (invL q f g (gcdL q f g)) W h (by omega)
  have HCV := Lib.hid fun W o (h : IntsV W o (cofL q f g)) => clone_any o (cofL q f g) W h (by omega)
  have hgl := len_pos hne
  have hg0 : ((g.length : Int) == 0) = false := by rw [beq_eq_false_iff_ne]; omega
  obtain ⟨a, c, rfl, _⟩ := id hu
  obtain ⟨a2, c2, rfl, _⟩ := id hv
  unfold cofL at HCV ⊢
  clear hu hv ht hb e1 B bl hul hml hal hmo hao hvl
  generalize gcdL (q : Int) f g = D at *
  generalize invL (q : Int) f g D = U at *
  generalize poMulL (q : Int) U f = M at *
  generalize poAddL (q : Int) D (-1) M = A at *
  generalize quoL (q : Int) A g = V at *
  generalize remL (q : Int) A g = R at *
  go_enter Tryd.func21, Tryd.ntmps21
  go_wp2_with (first
    | (go_at_call 22
       go_loud (with_reducible refine HM.out.mono ?_)
       rintro e w1 ⟨o, rfl, hi, hg⟩
       obtain ⟨b1, d1, rfl, _⟩ := id hi
       have HI := Lib.hid hi; have HG := Lib.hid hg
       clear hi hg)
    | (go_at_call 111
       go_loud (with_reducible refine (HIV.out _ _ HG.out HI.out).mono ?_)
       rintro e w2 ⟨o, rfl, hi, hg⟩
       obtain ⟨b2, d2, rfl, _⟩ := id hi
       have HI2 := Lib.hid hi; have HG2 := Lib.hid hg
       clear hi hg)
    | (go_at_call 106
       go_loud (with_reducible refine (HMU.out _ _ (HG.out.trans HG2.out) HI2.out).mono ?_)
       rintro e w3 ⟨o, rfl, hi, hg⟩
       obtain ⟨b3, d3, rfl, _⟩ := id hi
       have HI3 := Lib.hid hi; have HG3 := Lib.hid hg
       clear hi hg)
    | (go_at_call 109
       go_loud (with_reducible refine (HAD.out _ _ _ (HI.out.carry (HG2.out.trans HG3.out)) HI3.out).mono ?_)
       rintro e w4 ⟨o, rfl, hi, hg⟩
       obtain ⟨b4, d4, rfl, _⟩ := id hi
       have HI4 := Lib.hid hi; have HG4 := Lib.hid hg
       clear hi hg)
    | (go_at_call 102
       go_loud (with_reducible refine (HDV.out _ _ (HG.out.trans (HG2.out.trans (HG3.out.trans HG4.out))) HI4.out).mono ?_)
       rintro e w5 ⟨o1, o2, rfl, hi1, hi2, hg⟩
       obtain ⟨b5, d5, rfl, _⟩ := id hi1
       obtain ⟨b6, d6, rfl, _⟩ := id hi2
       have HI5 := Lib.hid hi1; have HG5 := Lib.hid hg
       clear hi1 hi2 hg)
    | (go_at_call 112
       with_reducible refine (HCU.out _ _ (HI2.out.carry (HG3.out.trans (HG4.out.trans HG5.out)))).mono ?_
       rintro e w6 ⟨o, rfl, ho, hg⟩
       obtain ⟨b7, d7, rfl, _⟩ := own_cap' ho
       have HO := Lib.hid ho.read; have HG6 := Lib.hid hg
       clear ho hg)
    | (go_at_call 112
       with_reducible refine (HCV.out _ _ (HI5.out.carry HG6.out)).mono ?_
       rintro e w7 ⟨o, rfl, ho, hg⟩
       obtain ⟨b8, d8, rfl, _⟩ := own_cap' ho
       have HO2 := Lib.hid ho.read; have HG7 := Lib.hid hg
       clear ho hg))
  refine bodyPost_ret_by (v := .tuple #[.slice b1 D.length d1, .slice b7 U.length d7, .slice b8 V.length d8, .bool true]) ?_ rfl ⟨_, _, _, rfl, HI.out.carry (HG2.out.trans (HG3.out.trans (HG4.out.trans (HG5.out.trans (HG6.out.trans HG7.out))))), HO.out.carry HG7.out, HO2.out, HG.out.trans (HG2.out.trans (HG3.out.trans (HG4.out.trans (HG5.out.trans (HG6.out.trans HG7.out)))))⟩
  simp [results, go_sem, *]
end Go.Proofs.YtpeaeminjbjlnaaDoor

/-
  Are numbers elements of a field. Conditions: the table of small primes holds what its text lays.
-/
import Derived.Test.YtghfifpicklonaaDoorBc08
import Derived.Test.YtghfifpicklonaaDoorYv00
import Derived.Test.YtghfifpicklonaaDoorYv05
import Derived.Test.YtghfifpicklonaaDoorBc02
namespace Go.Proofs.YtghfifpicklonaaDoor
open Go.RowKit
set_option linter.unusedVariables false
set_option maxRecDepth 100000

end Go.Proofs.YtghfifpicklonaaDoor

/-
  Is it a graph over a field. Conditions: the table of small primes holds what its text lays; lengths are small.
-/
namespace Go.Proofs.YtghfifpicklonaaDoor
open Go.RowKit
set_option linter.unusedVariables false
set_option maxRecDepth 100000

def vB (p : Int) (e : Ed) : Bool := decide (e.v < p)
/-- Is it a graph over a field? -/
def ovB (p : Int) (g : Gr) : Bool := fldB p && (grB g && g.es.all (vB p))
theorem vall_take {p : Int} {es : List Ed} {k : Nat} (hk : k < es.length) : (es.take (k + 1)).all (vB p) = ((es.take k).all (vB p) && vB p (es.getD k e0)) := by
  rw [List.take_succ_eq_append_getElem hk, List.all_append, List.getD_eq_getElem?_getD, List.getElem?_eq_getElem hk]; simp
theorem vall_bad {p : Int} {es : List Ed} {k : Nat} (hk : k < es.length) (h : vB p (es.getD k e0) = false) : es.all (vB p) = false := by
  cases hb : es.all (vB p)
  · rfl
  · have := List.all_eq_true.1 hb _ (getD_mem (d := e0) hk)
    rw [h] at this
    cases this
theorem edB_v {e : Ed} (h : edB e = true) (hv : hvB e.k = false) : e.v = 0 := by
  unfold edB at h
  simp only [Bool.and_eq_true] at h
  have h2 := h.1.2
  rw [valB_hv, hv] at h2
  simpa using h2
set_option maxHeartbeats 2000000 in
theorem isGraphOver_any (p : Int) (ev iv ov : Value) (g : Gr) (w : World) (ht : Tab w) (he : RdE edgeE w ev g.es) (hi : IntsV w iv g.i) (ho : IntsV w ov g.o) (l0 : g.es.length ≤ 2000000) (l1 : g.i.length ≤ 2000000) (l2 : g.o.length ≤ 2000000) :
    Calls Tryd.prog 59 #[.int .i64 p, grV g.n ev iv ov] w fun e w' => e = .returned (.bool (ovB p g)) ∧ w.grownBy w' none := by
  have HF := Lib.hid fun W (h : w.grownBy W none) => isField_any p W (ht.grown h)
  have HIG := Lib.hid fun W (h : w.grownBy W none) => isGraph_any ev iv ov g W (he.carry h) (hi.carry h) (ho.carry h) l0 l1 l2
  have HE := Lib.hid he
  unfold grV at *
  obtain ⟨ea, ec, rfl⟩ := he.shape
  obtain ⟨ia, ic, rfl⟩ := hi.shape
  obtain ⟨oa, oc, rfl⟩ := ho.shape
  clear he hi ho l0 l1 l2
  have HS0 := Lib.hid ((Sep.start w).box #[.int .i64 g.n, .slice ea g.es.length ec, .slice ia g.i.length ic, .slice oa g.o.length oc] 56)
  have HK0 := Lib.hid (show w.grownBy _ none from HS0.out.tl.hd)
  unfold ovB
  cases hf : fldB p
  · rw [hf] at HF
    clear hf
    generalize g.es.length = m0 at *
    generalize g.i.length = m1 at *
    generalize g.o.length = m2 at *
    generalize g.n = n at *
    go_enter Tryd.func59, Tryd.ntmps59
    go_wp2_with (go_at_call 73; with_reducible refine (HF.out _ HK0.out).mono ?_; rintro e w3 ⟨rfl, rfl⟩)
    go_ret
    exact ⟨rfl, HK0.out⟩
  · rw [hf] at HF
    cases hb : grB g
    · rw [hb] at HIG
      clear hb
      generalize g.es.length = m0 at *
      generalize g.i.length = m1 at *
      generalize g.o.length = m2 at *
      generalize g.n = n at *
      go_enter Tryd.func59, Tryd.ntmps59
      go_wp2_with (first
        | (go_at_call 73; with_reducible refine (HF.out _ HK0.out).mono ?_; rintro e w3 ⟨rfl, rfl⟩)
        | (go_at_call 104
           with_reducible refine (HIG.out _ HK0.out).mono ?_
           rintro e w4 ⟨rfl, hg⟩
           have HK4 := Lib.hid (grownBy_trans HK0.out hg)
           clear hg))
      go_ret
      exact ⟨rfl, HK4.out⟩
    · rw [hb] at HIG
      have HP := Lib.hid (show 2 ≤ p by unfold fldB at hf; rw [decide_eq_true_iff] at hf; exact hf.1)
      obtain ⟨m, hm, hm1, hg1, hg2, hg3, hg4, hg5, hg6⟩ := grB_n hb
      have HG6 := Lib.hid hg6
      obtain ⟨gn, es, is, os⟩ := g
      simp only at HIG HS0 HK0 HG6 HE hg1 ⊢
      clear hf hb hm hm1 hg2 hg3 hg4 hg5 hg6
      generalize hes : es.length = m0 at *
      have HM0 := Lib.hid hes
      generalize is.length = m1 at *
      generalize os.length = m2 at *
      clear hes
      go_enter Tryd.func59, Tryd.ntmps59
      go_wp2_with (first
        | (go_at_call 73; with_reducible refine (HF.out _ HK0.out).mono ?_; rintro e w3 ⟨rfl, rfl⟩)
        | (go_at_call 104
           with_reducible refine (HIG.out _ HK0.out).mono ?_
           rintro e w4 ⟨rfl, hg⟩
           have hs4 := HS0.out.grown hg
           obtain ⟨x0, x1, x2, x3, _⟩ := bq4 hs4.hd
           have HK4 := Lib.hid (show w.grownBy w4 none from hs4.tl.hd)
           clear hg hs4))
      go_loopw [6, 18] (fun _ i wr => ∃ k : Nat, k ≤ m0 ∧ i = .int .i64 k ∧ (es.take k).all (vB p) = true ∧ w.grownBy wr none) (fun _ i _ => m0 - (intOf i).toNat)
      case atStart => exact ⟨0, by omega, rfl, by simp, HK4.out⟩
      case round =>
        obtain ⟨k, hk, rfl, ha, hg⟩ := hrel
        have HA := Lib.hid ha; have HG := Lib.hid hg
        clear ha hg x0 x1 x2 x3
        by_cases hlt : k < m0
        · have hke : k < es.length := by rw [HM0.out]; exact hlt
          obtain ⟨eb, eo, u1, u2, rfl, hat⟩ := HE.out.atK rfl rfl hke
          obtain ⟨⟨q0, q1, q2, q3⟩, hi, ho⟩ := hat wr HG.out
          have HTK := Lib.hid (vall_take (p := p) hke)
          have HBD := Lib.hid (vall_bad (p := p) hke)
          have HED := Lib.hid (List.all_eq_true.1 HG6.out _ (getD_mem (d := e0) hke))
          generalize es.getD k e0 = y at *
          obtain ⟨yk, yv, yi, yo⟩ := y
          simp only at q0 q1 q2 q3 hi ho
          obtain ⟨s1, r1, rfl⟩ := hi.shape
          obtain ⟨s2, r2, rfl⟩ := ho.shape
          clear hi ho hat hke
          generalize yi.length = n1 at *
          generalize yo.length = n2 at *
          have HK5 := Lib.hid fun o => grownBy_trans HG.out (gr1 wr o)
          have HH := Lib.hid fun W => hasValue_any yk W
          cases hh : hvB yk
          · rw [hh] at HH
            have HN := Lib.hid (show (es.take (k + 1)).all (vB p) = true by
              rw [HTK.out, HA.out, show vB p ⟨yk, yv, yi, yo⟩ = true from decide_eq_true (by have h0 := edB_v HED.out hh; have := HP.out; simp only at h0; show yv < p; omega)]
              rfl)
            clear hh
            go_wp2_with (go_at_call 105; with_reducible refine (HH.out _).mono ?_; rintro e w5 ⟨rfl, rfl⟩)
            go_roundw
            case rel => exact ⟨k + 1, by omega, by go_num, HN.out, HK5.out _⟩
            case measure => simp [intOf]; omega
          · rw [hh] at HH
            clear hh
            by_cases hv : yv < p
            · have HN := Lib.hid (show (es.take (k + 1)).all (vB p) = true by
                rw [HTK.out, HA.out, show vB p ⟨yk, yv, yi, yo⟩ = true from decide_eq_true hv]
                rfl)
              have hv1 : ¬ p ≤ yv := by omega
              go_wp2_with (go_at_call 105; with_reducible refine (HH.out _).mono ?_; rintro e w5 ⟨rfl, rfl⟩)
              go_roundw
              case rel => exact ⟨k + 1, by omega, by go_num, HN.out, HK5.out _⟩
              case measure => simp [intOf]; omega
            · have HR := Lib.hid (HBD.out (show vB p ⟨yk, yv, yi, yo⟩ = false from decide_eq_false hv))
              have hv1 : p ≤ yv := by omega
              go_wp2_with (go_at_call 105; with_reducible refine (HH.out _).mono ?_; rintro e w5 ⟨rfl, rfl⟩)
              go_ret
              exact ⟨by rw [HR.out]; simp, HK5.out _⟩
        · have hkm : k = m0 := by omega
          subst hkm
          have ha := HA.out
          rw [List.take_of_length_le (by rw [HM0.out]; exact Nat.le_refl _)] at ha
          have HR := Lib.hid ha
          clear ha hlt
          go_wp2
          go_ret
          exact ⟨by rw [HR.out]; rfl, HG.out⟩
set_option maxHeartbeats 2000000 in
theorem hgGood_any (p : Int) (ev iv ov : Value) (g : Gr) (w : World) (he : RdE edgeE w ev g.es) (hi : IntsV w iv g.i) (ho : IntsV w ov g.o) (l0 : g.es.length ≤ 2000000) (l1 : g.i.length ≤ 2000000) (l2 : g.o.length ≤ 2000000) :
    Calls Tryd.prog 53 #[.int .i64 p, grV g.n ev iv ov] w fun e w' => e = .returned (.bool (ovB p g)) ∧ w.grownBy w' none := by
  have HF := Lib.hid fun W (h : w.grownBy W none) => fdGood_any p W
  have HIG := Lib.hid fun W (h : w.grownBy W none) => hgValid_any ev iv ov g W (he.carry h) (hi.carry h) (ho.carry h) l0 l1 l2
  have HE := Lib.hid he
  unfold grV at *
  obtain ⟨ea, ec, rfl⟩ := he.shape
  obtain ⟨ia, ic, rfl⟩ := hi.shape
  obtain ⟨oa, oc, rfl⟩ := ho.shape
  clear he hi ho l0 l1 l2
  have HS0 := Lib.hid ((Sep.start w).box #[.int .i64 g.n, .slice ea g.es.length ec, .slice ia g.i.length ic, .slice oa g.o.length oc] 56)
  have HK0 := Lib.hid (show w.grownBy _ none from HS0.out.tl.hd)
  unfold ovB
  cases hf : fldB p
  · rw [hf] at HF
    clear hf
    generalize g.es.length = m0 at *
    generalize g.i.length = m1 at *
    generalize g.o.length = m2 at *
    generalize g.n = n at *
    go_enter Tryd.func53, Tryd.ntmps53
    go_wp2_with (go_at_call 67; with_reducible refine (HF.out _ HK0.out).mono ?_; rintro e w3 ⟨rfl, rfl⟩)
    go_ret
    exact ⟨rfl, HK0.out⟩
  · rw [hf] at HF
    cases hb : grB g
    · rw [hb] at HIG
      clear hb
      generalize g.es.length = m0 at *
      generalize g.i.length = m1 at *
      generalize g.o.length = m2 at *
      generalize g.n = n at *
      go_enter Tryd.func53, Tryd.ntmps53
      go_wp2_with (first
        | (go_at_call 67; with_reducible refine (HF.out _ HK0.out).mono ?_; rintro e w3 ⟨rfl, rfl⟩)
        | (go_at_call 97
           with_reducible refine (HIG.out _ HK0.out).mono ?_
           rintro e w4 ⟨rfl, hg⟩
           have HK4 := Lib.hid (grownBy_trans HK0.out hg)
           clear hg))
      go_ret
      exact ⟨rfl, HK4.out⟩
    · rw [hb] at HIG
      have HP := Lib.hid (show 2 ≤ p by unfold fldB at hf; rw [decide_eq_true_iff] at hf; exact hf.1)
      obtain ⟨m, hm, hm1, hg1, hg2, hg3, hg4, hg5, hg6⟩ := grB_n hb
      have HG6 := Lib.hid hg6
      obtain ⟨gn, es, is, os⟩ := g
      simp only at HIG HS0 HK0 HG6 HE hg1 ⊢
      clear hf hb hm hm1 hg2 hg3 hg4 hg5 hg6
      generalize hes : es.length = m0 at *
      have HM0 := Lib.hid hes
      generalize is.length = m1 at *
      generalize os.length = m2 at *
      clear hes
      go_enter Tryd.func53, Tryd.ntmps53
      go_wp2_with (first
        | (go_at_call 67; with_reducible refine (HF.out _ HK0.out).mono ?_; rintro e w3 ⟨rfl, rfl⟩)
        | (go_at_call 97
           with_reducible refine (HIG.out _ HK0.out).mono ?_
           rintro e w4 ⟨rfl, hg⟩
           have hs4 := HS0.out.grown hg
           obtain ⟨x0, x1, x2, x3, _⟩ := bq4 hs4.hd
           have HK4 := Lib.hid (show w.grownBy w4 none from hs4.tl.hd)
           clear hg hs4))
      go_loopw [6, 18] (fun _ i wr => ∃ k : Nat, k ≤ m0 ∧ i = .int .i64 k ∧ (es.take k).all (vB p) = true ∧ w.grownBy wr none) (fun _ i _ => m0 - (intOf i).toNat)
      case atStart => exact ⟨0, by omega, rfl, by simp, HK4.out⟩
      case round =>
        obtain ⟨k, hk, rfl, ha, hg⟩ := hrel
        have HA := Lib.hid ha; have HG := Lib.hid hg
        clear ha hg x0 x1 x2 x3
        by_cases hlt : k < m0
        · have hke : k < es.length := by rw [HM0.out]; exact hlt
          obtain ⟨eb, eo, u1, u2, rfl, hat⟩ := HE.out.atK rfl rfl hke
          obtain ⟨⟨q0, q1, q2, q3⟩, hi, ho⟩ := hat wr HG.out
          have HTK := Lib.hid (vall_take (p := p) hke)
          have HBD := Lib.hid (vall_bad (p := p) hke)
          have HED := Lib.hid (List.all_eq_true.1 HG6.out _ (getD_mem (d := e0) hke))
          generalize es.getD k e0 = y at *
          obtain ⟨yk, yv, yi, yo⟩ := y
          simp only at q0 q1 q2 q3 hi ho
          obtain ⟨s1, r1, rfl⟩ := hi.shape
          obtain ⟨s2, r2, rfl⟩ := ho.shape
          clear hi ho hat hke
          generalize yi.length = n1 at *
          generalize yo.length = n2 at *
          have HK5 := Lib.hid fun o => grownBy_trans HG.out (gr1 wr o)
          by_cases hv : yv < p
          · have HN := Lib.hid (show (es.take (k + 1)).all (vB p) = true by
              rw [HTK.out, HA.out, show vB p ⟨yk, yv, yi, yo⟩ = true from decide_eq_true hv]
              rfl)
            have hv1 : ¬ p ≤ yv := by omega
            go_wp2_with fail
            go_roundw
            case rel => exact ⟨k + 1, by omega, by go_num, HN.out, HK5.out _⟩
            case measure => simp [intOf]; omega
          · have HR := Lib.hid (HBD.out (show vB p ⟨yk, yv, yi, yo⟩ = false from decide_eq_false hv))
            have hv1 : p ≤ yv := by omega
            go_wp2_with fail
            go_ret
            exact ⟨by rw [HR.out]; simp, HK5.out _⟩
        · have hkm : k = m0 := by omega
          subst hkm
          have ha := HA.out
          rw [List.take_of_length_le (by rw [HM0.out]; exact Nat.le_refl _)] at ha
          have HR := Lib.hid ha
          clear ha hlt
          go_wp2
          go_ret
          exact ⟨by rw [HR.out]; rfl, HG.out⟩
end Go.Proofs.YtghfifpicklonaaDoor

/-
  The circuit of a graph, checked: both writings. Conditions: the graph's lists are small; the table of small primes holds what its text lays.
-/
namespace Go.Proofs.YtghfifpicklonaaDoor
open Go.RowKit
set_option linter.unusedVariables false
set_option maxRecDepth 100000

def k8B (e : Ed) : Bool := decide (8 < e.k)
noncomputable def cgOk (p : Int) (g : Gr) : Bool := ovB p g && (monB g && (acyB (ndE g.es) && (!(g.es.any k8B) && circE p (cirG g g.n.toNat))))
noncomputable def cgRes (p : Int) (g : Gr) : Circ := if cgOk p g = true then cirG g g.n.toNat else circ0
theorem ovB_gr {p : Int} {g : Gr} (h : ovB p g = true) : grB g = true := by
  unfold ovB at h
  exact (Bool.and_eq_true_iff.1 (Bool.and_eq_true_iff.1 h).2).1
theorem k8_all {es : List Ed} (h : es.any k8B = false) : ∀ e ∈ es, e.k ≤ 8 := fun e he => by
  have := List.any_eq_false.1 h e he
  unfold k8B at this
  simpa using this
theorem k8_no {es : List Ed} (h : ∀ i, i < es.length → (es.getD i e0).k ≤ 8) : es.any k8B = false := by
  rw [List.any_eq_false]
  intro x hx
  obtain ⟨i, hi, rfl⟩ := List.getElem_of_mem hx
  have := h i hi
  rw [List.getD_eq_getElem?_getD, List.getElem?_eq_getElem hi] at this
  unfold k8B
  simpa using this
theorem k8_yes {es : List Ed} {i : Nat} (hi : i < es.length) (h : 8 < (es.getD i e0).k) : es.any k8B = true :=
  List.any_eq_true.2 ⟨_, esMem hi, by unfold k8B; simpa using h⟩
theorem cg_zero {p : Int} {g : Gr} (h : ovB p g = false ∨ monB g = false ∨ acyB (ndE g.es) = false ∨ g.es.any k8B = true) : cgRes p g = circ0 ∧ cgOk p g = false := by
  have h1 : cgOk p g = false := by
    unfold cgOk
    rcases h with h | h | h | h <;> rw [h] <;> simp
  exact ⟨by unfold cgRes; rw [h1]; rfl, h1⟩
theorem cg_one {p : Int} {g : Gr} {n : Nat} (hn : g.n = n) (h1 : ovB p g = true) (h2 : monB g = true) (h3 : acyB (ndE g.es) = true) (h4 : g.es.any k8B = false) :
    cgOk p g = circE p (cirG g n) ∧ cgRes p g = if circE p (cirG g n) = true then cirG g n else circ0 := by
  have e1 : g.n.toNat = n := by rw [hn]; rfl
  have e2 : cgOk p g = circE p (cirG g n) := by unfold cgOk; rw [h1, h2, h3, h4, e1]; simp
  exact ⟨e2, by unfold cgRes; rw [e2, e1]⟩
theorem cir_len {g : Gr} {n : Nat} (h : CgOk g n) : (cirG g n).gs.length ≤ 72 ∧ (cirG g n).os.length ≤ 12 := by
  have h1 := h.le; have h2 := h.li; have h3 := h.lo; have h4 := gtE_len g.es
  constructor
  · show (inGt g.i.length ++ _).length ≤ 72
    rw [List.length_append, inGt_len, List.length_map]
    omega
  · show (g.o.map _).length ≤ 12
    rw [List.length_map]
    omega
theorem cgRes_len (p : Int) (g : Gr) : (cgRes p g).gs.length ≤ 72 ∧ (cgRes p g).os.length ≤ 12 := by
  unfold cgRes
  split
  · rename_i h
    unfold cgOk at h
    simp only [Bool.and_eq_true, Bool.not_eq_true'] at h
    obtain ⟨h1, h2, h3, h4, _⟩ := h
    obtain ⟨n, hk⟩ := cg_ok (ovB_gr h1) h2 (k8_all h4)
    have e1 : g.n.toNat = n := by rw [hk.en]; rfl
    rw [e1]
    exact cir_len hk
  · exact ⟨Nat.zero_le _, Nat.zero_le _⟩
theorem gr_small {g : Gr} (h : grB g = true) : g.es.length ≤ 60 ∧ ∀ e ∈ g.es, e.i.length ≤ 2 ∧ e.o.length ≤ 2 := by
  obtain ⟨m, _, _, h2, _, _, _, h3, _⟩ := grB_n h
  exact ⟨h2, h3⟩
theorem k8_any (k v : Int) (s1 s2 : Option Addr) (n1 r1 n2 r2 : Nat) (w : World) :
    Calls Tryd.prog 63 #[.agg #[.int .i64 k, .int .i64 v, .slice s1 n1 r1, .slice s2 n2 r2]] w fun e w' => e = .returned (.bool (decide (8 < k))) ∧ w.grownBy w' none := by
  have HS0 := Lib.hid ((Sep.start w).boxAt w.heap.size rfl #[.int .i64 k, .int .i64 v, .slice s1 n1 r1, .slice s2 n2 r2] 84)
  obtain ⟨x0, x1, x2, x3, _⟩ := bq4 HS0.out.hd
  go_enter Tryd.func63, Tryd.ntmps63
  go_wp2_with fail
  go_ret
  exact ⟨rfl, HS0.out.tl.hd⟩
set_option maxHeartbeats 1000000 in
theorem k8idx_any (es : List Ed) (v : Value) (w : World) (he : RdE edgeE w v es) (hl : es.length ≤ 60) :
    Calls Tryd.prog 108 #[v, .func (.func 63) #[] #[]] w fun e w' => (∃ r : Int, e = .returned (.int .i64 r) ∧ decide (0 ≤ r) = es.any k8B) ∧ w.grownBy w' none := by
  have HE := Lib.hid he
  obtain ⟨ea, ec, rfl⟩ := he.shape
  obtain ⟨b, hb⟩ : ∃ b, es.any k8B = b := ⟨_, rfl⟩
  rw [hb]
  have HB := Lib.hid hb
  obtain ⟨m, hm⟩ : ∃ m, es.length = m := ⟨_, rfl⟩
  have HM := Lib.hid hm
  rw [hm] at hl ⊢
  clear he hb hm
  go_enter Tryd.func108, Tryd.ntmps108
  go_wp2_with fail
  go_loopw [5, 8] (fun _ s8 wr => ∃ k : Nat, k ≤ m ∧ s8 = .int .i64 k ∧ w.grownBy wr none ∧ ∀ i, i < k → (es.getD i e0).k ≤ 8) (fun _ s8 _ => m - (intOf s8).toNat)
  case atStart => exact ⟨0, by omega, rfl, grownBy_refl _ _, fun j hj => absurd hj (Nat.not_lt_zero _)⟩
  case round =>
    obtain ⟨k, hk, rfl, hg, ho⟩ := hrel
    have HG := Lib.hid hg; have HO := Lib.hid ho
    clear hg ho
    by_cases hlt : k < m
    · have hke : k < es.length := by rw [HM.out]; exact hlt
      have hki : (k : Int) < (m : Int) := by omega
      obtain ⟨eb, eo, u1, u2, rfl, hat⟩ := HE.out.atK rfl rfl hke
      obtain ⟨⟨q0, q1, q2, q3⟩, hqi, hqo⟩ := hat wr HG.out
      have HKE := Lib.hid hke
      obtain ⟨y, hy⟩ : ∃ y, es.getD k e0 = y := ⟨_, rfl⟩
      have HY := Lib.hid hy
      rw [hy] at q0 q1 hqi hqo
      obtain ⟨s1, r1, hu1⟩ := hqi.shape
      obtain ⟨s2, r2, hu2⟩ := hqo.shape
      subst hu1 hu2
      have HC := Lib.hid (k8_any y.k y.v s1 s2 y.i.length r1 y.o.length r2 wr)
      clear hqi hqo hat hy hke
      by_cases h8 : 8 < y.k
      · have hd : decide (8 < y.k) = true := decide_eq_true h8
        rw [hd] at HC
        have HBT := Lib.hid (show b = true from by rw [← HB.out]; exact k8_yes HKE.out (by rw [HY.out]; exact h8))
        clear hd
        go_wp2_with (go_at_call 63; with_reducible refine HC.out.mono ?_; rintro e w' ⟨rfl, hg⟩; have HG2 := Lib.hid (grownBy_trans HG.out hg); clear hg)
        go_ret
        exact ⟨⟨_, rfl, by rw [HBT.out]; exact decide_eq_true (by omega)⟩, HG2.out⟩
      · have hd : decide (8 < y.k) = false := decide_eq_false h8
        rw [hd] at HC
        have HNB := Lib.hid (show ∀ i, i < k + 1 → (es.getD i e0).k ≤ 8 from fun i hi => by
          by_cases e : i = k
          · subst e; rw [HY.out]; omega
          · exact HO.out i (by omega))
        clear hd
        go_wp2_with (go_at_call 63; with_reducible refine HC.out.mono ?_; rintro e w' ⟨rfl, hg⟩; have HG2 := Lib.hid (grownBy_trans HG.out hg); clear hg)
        go_roundw
        case rel => exact ⟨k + 1, by omega, by go_num, HG2.out, HNB.out⟩
        case measure => simp [intOf]; omega
    · have hkm : m = k := by omega
      subst hkm
      have hkk : ¬ (m : Int) < (m : Int) := by omega
      have HBT := Lib.hid (show b = false from by rw [← HB.out]; exact k8_no (fun i hi => HO.out i (by rw [← HM.out]; exact hi)))
      go_wp2_with fail
      go_ret
      exact ⟨⟨_, rfl, by rw [HBT.out]; rfl⟩, HG.out⟩
theorem k8has_any (es : List Ed) (v : Value) (w : World) (he : RdE edgeE w v es) (hl : es.length ≤ 60) :
    Calls Tryd.prog 62 #[v, .func (.func 63) #[] #[]] w fun e w' => e = .returned (.bool (es.any k8B)) ∧ w.grownBy w' none := by
  have HC := Lib.hid (k8idx_any es v w he hl)
  obtain ⟨b, hb⟩ : ∃ b, es.any k8B = b := ⟨_, rfl⟩
  rw [hb] at HC ⊢
  clear he hb
  go_enter Tryd.func62, Tryd.ntmps62
  go_wp2_with (go_at_call 108; with_reducible refine HC.out.mono ?_; rintro e w' ⟨⟨r, rfl, hr⟩, hg⟩; have HG := Lib.hid hg; have HR := Lib.hid hr; clear hg hr)
  go_ret
  exact ⟨by rw [← HR.out]; rfl, HG.out⟩
set_option maxHeartbeats 4000000 in
theorem iCirG_any (p : Int) (g : Gr) (ev iv ov : Value) (w : World) (ht : Tab w) (he : RdE edgeE w ev g.es) (hi : IntsV w iv g.i) (ho : IntsV w ov g.o) (l0 : g.es.length ≤ 2000000) (l1 : g.i.length ≤ 2000000) (l2 : g.o.length ≤ 2000000) :
    Calls Tryd.prog 25 #[.int .i64 p, grV g.n ev iv ov] w (CirRes (cgRes p g) (cgOk p g) w) := by
  have HT := Lib.hid ht
  have HE := Lib.hid he; have HI := Lib.hid hi; have HO := Lib.hid ho
  unfold grV at *
  obtain ⟨ea, ec, rfl⟩ := he.shape
  obtain ⟨ia, ic, rfl⟩ := hi.shape
  obtain ⟨oa, oc, rfl⟩ := ho.shape
  obtain ⟨n, hn⟩ : ∃ n, g.n = n := ⟨_, rfl⟩
  obtain ⟨m, hm⟩ : ∃ m, g.es.length = m := ⟨_, rfl⟩
  obtain ⟨m1, hm1⟩ : ∃ m, g.i.length = m := ⟨_, rfl⟩
  obtain ⟨m2, hm2⟩ : ∃ m, g.o.length = m := ⟨_, rfl⟩
  have HN := Lib.hid hn; have HM := Lib.hid hm; have HM1 := Lib.hid hm1; have HM2 := Lib.hid hm2
  rw [hm] at l0
  rw [hm1] at l1
  rw [hm2] at l2
  have H1 := Lib.hid fun W (hW : w.grownBy W none) => isGraphOver_any p _ _ _ g W (HT.out.grown hW) (HE.out.carry hW) (HI.out.carry hW) (HO.out.carry hW) (by omega) (by omega) (by omega)
  have H2 := Lib.hid fun W (hW : w.grownBy W none) => isMonogamous_any _ _ _ g W (HE.out.carry hW) (HI.out.carry hW) (HO.out.carry hW) (by omega) (by omega) (by omega)
  have H3 := Lib.hid fun (hg : grB g = true) W (hW : w.grownBy W none) => leadsBack_any g.n _ _ _ g.es g.i g.o W (HE.out.carry hW) (HI.out.carry hW) (HO.out.carry hW) (gr_small hg).1 (gr_small hg).2
  have H4 := Lib.hid fun (hg : grB g = true) W (hW : w.grownBy W none) => k8has_any g.es _ W (HE.out.carry hW) (gr_small hg).1
  unfold grV at H1 H2 H3
  rw [hn, hm, hm1, hm2] at H1 H2 H3 ⊢
  rw [hm] at H4
  clear he hi ho ht hn hm hm1 hm2
  have hs0 := ((Sep.start w).boxAt w.heap.size rfl #[.int .i64 n, .slice ea m ec, .slice ia m1 ic, .slice oa m2 oc] 56).boxAt (w.heap.size + 1) (by simp) #[.int .i64 0, .slice none 0 0, .slice none 0 0] 29
  have HS0 := Lib.hid hs0
  have HK0 := Lib.hid (show w.grownBy _ none from hs0.tl.tl.hd)
  obtain ⟨x0, x1, x2, x3, _⟩ := bq4 hs0.tl.hd
  clear hs0
  cases h1 : ovB p g
  · obtain ⟨hz1, hz2⟩ := cg_zero (p := p) (g := g) (Or.inl h1)
    rw [hz1, hz2]
    clear hz1 hz2
    rw [h1] at H1
    go_enter Tryd.func25, Tryd.ntmps25
    go_wp2_with (first
      | (go_at_call 59
         with_reducible refine (H1.out _ HK0.out).mono ?_
         rintro e w1 ⟨rfl, hg⟩
         have HS1 := Lib.hid (HS0.out.grown hg)
         have HK1 := Lib.hid (grownBy_trans HK0.out hg)
         clear hg x0 x1 x2 x3
         obtain ⟨x0, x1, x2, x3, _⟩ := bq4 HS1.out.tl.hd
         have hs1 := HS1.out
         obtain ⟨r0, r1, r2, r3, r4, r5⟩ := bx3 hs1.hd
         have hs2 := ((hs1.setB 0 (.int .i64 0)).setB 1 (.slice none 0 0)).setB 2 (.slice none 0 0)
         obtain ⟨t0, t1, t2, _⟩ := bx3 hs2.hd
         have HKF := Lib.hid (show w.grownBy _ none from hs2.tl.tl.hd)
         clear hs1 hs2))
    refine bodyPost_ret_by (v := .tuple #[.agg #[.int .i64 0, .slice none 0 0, .slice none 0 0], .bool false]) ?_ rfl (CirRes.zero HKF.out)
    simp [results, go_sem, *]
  · have hgr := ovB_gr h1
    rw [h1] at H1
    rw [hgr, Bool.true_and] at H2
    have H3 := Lib.hid (H3.out hgr)
    have H4 := Lib.hid (H4.out hgr)
    clear hgr
    cases h2 : monB g
    · obtain ⟨hz1, hz2⟩ := cg_zero (p := p) (g := g) (Or.inr (Or.inl h2))
      rw [hz1, hz2]
      clear hz1 hz2
      rw [h2] at H2
      go_enter Tryd.func25, Tryd.ntmps25
      go_wp2_with (first
        | (go_at_call 59
           with_reducible refine (H1.out _ HK0.out).mono ?_
           rintro e w1 ⟨rfl, hg⟩
           have HS1 := Lib.hid (HS0.out.grown hg)
           have HK1 := Lib.hid (grownBy_trans HK0.out hg)
           clear hg x0 x1 x2 x3
           obtain ⟨x0, x1, x2, x3, _⟩ := bq4 HS1.out.tl.hd)
        | (go_at_call 60
           with_reducible refine (H2.out _ HK1.out).mono ?_
           rintro e w2 ⟨rfl, hg⟩
           have HS2 := Lib.hid (HS1.out.grown hg)
           have HK2 := Lib.hid (grownBy_trans HK1.out hg)
           clear hg x0 x1 x2 x3
           obtain ⟨x0, x1, x2, x3, _⟩ := bq4 HS2.out.tl.hd
           have hs1 := HS2.out
           obtain ⟨r0, r1, r2, r3, r4, r5⟩ := bx3 hs1.hd
           have hs2 := ((hs1.setB 0 (.int .i64 0)).setB 1 (.slice none 0 0)).setB 2 (.slice none 0 0)
           obtain ⟨t0, t1, t2, _⟩ := bx3 hs2.hd
           have HKF := Lib.hid (show w.grownBy _ none from hs2.tl.tl.hd)
           clear hs1 hs2))
      refine bodyPost_ret_by (v := .tuple #[.agg #[.int .i64 0, .slice none 0 0, .slice none 0 0], .bool false]) ?_ rfl (CirRes.zero HKF.out)
      simp [results, go_sem, *]
    · rw [h2] at H2
      cases h3 : acyB (ndE g.es)
      · obtain ⟨hz1, hz2⟩ := cg_zero (p := p) (g := g) (Or.inr (Or.inr (Or.inl h3)))
        rw [hz1, hz2]
        clear hz1 hz2
        rw [h3] at H3
        go_enter Tryd.func25, Tryd.ntmps25
        go_wp2_with (first
          | (go_at_call 59
             with_reducible refine (H1.out _ HK0.out).mono ?_
             rintro e w1 ⟨rfl, hg⟩
             have HS1 := Lib.hid (HS0.out.grown hg)
             have HK1 := Lib.hid (grownBy_trans HK0.out hg)
             clear hg x0 x1 x2 x3
             obtain ⟨x0, x1, x2, x3, _⟩ := bq4 HS1.out.tl.hd)
          | (go_at_call 60
             with_reducible refine (H2.out _ HK1.out).mono ?_
             rintro e w2 ⟨rfl, hg⟩
             have HS2 := Lib.hid (HS1.out.grown hg)
             have HK2 := Lib.hid (grownBy_trans HK1.out hg)
             clear hg x0 x1 x2 x3
             obtain ⟨x0, x1, x2, x3, _⟩ := bq4 HS2.out.tl.hd)
          | (go_at_call 61
             with_reducible refine (H3.out _ HK2.out).mono ?_
             rintro e w3 ⟨rfl, hg⟩
             have HS3 := Lib.hid (HS2.out.grown hg)
             have HK3 := Lib.hid (grownBy_trans HK2.out hg)
             clear hg x0 x1 x2 x3
             obtain ⟨x0, x1, x2, x3, _⟩ := bq4 HS3.out.tl.hd
             have hs1 := HS3.out
             obtain ⟨r0, r1, r2, r3, r4, r5⟩ := bx3 hs1.hd
             have hs2 := ((hs1.setB 0 (.int .i64 0)).setB 1 (.slice none 0 0)).setB 2 (.slice none 0 0)
             obtain ⟨t0, t1, t2, _⟩ := bx3 hs2.hd
             have HKF := Lib.hid (show w.grownBy _ none from hs2.tl.tl.hd)
             clear hs1 hs2))
        refine bodyPost_ret_by (v := .tuple #[.agg #[.int .i64 0, .slice none 0 0, .slice none 0 0], .bool false]) ?_ rfl (CirRes.zero HKF.out)
        simp [results, go_sem, *]
      · rw [h3] at H3
        cases h4 : g.es.any k8B
        · rw [h4] at H4
          obtain ⟨N, hk⟩ := cg_ok (ovB_gr h1) h2 (k8_all h4)
          obtain ⟨hz1, hz2⟩ := cg_one hk.en h1 h2 h3 h4
          rw [hz2, hz1]
          obtain ⟨hl1, hl2⟩ := cir_len hk
          have hnn : n = (N : Int) := by rw [← HN.out]; exact hk.en
          have HD := Lib.hid fun W (hW : w.grownBy W none) => (show Calls Tryd.prog 64 #[.agg #[.int .i64 n, .slice ea m ec, .slice ia m1 ic, .slice oa m2 oc]] W fun e w' => ∃ (a1 : Option Addr) (c1 : Nat) (a2 : Option Addr) (c2 : Nat), e = .returned (.agg #[.int .i64 (cirG g N).n, .slice a1 (cirG g N).gs.length c1, .slice a2 (cirG g N).os.length c2]) ∧ Sep w' [OR gateE (.slice a1 (cirG g N).gs.length c1) (cirG g N).gs, OI (.slice a2 (cirG g N).os.length c2) (cirG g N).os, KeepA W] from by
            have h := gcircuit_any g N _ _ _ W hk h3 (HE.out.carry hW) (HI.out.carry hW) (HO.out.carry hW)
            unfold grV at h
            rw [← hnn, HM.out, HM1.out, HM2.out] at h
            exact h)
          clear hz1 hz2 hk hnn
          generalize cirG g N = R at *
          obtain ⟨rn, gs, os⟩ := R
          simp only at hl1 hl2 HD
          have HV := Lib.hid fun W gv ov (ht : w.grownBy W none) (h1 : RdR gateE W gv gs) (h2 : IntsV W ov os) => validCircuit_any p rn gv ov gs os W (HT.out.grown ht) h1 h2 (by omega) (by omega)
          clear hl1 hl2
          generalize hb : circE p ⟨rn, gs, os⟩ = b at *
          clear hb
          cases b
          · simp only [cirV, nilS, Bool.false_eq_true, if_false] at HV
            go_enter Tryd.func25, Tryd.ntmps25
            go_wp2_with (first
              | (go_at_call 59
                 with_reducible refine (H1.out _ HK0.out).mono ?_
                 rintro e w1 ⟨rfl, hg⟩
                 have HS1 := Lib.hid (HS0.out.grown hg)
                 have HK1 := Lib.hid (grownBy_trans HK0.out hg)
                 clear hg x0 x1 x2 x3
                 obtain ⟨x0, x1, x2, x3, _⟩ := bq4 HS1.out.tl.hd)
              | (go_at_call 60
                 with_reducible refine (H2.out _ HK1.out).mono ?_
                 rintro e w2 ⟨rfl, hg⟩
                 have HS2 := Lib.hid (HS1.out.grown hg)
                 have HK2 := Lib.hid (grownBy_trans HK1.out hg)
                 clear hg x0 x1 x2 x3
                 obtain ⟨x0, x1, x2, x3, _⟩ := bq4 HS2.out.tl.hd)
              | (go_at_call 61
                 with_reducible refine (H3.out _ HK2.out).mono ?_
                 rintro e w3 ⟨rfl, hg⟩
                 have HS3 := Lib.hid (HS2.out.grown hg)
                 have HK3 := Lib.hid (grownBy_trans HK2.out hg)
                 clear hg x0 x1 x2 x3
                 obtain ⟨x0, x1, x2, x3, _⟩ := bq4 HS3.out.tl.hd)
              | (go_at_call 62
                 with_reducible refine (H4.out _ HK3.out).mono ?_
                 rintro e w4 ⟨rfl, hg⟩
                 have HS4 := Lib.hid (HS3.out.grown hg)
                 have HK4 := Lib.hid (grownBy_trans HK3.out hg)
                 clear hg x0 x1 x2 x3
                 obtain ⟨x0, x1, x2, x3, _⟩ := bq4 HS4.out.tl.hd)
              | (go_at_call 64
                 with_reducible refine (HD.out _ HK4.out).mono ?_
                 rintro e w5 ⟨a1, c1, a2, c2, rfl, hsg⟩
                 obtain ⟨hR, hI, hk5⟩ := hsg.reads
                 have HR := Lib.hid hR
                 have HI2 := Lib.hid hI
                 have HK5 := Lib.hid (grownBy_trans HK4.out hk5)
                 have HS5 := Lib.hid (HS4.out.graft2 hsg OR_own OI_own)
                 clear hR hI hk5 hsg x0 x1 x2 x3)
              | (go_at_call 34
                 with_reducible refine (HV.out _ _ _ HK5.out HR.out HI2.out).mono ?_
                 rintro e w6 ⟨rfl, hg⟩
                 have hs1 := (HS5.out.grown hg).s3
                 obtain ⟨r0, r1, r2, r3, r4, r5⟩ := bx3 hs1.hd
                 have hs2 := ((hs1.setB 0 (.int .i64 0)).setB 1 (.slice none 0 0)).setB 2 (.slice none 0 0)
                 obtain ⟨t0, t1, t2, _⟩ := bx3 hs2.hd
                 have HKF := Lib.hid (show w.grownBy _ none from hs2.tl.tl.tl.tl.hd)
                 clear hg hs1 hs2))
            refine bodyPost_ret_by (v := .tuple #[.agg #[.int .i64 0, .slice none 0 0, .slice none 0 0], .bool false]) ?_ rfl (CirRes.zero HKF.out)
            simp [results, go_sem, *]
          · simp only [cirV, if_true] at HV
            go_enter Tryd.func25, Tryd.ntmps25
            go_wp2_with (first
              | (go_at_call 59
                 with_reducible refine (H1.out _ HK0.out).mono ?_
                 rintro e w1 ⟨rfl, hg⟩
                 have HS1 := Lib.hid (HS0.out.grown hg)
                 have HK1 := Lib.hid (grownBy_trans HK0.out hg)
                 clear hg x0 x1 x2 x3
                 obtain ⟨x0, x1, x2, x3, _⟩ := bq4 HS1.out.tl.hd)
              | (go_at_call 60
                 with_reducible refine (H2.out _ HK1.out).mono ?_
                 rintro e w2 ⟨rfl, hg⟩
                 have HS2 := Lib.hid (HS1.out.grown hg)
                 have HK2 := Lib.hid (grownBy_trans HK1.out hg)
                 clear hg x0 x1 x2 x3
                 obtain ⟨x0, x1, x2, x3, _⟩ := bq4 HS2.out.tl.hd)
              | (go_at_call 61
                 with_reducible refine (H3.out _ HK2.out).mono ?_
                 rintro e w3 ⟨rfl, hg⟩
                 have HS3 := Lib.hid (HS2.out.grown hg)
                 have HK3 := Lib.hid (grownBy_trans HK2.out hg)
                 clear hg x0 x1 x2 x3
                 obtain ⟨x0, x1, x2, x3, _⟩ := bq4 HS3.out.tl.hd)
              | (go_at_call 62
                 with_reducible refine (H4.out _ HK3.out).mono ?_
                 rintro e w4 ⟨rfl, hg⟩
                 have HS4 := Lib.hid (HS3.out.grown hg)
                 have HK4 := Lib.hid (grownBy_trans HK3.out hg)
                 clear hg x0 x1 x2 x3
                 obtain ⟨x0, x1, x2, x3, _⟩ := bq4 HS4.out.tl.hd)
              | (go_at_call 64
                 with_reducible refine (HD.out _ HK4.out).mono ?_
                 rintro e w5 ⟨a1, c1, a2, c2, rfl, hsg⟩
                 obtain ⟨hR, hI, hk5⟩ := hsg.reads
                 have HR := Lib.hid hR
                 have HI2 := Lib.hid hI
                 have HK5 := Lib.hid (grownBy_trans HK4.out hk5)
                 have HS5 := Lib.hid (HS4.out.graft2 hsg OR_own OI_own)
                 clear hR hI hk5 hsg x0 x1 x2 x3)
              | (go_at_call 34
                 with_reducible refine (HV.out _ _ _ HK5.out HR.out HI2.out).mono ?_
                 rintro e w6 ⟨rfl, hg⟩
                 have hs1 := (HS5.out.grown hg).s3
                 obtain ⟨r0, r1, r2, r3, r4, r5⟩ := bx3 hs1.hd
                 have hs2 := ((hs1.setB 0 (.int .i64 rn)).setB 1 (.slice a1 gs.length c1)).setB 2 (.slice a2 os.length c2)
                 obtain ⟨t0, t1, t2, _⟩ := bx3 hs2.hd
                 have HSF := Lib.hid (hs2.tl.under (fun h => h.drop2) (by simp +contextual))
                 clear hg hs1 hs2))
            refine bodyPost_ret_by (v := .tuple #[.agg #[.int .i64 rn, .slice a1 gs.length c1, .slice a2 os.length c2], .bool true]) ?_ rfl ⟨a1, c1, a2, c2, rfl, HSF.out⟩
            simp [results, go_sem, *]
        · obtain ⟨hz1, hz2⟩ := cg_zero (p := p) (g := g) (Or.inr (Or.inr (Or.inr h4)))
          rw [hz1, hz2]
          clear hz1 hz2
          rw [h4] at H4
          go_enter Tryd.func25, Tryd.ntmps25
          go_wp2_with (first
            | (go_at_call 59
               with_reducible refine (H1.out _ HK0.out).mono ?_
               rintro e w1 ⟨rfl, hg⟩
               have HS1 := Lib.hid (HS0.out.grown hg)
               have HK1 := Lib.hid (grownBy_trans HK0.out hg)
               clear hg x0 x1 x2 x3
               obtain ⟨x0, x1, x2, x3, _⟩ := bq4 HS1.out.tl.hd)
            | (go_at_call 60
               with_reducible refine (H2.out _ HK1.out).mono ?_
               rintro e w2 ⟨rfl, hg⟩
               have HS2 := Lib.hid (HS1.out.grown hg)
               have HK2 := Lib.hid (grownBy_trans HK1.out hg)
               clear hg x0 x1 x2 x3
               obtain ⟨x0, x1, x2, x3, _⟩ := bq4 HS2.out.tl.hd)
            | (go_at_call 61
               with_reducible refine (H3.out _ HK2.out).mono ?_
               rintro e w3 ⟨rfl, hg⟩
               have HS3 := Lib.hid (HS2.out.grown hg)
               have HK3 := Lib.hid (grownBy_trans HK2.out hg)
               clear hg x0 x1 x2 x3
               obtain ⟨x0, x1, x2, x3, _⟩ := bq4 HS3.out.tl.hd)
            | (go_at_call 62
               with_reducible refine (H4.out _ HK3.out).mono ?_
               rintro e w4 ⟨rfl, hg⟩
               have HS4 := Lib.hid (HS3.out.grown hg)
               have HK4 := Lib.hid (grownBy_trans HK3.out hg)
               clear hg x0 x1 x2 x3
               obtain ⟨x0, x1, x2, x3, _⟩ := bq4 HS4.out.tl.hd
               have hs1 := HS4.out
               obtain ⟨r0, r1, r2, r3, r4, r5⟩ := bx3 hs1.hd
               have hs2 := ((hs1.setB 0 (.int .i64 0)).setB 1 (.slice none 0 0)).setB 2 (.slice none 0 0)
               obtain ⟨t0, t1, t2, _⟩ := bx3 hs2.hd
               have HKF := Lib.hid (show w.grownBy _ none from hs2.tl.tl.hd)
               clear hs1 hs2))
          refine bodyPost_ret_by (v := .tuple #[.agg #[.int .i64 0, .slice none 0 0, .slice none 0 0], .bool false]) ?_ rfl (CirRes.zero HKF.out)
          simp [results, go_sem, *]
set_option maxHeartbeats 4000000 in
theorem sCirG_any (p : Int) (g : Gr) (ev iv ov : Value) (w : World) (he : RdE edgeE w ev g.es) (hi : IntsV w iv g.i) (ho : IntsV w ov g.o) (l0 : g.es.length ≤ 2000000) (l1 : g.i.length ≤ 2000000) (l2 : g.o.length ≤ 2000000) :
    Calls Tryd.prog 23 #[.int .i64 p, grV g.n ev iv ov] w (CirRes (cgRes p g) (cgOk p g) w) := by
  obtain ⟨R0, hR0⟩ : ∃ R, cgRes p g = R := ⟨_, rfl⟩
  obtain ⟨b0, hb0⟩ : ∃ b, cgOk p g = b := ⟨_, rfl⟩
  have HRR := Lib.hid hR0; have HBB := Lib.hid hb0
  rw [hR0, hb0]
  clear hR0 hb0
  have HE := Lib.hid he; have HI := Lib.hid hi; have HO := Lib.hid ho
  unfold grV at *
  obtain ⟨ea, ec, rfl⟩ := he.shape
  obtain ⟨ia, ic, rfl⟩ := hi.shape
  obtain ⟨oa, oc, rfl⟩ := ho.shape
  obtain ⟨n, hn⟩ : ∃ n, g.n = n := ⟨_, rfl⟩
  obtain ⟨m, hm⟩ : ∃ m, g.es.length = m := ⟨_, rfl⟩
  obtain ⟨m1, hm1⟩ : ∃ m, g.i.length = m := ⟨_, rfl⟩
  obtain ⟨m2, hm2⟩ : ∃ m, g.o.length = m := ⟨_, rfl⟩
  have HN := Lib.hid hn; have HM := Lib.hid hm; have HM1 := Lib.hid hm1; have HM2 := Lib.hid hm2
  rw [hm] at l0
  rw [hm1] at l1
  rw [hm2] at l2
  have H1 := Lib.hid fun W (hW : w.grownBy W none) => hgGood_any p _ _ _ g W (HE.out.carry hW) (HI.out.carry hW) (HO.out.carry hW) (by omega) (by omega) (by omega)
  have H2 := Lib.hid fun (hg : grB g = true) W (hW : w.grownBy W none) => hgMono_any _ _ _ g W (HE.out.carry hW) (HI.out.carry hW) (HO.out.carry hW) hg
  have H3 := Lib.hid fun (hg : grB g = true) W (hW : w.grownBy W none) => crTimed_any g.n _ _ _ g.es g.i g.o W (HE.out.carry hW) (HI.out.carry hW) (HO.out.carry hW) (gr_small hg).1 (gr_small hg).2
  unfold grV at H1 H2 H3
  rw [hn, hm, hm1, hm2] at H1 H2 H3 ⊢
  clear he hi ho hn hm hm1 hm2
  have hs0 := ((Sep.start w).boxAt w.heap.size rfl #[.int .i64 n, .slice ea m ec, .slice ia m1 ic, .slice oa m2 oc] 56).boxAt (w.heap.size + 1) (by simp) #[.int .i64 0, .slice none 0 0, .slice none 0 0] 29
  have HS0 := Lib.hid hs0
  have HK0 := Lib.hid (show w.grownBy _ none from hs0.tl.tl.hd)
  obtain ⟨x0, x1, x2, x3, _⟩ := bq4 hs0.tl.hd
  clear hs0
  cases h1 : ovB p g
  · obtain ⟨hz1, hz2⟩ := cg_zero (p := p) (g := g) (Or.inl h1)
    rw [HRR.out] at hz1
    rw [HBB.out] at hz2
    subst hz1 hz2
    rw [h1] at H1
    go_enter Tryd.func23, Tryd.ntmps23
    go_wp2_with (first
      | (go_at_call 53
         with_reducible refine (H1.out _ HK0.out).mono ?_
         rintro e w1 ⟨rfl, hg⟩
         have HS1 := Lib.hid (HS0.out.grown hg)
         have HK1 := Lib.hid (grownBy_trans HK0.out hg)
         clear hg x0 x1 x2 x3
         obtain ⟨x0, x1, x2, x3, _⟩ := bq4 HS1.out.tl.hd
         have hs1 := HS1.out
         obtain ⟨r0, r1, r2, r3, r4, r5⟩ := bx3 hs1.hd
         have hs2 := ((hs1.setB 0 (.int .i64 0)).setB 1 (.slice none 0 0)).setB 2 (.slice none 0 0)
         obtain ⟨t0, t1, t2, _⟩ := bx3 hs2.hd
         have HKF := Lib.hid (show w.grownBy _ none from hs2.tl.tl.hd)
         clear hs1 hs2))
    refine bodyPost_ret_by (v := .tuple #[.agg #[.int .i64 0, .slice none 0 0, .slice none 0 0], .bool false]) ?_ rfl (CirRes.zero HKF.out)
    simp [results, go_sem, *]
  · have hgr := ovB_gr h1
    rw [h1] at H1
    have H2 := Lib.hid (H2.out hgr)
    have H3 := Lib.hid (H3.out hgr)
    have HSM := Lib.hid (gr_small hgr).1
    clear hgr
    cases h2 : monB g
    · obtain ⟨hz1, hz2⟩ := cg_zero (p := p) (g := g) (Or.inr (Or.inl h2))
      rw [HRR.out] at hz1
      rw [HBB.out] at hz2
      subst hz1 hz2
      rw [h2] at H2
      go_enter Tryd.func23, Tryd.ntmps23
      go_wp2_with (first
        | (go_at_call 53
           with_reducible refine (H1.out _ HK0.out).mono ?_
           rintro e w1 ⟨rfl, hg⟩
           have HS1 := Lib.hid (HS0.out.grown hg)
           have HK1 := Lib.hid (grownBy_trans HK0.out hg)
           clear hg x0 x1 x2 x3
           obtain ⟨x0, x1, x2, x3, _⟩ := bq4 HS1.out.tl.hd)
        | (go_at_call 54
           with_reducible refine (H2.out _ HK1.out).mono ?_
           rintro e w2 ⟨rfl, hg⟩
           have HS2 := Lib.hid (HS1.out.grown hg)
           have HK2 := Lib.hid (grownBy_trans HK1.out hg)
           clear hg x0 x1 x2 x3
           obtain ⟨x0, x1, x2, x3, _⟩ := bq4 HS2.out.tl.hd
           have hs1 := HS2.out
           obtain ⟨r0, r1, r2, r3, r4, r5⟩ := bx3 hs1.hd
           have hs2 := ((hs1.setB 0 (.int .i64 0)).setB 1 (.slice none 0 0)).setB 2 (.slice none 0 0)
           obtain ⟨t0, t1, t2, _⟩ := bx3 hs2.hd
           have HKF := Lib.hid (show w.grownBy _ none from hs2.tl.tl.hd)
           clear hs1 hs2))
      refine bodyPost_ret_by (v := .tuple #[.agg #[.int .i64 0, .slice none 0 0, .slice none 0 0], .bool false]) ?_ rfl (CirRes.zero HKF.out)
      simp [results, go_sem, *]
    · rw [h2] at H2
      have HB1 := Lib.hid h1; have HB2 := Lib.hid h2
      clear h1 h2
      go_enter Tryd.func23, Tryd.ntmps23
      go_upto_region 4 with (first
        | (go_at_call 53
           with_reducible refine (H1.out _ HK0.out).mono ?_
           rintro e w1 ⟨rfl, hg⟩
           have HS1 := Lib.hid (HS0.out.grown hg)
           have HK1 := Lib.hid (grownBy_trans HK0.out hg)
           clear hg x0 x1 x2 x3
           obtain ⟨x0, x1, x2, x3, _⟩ := bq4 HS1.out.tl.hd)
        | (go_at_call 54
           with_reducible refine (H2.out _ HK1.out).mono ?_
           rintro e w2 ⟨rfl, hg⟩
           have HS2 := Lib.hid (HS1.out.grown hg)
           have HK2 := Lib.hid (grownBy_trans HK1.out hg)
           clear hg x0 x1 x2 x3
           obtain ⟨x0, x1, x2, x3, _⟩ := bq4 HS2.out.tl.hd))
      clear x0 x1 x2 x3
      go_loopw [7, 21] (fun _ s8 wr => ∃ k : Nat, k ≤ m ∧ s8 = .int .i64 k ∧ (∀ i, i < k → (g.es.getD i e0).k ≤ 8) ∧ Sep wr [BxA (w.heap.size + 1) #[.int .i64 0, .slice none 0 0, .slice none 0 0] 29, BxA w.heap.size #[.int .i64 n, .slice ea m ec, .slice ia m1 ic, .slice oa m2 oc] 56, KeepA w]) (fun _ s8 _ => m - (intOf s8).toNat)
      case atStart => exact ⟨0, by omega, rfl, (fun j hj => absurd hj (Nat.not_lt_zero _)), HS2.out⟩
      case round =>
        obtain ⟨k, hk, rfl, ho, hs⟩ := hrel
        have HSQ := Lib.hid hs; have HOK := Lib.hid ho
        clear hs ho
        by_cases hlt : k < m
        · have hke : k < g.es.length := by rw [HM.out]; exact hlt
          have hki : (k : Int) < (m : Int) := by omega
          obtain ⟨eb, eo, u1, u2, rfl, hat⟩ := HE.out.atK rfl rfl hke
          obtain ⟨⟨q0, q1, q2, q3⟩, hqi, hqo⟩ := hat wr HSQ.out.tl.tl.hd
          have HKE := Lib.hid hke
          obtain ⟨y, hy⟩ : ∃ y, g.es.getD k e0 = y := ⟨_, rfl⟩
          have HY := Lib.hid hy
          rw [hy] at q0 q1 hqi hqo
          obtain ⟨s1, r1, hu1⟩ := hqi.shape
          obtain ⟨s2, r2, hu2⟩ := hqo.shape
          subst hu1 hu2
          have hs2 := HSQ.out.boxAt wr.heap.size rfl #[.int .i64 y.k, .int .i64 y.v, .slice s1 y.i.length r1, .slice s2 y.o.length r2] 84
          obtain ⟨z0, z1, z2, z3, _⟩ := bq4 hs2.hd
          have HS3 := Lib.hid hs2.tl
          clear hqi hqo hat hy hke hs2
          by_cases h8 : 8 < y.k
          · obtain ⟨hz1, hz2⟩ := cg_zero (p := p) (g := g) (Or.inr (Or.inr (Or.inr (k8_yes HKE.out (by rw [HY.out]; exact h8)))))
            rw [HRR.out] at hz1
            rw [HBB.out] at hz2
            subst hz1 hz2
            have hs1 := HS3.out
            obtain ⟨r0, r1, r2, r3, r4, r5⟩ := bx3 hs1.hd
            have hs2 := ((hs1.setB 0 (.int .i64 0)).setB 1 (.slice none 0 0)).setB 2 (.slice none 0 0)
            obtain ⟨t0, t1, t2, _⟩ := bx3 hs2.hd
            have HKF := Lib.hid (show w.grownBy _ none from hs2.tl.tl.hd)
            clear hs1 hs2
            go_wp2_with fail
            refine bodyPost_ret_by (v := .tuple #[.agg #[.int .i64 0, .slice none 0 0, .slice none 0 0], .bool false]) ?_ rfl (CirRes.zero HKF.out)
            simp [results, go_sem, *]
          · have HNB := Lib.hid (show ∀ i, i < k + 1 → (g.es.getD i e0).k ≤ 8 from fun i hi => by
              by_cases e : i = k
              · subst e; rw [HY.out]; omega
              · exact HOK.out i (by omega))
            go_wp2_with fail
            go_roundw
            case rel => exact ⟨k + 1, by omega, by go_num, HNB.out, HS3.out⟩
            case measure => simp [intOf]; omega
        · have hkm : m = k := by omega
          subst hkm
          have hkk : ¬ (m : Int) < (m : Int) := by omega
          have h4 : g.es.any k8B = false := k8_no (fun i hi => HOK.out i (by rw [← HM.out]; exact hi))
          have h1 := HB1.out; have h2 := HB2.out
          have HS2 := Lib.hid HSQ.out
          have HK2 := Lib.hid (show w.grownBy wr none from HSQ.out.tl.tl.hd)
          obtain ⟨x0, x1, x2, x3, _⟩ := bq4 HSQ.out.tl.hd
          cases h3 : acyB (ndE g.es)
          · obtain ⟨hz1, hz2⟩ := cg_zero (p := p) (g := g) (Or.inr (Or.inr (Or.inl h3)))
            rw [HRR.out] at hz1
            rw [HBB.out] at hz2
            subst hz1 hz2
            rw [h3] at H3
            clear h1 h2 h3 h4
            go_wp2_with (first
              | (go_at_call 55
                 with_reducible refine (H3.out _ HK2.out).mono ?_
                 rintro e w3 ⟨rfl, hg⟩
                 have HS3 := Lib.hid (HS2.out.grown hg)
                 have HK3 := Lib.hid (grownBy_trans HK2.out hg)
                 clear hg x0 x1 x2 x3
                 obtain ⟨x0, x1, x2, x3, _⟩ := bq4 HS3.out.tl.hd
                 have hs1 := HS3.out
                 obtain ⟨r0, r1, r2, r3, r4, r5⟩ := bx3 hs1.hd
                 have hs2 := ((hs1.setB 0 (.int .i64 0)).setB 1 (.slice none 0 0)).setB 2 (.slice none 0 0)
                 obtain ⟨t0, t1, t2, _⟩ := bx3 hs2.hd
                 have HKF := Lib.hid (show w.grownBy _ none from hs2.tl.tl.hd)
                 clear hs1 hs2))
            refine bodyPost_ret_by (v := .tuple #[.agg #[.int .i64 0, .slice none 0 0, .slice none 0 0], .bool false]) ?_ rfl (CirRes.zero HKF.out)
            simp [results, go_sem, *]
          · rw [h3] at H3
            obtain ⟨N, hk⟩ := cg_ok (ovB_gr h1) h2 (k8_all h4)
            obtain ⟨hz1, hz2⟩ := cg_one hk.en h1 h2 h3 h4
            rw [HBB.out] at hz1
            rw [HRR.out] at hz2
            subst hz1 hz2
            obtain ⟨hl1, hl2⟩ := cir_len hk
            have hnn : n = (N : Int) := by rw [← HN.out]; exact hk.en
            have HD := Lib.hid fun W (hW : w.grownBy W none) => (show Calls Tryd.prog 56 #[.agg #[.int .i64 n, .slice ea m ec, .slice ia m1 ic, .slice oa m2 oc]] W fun e w' => ∃ (a1 : Option Addr) (c1 : Nat) (a2 : Option Addr) (c2 : Nat), e = .returned (.agg #[.int .i64 (cirG g N).n, .slice a1 (cirG g N).gs.length c1, .slice a2 (cirG g N).os.length c2]) ∧ Sep w' [OR gateE (.slice a1 (cirG g N).gs.length c1) (cirG g N).gs, OI (.slice a2 (cirG g N).os.length c2) (cirG g N).os, KeepA W] from by
              have h := crOf_any g N _ _ _ W hk h3 (HE.out.carry hW) (HI.out.carry hW) (HO.out.carry hW)
              unfold grV at h
              rw [← hnn, HM.out, HM1.out, HM2.out] at h
              exact h)
            clear hk hnn HRR HBB
            generalize cirG g N = R at *
            obtain ⟨rn, gs, os⟩ := R
            simp only at hl1 hl2 HD
            have HV := Lib.hid fun W gv ov (ht : w.grownBy W none) (h1 : RdR gateE W gv gs) (h2 : IntsV W ov os) => crIf_any p rn gv ov gs os W  h1 h2 (by omega) (by omega)
            clear hl1 hl2
            generalize hb : circE p ⟨rn, gs, os⟩ = b at *
            clear hb
            clear h1 h2 h3 h4
            cases b
            · simp only [cirV, nilS, Bool.false_eq_true, if_false] at HV
              go_wp2_with (first
                | (go_at_call 55
                   with_reducible refine (H3.out _ HK2.out).mono ?_
                   rintro e w3 ⟨rfl, hg⟩
                   have HS3 := Lib.hid (HS2.out.grown hg)
                   have HK3 := Lib.hid (grownBy_trans HK2.out hg)
                   clear hg x0 x1 x2 x3
                   obtain ⟨x0, x1, x2, x3, _⟩ := bq4 HS3.out.tl.hd)
                | (go_at_call 56
                   with_reducible refine (HD.out _ HK3.out).mono ?_
                   rintro e w4 ⟨a1, c1, a2, c2, rfl, hsg⟩
                   obtain ⟨hR, hI, hk5⟩ := hsg.reads
                   have HR := Lib.hid hR
                   have HI2 := Lib.hid hI
                   have HK4 := Lib.hid (grownBy_trans HK3.out hk5)
                   have HS4 := Lib.hid (HS3.out.graft2 hsg OR_own OI_own)
                   clear hR hI hk5 hsg x0 x1 x2 x3)
                | (go_at_call 30
                   with_reducible refine (HV.out _ _ _ HK4.out HR.out HI2.out).mono ?_
                   rintro e w5 ⟨rfl, hg⟩
                   have hs1 := (HS4.out.grown hg).s3
                   obtain ⟨r0, r1, r2, r3, r4, r5⟩ := bx3 hs1.hd
                   have hs2 := ((hs1.setB 0 (.int .i64 0)).setB 1 (.slice none 0 0)).setB 2 (.slice none 0 0)
                   obtain ⟨t0, t1, t2, _⟩ := bx3 hs2.hd
                   have HKF := Lib.hid (show w.grownBy _ none from hs2.tl.tl.tl.tl.hd)
                   clear hg hs1 hs2))
              refine bodyPost_ret_by (v := .tuple #[.agg #[.int .i64 0, .slice none 0 0, .slice none 0 0], .bool false]) ?_ rfl (CirRes.zero HKF.out)
              simp [results, go_sem, *]
            · simp only [cirV, if_true] at HV
              go_wp2_with (first
                | (go_at_call 55
                   with_reducible refine (H3.out _ HK2.out).mono ?_
                   rintro e w3 ⟨rfl, hg⟩
                   have HS3 := Lib.hid (HS2.out.grown hg)
                   have HK3 := Lib.hid (grownBy_trans HK2.out hg)
                   clear hg x0 x1 x2 x3
                   obtain ⟨x0, x1, x2, x3, _⟩ := bq4 HS3.out.tl.hd)
                | (go_at_call 56
                   with_reducible refine (HD.out _ HK3.out).mono ?_
                   rintro e w4 ⟨a1, c1, a2, c2, rfl, hsg⟩
                   obtain ⟨hR, hI, hk5⟩ := hsg.reads
                   have HR := Lib.hid hR
                   have HI2 := Lib.hid hI
                   have HK4 := Lib.hid (grownBy_trans HK3.out hk5)
                   have HS4 := Lib.hid (HS3.out.graft2 hsg OR_own OI_own)
                   clear hR hI hk5 hsg x0 x1 x2 x3)
                | (go_at_call 30
                   with_reducible refine (HV.out _ _ _ HK4.out HR.out HI2.out).mono ?_
                   rintro e w5 ⟨rfl, hg⟩
                   have hs1 := (HS4.out.grown hg).s3
                   obtain ⟨r0, r1, r2, r3, r4, r5⟩ := bx3 hs1.hd
                   have hs2 := ((hs1.setB 0 (.int .i64 rn)).setB 1 (.slice a1 gs.length c1)).setB 2 (.slice a2 os.length c2)
                   obtain ⟨t0, t1, t2, _⟩ := bx3 hs2.hd
                   have HSF := Lib.hid (hs2.tl.under (fun h => h.drop2) (by simp +contextual))
                   clear hg hs1 hs2))
              refine bodyPost_ret_by (v := .tuple #[.agg #[.int .i64 rn, .slice a1 gs.length c1, .slice a2 os.length c2], .bool true]) ?_ rfl ⟨a1, c1, a2, c2, rfl, HSF.out⟩
              simp [results, go_sem, *]
end Go.Proofs.YtghfifpicklonaaDoor

/-
  The walk of FnExactCircuitOfGraph. Conditions: the table of small primes holds what its text lays; the slices' lengths are those of slices.
-/
namespace Go.Proofs.YtghfifpicklonaaDoor
open Go.RowKit
set_option linter.unusedVariables false
set_option maxRecDepth 100000

set_option maxHeartbeats 16000000 in
theorem fnCirG_any (p : Int) (g : Gr) (ev iv ov : Value) (w : World) (ht : Tab w) (he : RdE argEdE w ev g.es) (hi : IntsV w iv g.i) (ho : IntsV w ov g.o) (hok : okG g) :
    Calls Tryd.prog 5 #[.int .i64 p, grV g.n ev iv ov] w fun e w' => e = .returned (.bool true) ∧ w.grownBy w' none := by
  have HSZ := Lib.hid fun W (h : w.grownBy W none) => szGraph_any g.n ev iv ov g 1048576 W (he.carry h) (hi.carry h) (ho.carry h) (by decide) (by decide) hok
  have HTT := Lib.hid fun W (h : w.grownBy W none) => toGraph_sh g ev iv ov W (he.carry h) (hi.carry h) (ho.carry h)
  have HT := Lib.hid ht
  unfold grV at HSZ HTT
  unfold grV
  obtain ⟨sa, ta, rfl⟩ := he.shape
  obtain ⟨sb, tb, rfl⟩ := hi.shape
  obtain ⟨sc, tc, rfl⟩ := ho.shape
  clear he hi ho hok ht
  have HS0 := Lib.hid ((Sep.start w).box #[.int .i64 g.n, .slice sa g.es.length ta, .slice sb g.i.length tb, .slice sc g.o.length tc] 51)
  have HK0 := Lib.hid (show w.grownBy _ none from HS0.out.tl.hd)
  by_cases hsz : lft 1048576 (totG g) < 0
  · generalize lft 1048576 (totG g) = rr at *
    clear HTT HT
    go_enter Tryd.func5, Tryd.ntmps5
    go_wp2_with (
      go_at_call 22
      with_reducible refine (HSZ.out _ HK0.out).mono ?_
      rintro e w2 ⟨rfl, hg⟩
      have HK2 := Lib.hid (grownBy_trans HK0.out hg)
      clear hg)
    go_ret
    exact ⟨rfl, HK2.out⟩
  · have htot : totG g ≤ 1048576 := by unfold lft at hsz; by_cases h : (1048576 : Int) - totG g < 0 <;> simp [h] at hsz <;> omega
    have hsm := Sm.of htot
    have HTS := Lib.hid fun W (h : w.grownBy W none) => HTT.out W h htot
    have HES := Lib.hid fun W u0 u1 u2 v0 v1 v2 (h : RdX W g u0 u1 u2) (h' : RdX W g v0 v1 v2) => eqGraph_sh g W u0 u1 u2 v0 v1 v2 h h' htot
    have HMS := Lib.hid fun W u0 u1 u2 xs l (h : Sep W (OX3 u0 xs u1 g.i u2 g.o :: l)) (hx : eds xs = g.es) => (markGraph_sh u0 u1 u2 xs g 1 W l h hx htot (by decide) (by decide)).mono fun e w' (h : _ ∧ _) => show ∃ r : Int, e = .returned (.int .i64 r) ∧ 0 ≤ r ∧ Sep w' l from ⟨_, h.1, by omega, h.2.1.tl⟩
    obtain ⟨R, hR⟩ : ∃ R, cgRes p g = R := ⟨_, rfl⟩
    obtain ⟨b, hb⟩ : ∃ b, cgOk p g = b := ⟨_, rfl⟩
    obtain ⟨hR1, hR2⟩ := show R.gs.length ≤ 72 ∧ R.os.length ≤ 12 from by rw [← hR]; exact cgRes_len p g
    have HSP := Lib.hid fun W u0 u1 u2 (hw : w.grownBy W none) (h : RdX W g u0 u1 u2) => show Calls Tryd.prog 23 #[.int .i64 p, .agg #[.int .i64 g.n, u0, u1, u2]] W (CirRes R b W) from by
      have := sCirG_any p g u0 u1 u2 W h.1 h.2.1 h.2.2 (by have := hsm.es; omega) (by have := hsm.i; omega) (by have := hsm.o; omega)
      rw [hR, hb] at this
      exact this
    have HIM := Lib.hid fun W u0 u1 u2 (hw : w.grownBy W none) (h : RdX W g u0 u1 u2) => show Calls Tryd.prog 25 #[.int .i64 p, .agg #[.int .i64 g.n, u0, u1, u2]] W (CirRes R b W) from by
      have := iCirG_any p g u0 u1 u2 W (HT.out.grown hw) h.1 h.2.1 h.2.2 (by have := hsm.es; omega) (by have := hsm.i; omega) (by have := hsm.o; omega)
      rw [hR, hb] at this
      exact this
    have HER := Lib.hid fun W a1 c1 a2 c2 (h1 : RdR gateE W (.slice a1 R.gs.length c1) R.gs) (h2 : IntsV W (.slice a2 R.os.length c2) R.os) a3 c3 a4 c4 (h3 : RdR gateE W (.slice a3 R.gs.length c3) R.gs) (h4 : IntsV W (.slice a4 R.os.length c4) R.os) =>
      eqCircuit_same R.n (.slice a1 R.gs.length c1) (.slice a2 R.os.length c2) (.slice a3 R.gs.length c3) (.slice a4 R.os.length c4) R.gs R.os W h1 h3 h2 h4 (by omega) (by omega)
    have HMG := Lib.hid fun W l a1 c1 a2 c2 (h : Sep W (OR gateE (.slice a1 R.gs.length c1) R.gs :: OI (.slice a2 R.os.length c2) R.os :: l)) => markCircuit_any R.n a1 a2 R.gs.length c1 R.os.length c2 R.gs R.os 1 W l h rfl rfl (by omega) (by omega) (by decide) (by decide)
    have HHG := Lib.hid fun W a1 c1 a2 c2 (h1 : RdR gateE W (.slice a1 R.gs.length c1) (cntG 1 R.gs.length)) (h2 : IntsV W (.slice a2 R.os.length c2) (cntI (1 + 4 * R.gs.length) R.os.length)) => heldCircuit_any R.n a1 a2 R.gs.length c1 R.os.length c2 1 W h1 h2 (by omega) (by omega) (by decide) (by decide)
    clear hR hb
    unfold CirRes at HSP HIM
    unfold Gives3 id at HTS
    unfold grV at HES HMS
    obtain ⟨Rn, Rg, Ro⟩ := R
    simp only at HSP HIM HER HMG HHG hR1 hR2
    generalize hr1 : Rg.length = r1 at *
    generalize hr2 : Ro.length = r2 at *
    obtain ⟨q2, hq2⟩ : ∃ q : Int, q = 1 + 4 * (r1 : Int) + r2 := ⟨_, rfl⟩
    rw [← hq2] at HMG HHG
    have hq20 : ¬ q2 < 0 := by omega
    have hmm : (q2 != q2) = false := by simp
    have hnb : (b != b) = false := by simp
    clear hr1 hr2 hq2
    unfold cirV at *
    generalize lft 1048576 (totG g) = rr at *
    clear htot hsm HTT HT
    go_enter Tryd.func5, Tryd.ntmps5
    go_upto_region 10 with (first
      | (go_at_call 22
         with_reducible refine (HSZ.out _ HK0.out).mono ?_
         rintro e w2 ⟨rfl, hg⟩
         have hs2 := HS0.out.grown hg
         obtain ⟨x0, x1, x2, x3, _⟩ := bq4 hs2.hd
         have HS2 := Lib.hid hs2
         have HK2 := Lib.hid (show w.grownBy w2 none from hs2.tl.hd)
         clear hg hs2)
      | (go_at_call 24
         with_reducible refine (HTS.out _ HK2.out).mono ?_
         rintro e w3 ⟨maa, kaa, mba, kba, mca, kca, xaa, rfl, hx, hsg⟩
         have hs3 := HS2.out.graft1 hsg OX3_own
         have HS3 := Lib.hid hs3
         have HSP3 := Lib.hid (HSP.out _ _ _ _ (show w.grownBy w3 none from hs3.tl.tl.hd) (OX3.read hs3.hd hx))
         clear x0 x1 x2 x3
         clear hsg hs3 hx)
      | (go_at_call 23
         with_reducible refine HSP3.out.mono ?_
         rintro e w4 ⟨wg, wc, wo, wd, rfl, hsg⟩
         have hs4 := (Sep.cutA (X := [_, _]) (A := [_]) (HS3.out.graft2 hsg OR_own OI_own)).box #[.int .i64 Rn, .slice wg r1 wc, .slice wo r2 wd] 29
         obtain ⟨x0, x1, x2, x3, _⟩ := bq4 hs4.tl.tl.tl.hd
         have HS4 := Lib.hid hs4
         have HK4 := Lib.hid (show w.grownBy _ none from hs4.tl.tl.tl.tl.hd)
         clear hsg hs4)
      | (go_at_call 24
         with_reducible refine (HTS.out _ HK4.out).mono ?_
         rintro e w5 ⟨mab, kab, mbb, kbb, mcb, kcb, xab, rfl, hx, hsg⟩
         have HXA := Lib.hid hx
         have hs5 := (HS4.out.graft1 hsg OX3_own).box #[.int .i64 g.n, .slice mab g.es.length kab, .slice mbb g.i.length kbb, .slice mcb g.o.length kcb] 56
         clear x0 x1 x2 x3
         obtain ⟨x0, x1, x2, x3, _⟩ := bq4 hs5.hd
         have HS5 := Lib.hid hs5
         have HIM5 := Lib.hid (HIM.out _ _ _ _ (show w.grownBy _ none from hs5.tl.tl.tl.tl.tl.tl.hd) (OX3.read hs5.tl.hd hx))
         clear hsg hs5 hx)
      | (go_at_call 25
         with_reducible refine HIM5.out.mono ?_
         rintro e w6 ⟨hg1, hc1, ho1, hd1, rfl, hsg⟩
         have hs6 := (HS5.out.graft2 hsg OR_own OI_own).box #[.int .i64 Rn, .slice hg1 r1 hc1, .slice ho1 r2 hd1] 29
         clear x0 x1 x2 x3
         obtain ⟨m0, m1, m2, _⟩ := bx3 hs6.hd
         obtain ⟨n0, n1, n2, _⟩ := bx3 hs6.tl.tl.tl.tl.tl.hd
         have HS6 := Lib.hid hs6
         have HEQ6 := Lib.hid (HER.out _ _ _ _ _ hs6.tl.hd.read hs6.tl.tl.hd.read _ _ _ _ hs6.tl.tl.tl.tl.tl.tl.hd.read hs6.tl.tl.tl.tl.tl.tl.tl.hd.read)
         clear hsg hs6)
      | (go_at_call 10
         with_reducible refine HEQ6.out.mono ?_
         rintro e w7 ⟨rfl, hg⟩
         have hs7 := HS6.out.grown hg
         clear m0 m1 m2
         clear n0 n1 n2
         have HS7 := Lib.hid hs7
         clear hg hs7))
    have hs7 := HS7.out.dr
    obtain ⟨x0, x1, x2, x3, _⟩ := bq4 hs7.tl.tl.tl.hd
    obtain ⟨y0, y1, y2, y3, _⟩ := bq4 hs7.tl.tl.tl.tl.tl.tl.tl.tl.hd
    have HSD7 := Lib.hid hs7
    have HKD7 := Lib.hid (show w.grownBy w7.drew none from hs7.tl.tl.tl.tl.tl.tl.tl.tl.tl.hd)
    clear hs7
    go_region_law (first
      | ((try go_simp)
         go_at_call 24
         with_reducible refine (HTS.out _ HKD7.out).mono ?_
         rintro e w8 ⟨mac, kac, mbc, kbc, mcc, kcc, xac, rfl, hx, hsg⟩
         have hs8 := HSD7.out.graft1 hsg OX3_own
         obtain ⟨z0, z1, z2, z3, _⟩ := bq4 hs8.tl.tl.tl.tl.hd
         have HE8 := Lib.hid (HES.out _ _ _ _ _ _ _ (OX3.read hs8.tl.tl.tl.tl.tl.hd HXA.out) (OX3.read hs8.hd hx))
         have HS8 := Lib.hid hs8.tl
         clear hsg hs8 hx)
      | ((try go_simp)
         go_at_call 26
         with_reducible refine HE8.out.mono ?_
         rintro e w9 ⟨rfl, hg⟩
         have hs9 := HS8.out.grown hg
         obtain ⟨v0, v1, v2, v3, _⟩ := bq4 hs9.tl.tl.tl.hd
         have HMS9 := Lib.hid (HMS.out _ _ _ _ _ _ (Sep.blk (A := [_, _, _, _]) (B := [_]) hs9) HXA.out)
         clear hg hs9))
    all_goals
      clear x0 x1 x2 x3 y0 y1 y2 y3
      go_wp2_with (first
        | (go_at_call 27
           with_reducible refine HMS9.out.mono ?_
           rintro e w10 ⟨r10, rfl, hr10, hs10⟩
           have hr10' : ¬ r10 < 0 := by omega
           obtain ⟨m0, m1, m2, _⟩ := bx3 hs10.hd
           obtain ⟨n0, n1, n2, _⟩ := bx3 hs10.tl.tl.tl.tl.hd
           have HS10 := Lib.hid hs10
           have HEQ10 := Lib.hid (HER.out _ _ _ _ _ hs10.tl.hd.read hs10.tl.tl.hd.read _ _ _ _ hs10.tl.tl.tl.tl.tl.hd.read hs10.tl.tl.tl.tl.tl.tl.hd.read)
           clear hs10 hr10)
        | (go_at_call 10
           with_reducible refine HEQ10.out.mono ?_
           rintro e w11 ⟨rfl, hg⟩
           have hs11 := Sep.blk (A := [_]) (B := [_, _]) (HS10.out.grown hg)
           clear m0 m1 m2
           clear n0 n1 n2
           obtain ⟨m0, m1, m2, _⟩ := bx3 hs11.tl.tl.hd
           have HMG11 := Lib.hid (HMG.out _ _ _ _ _ _ hs11)
           clear hg hs11)
        | (go_at_call 13
           with_reducible refine HMG11.out.mono ?_
           rintro e w12 ⟨rfl, hs12⟩
           clear m0 m1 m2
           obtain ⟨m0, m1, m2, _⟩ := bx3 hs12.tl.tl.hd
           have HS12 := Lib.hid hs12
           have HHG12 := Lib.hid (HHG.out _ _ _ _ _ hs12.hd.read hs12.tl.hd.read)
           clear hs12)
        | (go_at_call 14
           with_reducible refine HHG12.out.mono ?_
           rintro e w13 ⟨rfl, hg⟩
           have hs13 := HS12.out.grown hg
           clear m0 m1 m2
           obtain ⟨x0, x1, x2, x3, _⟩ := bq4 hs13.tl.tl.tl.tl.tl.tl.tl.hd
           have HS13 := Lib.hid hs13
           have HK13 := Lib.hid (show w.grownBy w13 none from hs13.tl.tl.tl.tl.tl.tl.tl.tl.hd)
           clear hg hs13)
        | (go_at_call 24
           with_reducible refine (HTS.out _ HK13.out).mono ?_
           rintro e w14 ⟨mad, kad, mbd, kbd, mcd, kcd, xad, rfl, hx, hsg⟩
           have hs14 := HS13.out.graft1 hsg OX3_own
           clear x0 x1 x2 x3
           have HS14 := Lib.hid hs14
           have HIM14 := Lib.hid (HIM.out _ _ _ _ (show w.grownBy _ none from hs14.tl.tl.tl.tl.tl.tl.tl.tl.tl.hd) (OX3.read hs14.hd hx))
           clear hsg hs14 hx)
        | (go_at_call 25
           with_reducible refine HIM14.out.mono ?_
           rintro e w15 ⟨ig, ic, io, id', rfl, hsg⟩
           have hs15 := (Sep.cutA (X := [_, _]) (A := [_]) (HS14.out.graft2 hsg OR_own OI_own)).box #[.int .i64 Rn, .slice ig r1 ic, .slice io r2 id'] 29
           obtain ⟨m0, m1, m2, _⟩ := bx3 hs15.hd
           obtain ⟨n0, n1, n2, _⟩ := bx3 hs15.tl.tl.tl.tl.tl.tl.tl.hd
           have HS15 := Lib.hid hs15
           have HEQ15 := Lib.hid (HER.out _ _ _ _ _ hs15.tl.hd.read hs15.tl.tl.hd.read _ _ _ _ hs15.tl.tl.tl.tl.tl.tl.tl.tl.hd.read hs15.tl.tl.tl.tl.tl.tl.tl.tl.tl.hd.read)
           clear hsg hs15)
        | (go_at_call 10
           with_reducible refine HEQ15.out.mono ?_
           rintro e w16 ⟨rfl, hg⟩
           have hs16 := HS15.out.grown hg
           clear m0 m1 m2
           clear n0 n1 n2
           obtain ⟨m0, m1, m2, _⟩ := bx3 hs16.tl.tl.tl.tl.tl.hd
           have HHG16 := Lib.hid (HHG.out _ _ _ _ _ hs16.tl.tl.tl.hd.read hs16.tl.tl.tl.tl.hd.read)
           have HK16 := Lib.hid (show w.grownBy w16 none from hs16.tl.tl.tl.tl.tl.tl.tl.tl.tl.tl.tl.hd)
           clear hg hs16)
        | (go_at_call 14
           with_reducible refine HHG16.out.mono ?_
           rintro e w17 ⟨rfl, hg⟩
           have HK17 := Lib.hid (grownBy_trans HK16.out hg)
           clear hg))
      go_ret
      exact ⟨rfl, HK17.out⟩
end Go.Proofs.YtghfifpicklonaaDoor

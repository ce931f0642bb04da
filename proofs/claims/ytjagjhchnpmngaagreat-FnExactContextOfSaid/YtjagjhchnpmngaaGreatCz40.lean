/-
 The deferred closure that recovers. Conditions: the result's variable may be written.
-/
import Derived.Test.YtjagjhchnpmngaaGreatCz06
import Derived.Test.YtjagjhchnpmngaaGreatCz05
import Derived.Test.YtjagjhchnpmngaaGreatCz04
import Derived.Test.YtjagjhchnpmngaaGreatCz03
import Derived.Test.YtjagjhchnpmngaaGreatCz02
import Derived.Test.YtjagjhchnpmngaaGreatCz01
import Derived.Test.YtjagjhchnpmngaaGreatCz00
import Derived.Test.YtjagjhchnpmngaaGreatCz29
import Derived.Test.YtjagjhchnpmngaaGreatCz07
import Derived.Test.YtjagjhchnpmngaaGreatCz25
import Derived.Defers
import Derived.Recover
import Derived.Test.YtjagjhchnpmngaaGreatCz39
import Derived.Test.YtjagjhchnpmngaaGreatCz32
import Derived.Test.YtjagjhchnpmngaaGreatCz08
set_option linter.unusedVariables false
set_option linter.unusedSimpArgs false
set_option maxRecDepth 100000
namespace Go.Proofs.YtjagjhchnpmngaaGreat
open Go.RowKit
theorem try1_panicking (p : Addr) (x : Bool) (u : TypeId) (pv : Value) (older : List PanicEntry) (w : World) (hc : w.cell? p = some (.bool x)) (hz : w.frozen? p = false) :
 CallsD Tryz.prog 68 #[.pointer (some p)] (.panicking ({ v := .iface u pv, recovered := false } :: older)) w fun e u' w' =>
  e = .returned (.tuple #[]) ∧ u' = .panicking ({ v := .iface u pv, recovered := true } :: older) ∧ w' = w.setCell p (.bool false) := by
 refine callsD_of_wpS Tryz.func68 rfl fun c₀ cs hu => ?_
 apply wpS_seq
 apply wpS_region
 simp [wpOpsS, go_sem, recoverD, hu, Tryz.ntmps68, Exit.thenS]
 refine wpS_cond (t := true) (by simp [Act.eval, Array.replicate]) ?_
 simp only [if_true]
 apply wpS_region
 simp [wpOpsS, go_sem, hc, hz, bodyPostS, results, Tryz.results68]
theorem try1_idle (p : Addr) (w : World) :
 CallsD Tryz.prog 68 #[.pointer (some p)] .returning w fun e u' w' => e = .returned (.tuple #[]) ∧ u' = .returning ∧ w' = w := by
 refine callsD_of_wpS Tryz.func68 rfl fun c₀ cs hu => ?_
 apply wpS_seq
 apply wpS_region
 simp [wpOpsS, go_sem, recoverD, hu, Tryz.ntmps68, Exit.thenS]
 refine wpS_cond (t := false) (by simp [Act.eval, Array.replicate]) ?_
 simp only [Bool.false_eq_true, if_false]
 refine wpS_of_wp (wp_skip ?_)
 cases c₀
 simp_all [bodyPostS, results, Tryz.results68]
theorem tryCx_ret (c0 c1 c2 c3 : Value) (w : World) (l : List Asrt) (Good : List Asrt → Prop) (hs : Sep w l)
 (hf : ∀ W r, Sep W (r :: l) → Calls Tryz.prog 38 #[c0, c1, c2, c3] W fun e w' => e = .returned (.tuple #[]) ∧ ∃ l', Good l' ∧ Sep w' (r :: l')) :
 Calls Tryz.prog 37 #[.func (.func 38) #[] #[c0, c1, c2, c3]] w fun e w' => e = .returned (.bool true) ∧ ∃ l', Good l' ∧ Sep w' l' := by
 have hmf : ∀ (fn : Fn) (first cap : Array Value) (w : World), (Instr.makeFunc fn first cap).run Tryz.prog w = .ok (.func fn first cap) w := fun _ _ _ _ => rfl
 have HS0 := qd (hs.boxAt w.heap.size rfl #[.bool false] 4)
 have HF := qd (hf _ _ HS0.out)
 clear hs hf
 go_enter_defers Tryz.func37, Tryz.ntmps37
 go_wp2_with (
  go_at_call 38
  with_reducible refine HF.out.mono ?_
  rintro e w3 ⟨rfl, l', hG, hs3⟩
  have HG := qd hG
  obtain ⟨y0, f0⟩ := bs1f hs3.hd
  have HS3 := qd (hs3.setB 0 (.bool true))
  clear hG hs3)
 obtain ⟨k0, _⟩ := bs1f HS3.out.hd
 refine leaves_cons (f := 68) (args := #[.pointer (some ⟨w.heap.size, 0, none⟩)]) (by simp) (by simp [go_sem]) ?_
 refine (try1_idle ⟨w.heap.size, 0, none⟩ _).mono ?_
 rintro e u' w'' ⟨rfl, rfl, rfl⟩
 simp [Leaves, settle, results, Tryz.results37, go_sem, k0]
 exact ⟨_, HG.out, HS3.out.tl⟩
theorem tryCx_panic (c0 c1 c2 c3 : Value) (u : TypeId) (pv : Value) (w : World) (l : List Asrt) (Good : List Asrt → Prop) (hs : Sep w l)
 (hf : ∀ W r, Sep W (r :: l) → Calls Tryz.prog 38 #[c0, c1, c2, c3] W fun e w' => e = .panicked [{ v := .iface u pv, recovered := false }] ∧ ∃ l', Good l' ∧ Sep w' (r :: l')) :
 Calls Tryz.prog 37 #[.func (.func 38) #[] #[c0, c1, c2, c3]] w fun e w' => e = .returned (.bool false) ∧ ∃ l', Good l' ∧ Sep w' l' := by
 have hmf : ∀ (fn : Fn) (first cap : Array Value) (w : World), (Instr.makeFunc fn first cap).run Tryz.prog w = .ok (.func fn first cap) w := fun _ _ _ _ => rfl
 have HS0 := qd (hs.boxAt w.heap.size rfl #[.bool false] 4)
 have HF := qd (hf _ _ HS0.out)
 clear hs hf
 go_enter_defers Tryz.func37, Tryz.ntmps37
 go_wp2_with (
  go_at_call 38
  with_reducible refine HF.out.mono ?_
  rintro e w3 ⟨rfl, l', hG, hs3⟩
  have HG := qd hG
  obtain ⟨y0, f0⟩ := bs1f hs3.hd
  have HS3 := qd (hs3.setB 0 (.bool false))
  clear hG hs3)
 obtain ⟨k0, _⟩ := bs1f HS3.out.hd
 refine leaves_cons (f := 68) (args := #[.pointer (some ⟨w.heap.size, 0, none⟩)]) (by simp) (by simp [go_sem]) ?_
 refine (try1_panicking ⟨w.heap.size, 0, none⟩ false u pv [] _ y0 f0).mono ?_
 rintro e u' w'' ⟨rfl, rfl, rfl⟩
 simp [Leaves, settle, results, Tryz.results37, go_sem, k0]
 exact ⟨_, HG.out, HS3.out.tl⟩
set_option maxHeartbeats 8000000 in
theorem iContextOf_any (g : Gr) (s : ByteArray) (x y : List Nd) (W E : List Int) (gev giv gov xv yv : Value) (wa ea : Option Addr) (wcp ec : Nat) (w : World) (he : RdE edgeE w gev g.es) (hi : IntsV w giv g.i) (ho : IntsV w gov g.o) (l0 : g.es.length ≤ 2000000) (l1 : g.i.length ≤ 2000000) (l2 : g.o.length ≤ 2000000)
 (hx : RdR nodeE w xv x) (hy : RdR nodeE w yv y) (hxl : x.length ≤ 2000000) (hyl : y.length ≤ 2000000) (hs : s.size ≤ 1000000000000) (hw : IntsV w (.slice wa W.length wcp) W) (hE : IntsV w (.slice ea E.length ec) E) (hWl : W.length ≤ 2000000) (hEl : E.length ≤ 2000000) :
 Calls Tryz.prog 13 #[grV g.n gev giv gov, ruleV s xv yv, .agg #[.slice wa W.length wcp, .slice ea E.length ec]] w (MadeR (ctxB g s x y W E) (ctxK g (grT x) W E) w) := by
 obtain ⟨ga, gc, rfl⟩ := he.shape
 obtain ⟨gi, gd, rfl⟩ := hi.shape
 obtain ⟨go_, ge, rfl⟩ := ho.shape
 obtain ⟨xa, xc, rfl⟩ := hx.shape
 obtain ⟨ya, yc, rfl⟩ := hy.shape
 have HCR := qd fun W1 (hW : w.grownBy W1 none) => canRewrite_any g s x y _ _ _ _ _ W1 (he.carry hW) (hi.carry hW) (ho.carry hW) (by omega) l1 l2 (hx.carry hW) (hy.carry hW) hxl hyl hs
 have HS0 := qd ((((((Sep.start w).boxAt w.heap.size rfl #[.int .i64 g.n, .slice ga g.es.length gc, .slice gi g.i.length gd, .slice go_ g.o.length ge] 38).boxAt (w.heap.size + 1) (by simp) #[.string s, .slice xa x.length xc, .slice ya y.length yc] 46).boxAt (w.heap.size + 2) (by simp) #[.slice wa W.length wcp, .slice ea E.length ec] 48).boxAt (w.heap.size + 3) (by simp) #[.int .i64 0, .slice none 0 0, .slice none 0 0, .slice none 0 0] 38).boxAt (w.heap.size + 4) (by simp) #[.int .i64 0, .slice none 0 0, .slice none 0 0, .slice none 0 0] 38)
 have hmf : ∀ (fn : Fn) (first cap : Array Value) (w : World), (Instr.makeFunc fn first cap).run Tryz.prog w = .ok (.func fn first cap) w := fun _ _ _ _ => rfl
 unfold grV ruleV at *
 cases hcb : canB g s x y
 ·rw [show ctxB g s x y W E = false from by unfold ctxB askB; unfold canB at hcb; cases h1 : rlB s x y <;> cases h2 : grB g <;> cases h3 : monB g <;> simp_all]
  rw [hcb] at HCR
  clear hcb he hi ho hx hy l0 l1 l2 hxl hyl hs hw hE hWl hEl
  generalize ctxK g (grT x) W E = KK
  generalize g.es.length = ne at *
  generalize g.i.length = ni at *
  generalize g.o.length = no at *
  generalize x.length = lx at *
  generalize y.length = ly at *
  generalize W.length = lw at *
  generalize E.length = le at *
  generalize hgn_ : g.n = n at *
  clear hgn_
  have HK0 := qd (show w.grownBy _ none from HS0.out.tl.tl.tl.tl.tl.hd)
  obtain ⟨g0, g1, g2, g3, _⟩ := gq4 HS0.out.tl.tl.tl.tl.hd
  obtain ⟨y0, y1, y2⟩ := bw3 HS0.out.tl.tl.tl.hd
  obtain ⟨m0, m1, _⟩ := bw2 HS0.out.tl.tl.hd
  go_enter Tryz.func13, Tryz.ntmps13
  go_wp2_with (
   go_at_call 36
   with_reducible refine (HCR.out _ HK0.out).mono ?_
   rintro e w2 ⟨rfl, hgr⟩
   have HS2 := qd (HS0.out.grown hgr)
   have hp1 := Sep.cutA (X := []) (A := [_]) HS2.out
   have hz := Sep.cutA (X := [_]) (A := [_, _, _]) hp1
   try simp only [List.nil_append, List.cons_append, List.append_eq] at hz
   clear hp1
   obtain ⟨k0, k1, k2, k3, f0, f1, f2, f3⟩ := gq4 hz.hd
   have hz2 := ((((hz.setB 0 (.int .i64 0)).setB 1 (.slice none 0 0)).setB 2 (.slice none 0 0)).setB 3 (.slice none 0 0))
   obtain ⟨j0, j1, j2, j3, _⟩ := gq4 hz2.hd
   have HKF := qd (show w.grownBy _ none from hz2.tl.hd)
   clear hz hz2
   clear hgr g0 g1 g2 g3 y0 y1 y2 m0 m1)
  refine bodyPost_ret_by (v := .tuple #[.agg #[.int .i64 0, .slice none 0 0, .slice none 0 0, .slice none 0 0], .bool false]) ?_ rfl (MadeR.zero HKF.out)
  simp [results, go_sem, *]
 ·have hcc : ((grB g && monB g) && rlB s x y) = true := hcb
  simp only [Bool.and_eq_true] at hcc
  obtain ⟨⟨hg, hmo⟩, hrl⟩ := hcc
  have hr2 := hrl
  unfold rlB at hr2
  simp only [Bool.and_eq_true] at hr2
  have hmx := hr2.1.1; have hmy := hr2.1.2; have hkx := hr2.2.2.2.1; have hky := hr2.2.2.2.2
  clear hr2
  obtain ⟨N, hN, _⟩ := grB_n hg
  obtain ⟨rN, hrN, _⟩ := grB_n (grT_okB hmy hky).1
  rw [hcb] at HCR
  have HK0 := qd (show w.grownBy _ none from HS0.out.tl.tl.tl.tl.tl.hd)
  cases hm : tst (IsMt g (grT x) ⟨W, E⟩)
  ·rw [show ctxB g s x y W E = false from by unfold ctxB askB; rw [hm]; simp]
   have HTY := qd fun W2 (h : Sep W2 [BxA (w.heap.size + 4) #[.int .i64 0, .slice none 0 0, .slice none 0 0, .slice none 0 0] 38, BxA (w.heap.size + 3) #[.int .i64 0, .slice none 0 0, .slice none 0 0, .slice none 0 0] 38, BxA (w.heap.size + 2) #[.slice wa W.length wcp, .slice ea E.length ec] 48, BxA (w.heap.size + 1) #[.string s, .slice xa x.length xc, .slice ya y.length yc] 46, BxA w.heap.size #[.int .i64 g.n, .slice ga g.es.length gc, .slice gi g.i.length gd, .slice go_ g.o.length ge] 38, KeepA w]) => tryCx_panic (.pointer (some ⟨w.heap.size, 0, none⟩)) (.pointer (some ⟨w.heap.size + 1, 0, none⟩)) (.pointer (some ⟨w.heap.size + 2, 0, none⟩)) (.pointer (some ⟨w.heap.size + 4, 0, none⟩)) 112 (.agg #[]) W2 _ (fun l => l = _) h (fun W3 r h3 => cx1_panic g s x y W E N rN hg hmx hkx hmy hky hm hN hrN ga gi go_ xa ya wa ea gc gd ge xc yc wcp ec w he hi ho hx hy hw hE hWl hEl W3 r h3)
   clear hcb he hi ho hx hy l0 l1 l2 hxl hyl hs hw hE hWl hEl hg hmo hrl hmx hmy hkx hky hN hrN hm
   generalize ctxK g (grT x) W E = KK
   generalize g.es.length = ne at *
   generalize g.i.length = ni at *
   generalize g.o.length = no at *
   generalize x.length = lx at *
   generalize y.length = ly at *
   generalize W.length = lw at *
   generalize E.length = le at *
   generalize hgn_ : g.n = n at *
   clear hgn_
   obtain ⟨g0, g1, g2, g3, _⟩ := gq4 HS0.out.tl.tl.tl.tl.hd
   obtain ⟨y0, y1, y2⟩ := bw3 HS0.out.tl.tl.tl.hd
   obtain ⟨m0, m1, _⟩ := bw2 HS0.out.tl.tl.hd
   go_enter Tryz.func13, Tryz.ntmps13
   go_wp2_with (first
    |(go_at_call 36
      with_reducible refine (HCR.out _ HK0.out).mono ?_
      rintro e w2 ⟨rfl, hgr⟩
      have HS2 := qd (HS0.out.grown hgr)
      clear hgr g0 g1 g2 g3 y0 y1 y2 m0 m1)
    |(go_at_call 37
      with_reducible refine (HTY.out _ HS2.out).mono ?_
      rintro e w3 ⟨rfl, l9, rfl, hs3⟩
      have hp1 := Sep.cutA (X := []) (A := [_]) hs3
      have hz := Sep.cutA (X := [_]) (A := [_, _, _]) hp1
      try simp only [List.nil_append, List.cons_append, List.append_eq] at hz
      clear hp1
      obtain ⟨k0, k1, k2, k3, f0, f1, f2, f3⟩ := gq4 hz.hd
      have hz2 := ((((hz.setB 0 (.int .i64 0)).setB 1 (.slice none 0 0)).setB 2 (.slice none 0 0)).setB 3 (.slice none 0 0))
      obtain ⟨j0, j1, j2, j3, _⟩ := gq4 hz2.hd
      have HKF := qd (show w.grownBy _ none from hz2.tl.hd)
      clear hz hz2
      clear hs3))
   refine bodyPost_ret_by (v := .tuple #[.agg #[.int .i64 0, .slice none 0 0, .slice none 0 0, .slice none 0 0], .bool false]) ?_ rfl (MadeR.zero HKF.out)
   simp [results, go_sem, *]
  ·have hM := tst_iff.1 hm
   have HTY := qd fun W2 (h : Sep W2 [BxA (w.heap.size + 4) #[.int .i64 0, .slice none 0 0, .slice none 0 0, .slice none 0 0] 38, BxA (w.heap.size + 3) #[.int .i64 0, .slice none 0 0, .slice none 0 0, .slice none 0 0] 38, BxA (w.heap.size + 2) #[.slice wa W.length wcp, .slice ea E.length ec] 48, BxA (w.heap.size + 1) #[.string s, .slice xa x.length xc, .slice ya y.length yc] 46, BxA w.heap.size #[.int .i64 g.n, .slice ga g.es.length gc, .slice gi g.i.length gd, .slice go_ g.o.length ge] 38, KeepA w]) => tryCx_ret (.pointer (some ⟨w.heap.size, 0, none⟩)) (.pointer (some ⟨w.heap.size + 1, 0, none⟩)) (.pointer (some ⟨w.heap.size + 2, 0, none⟩)) (.pointer (some ⟨w.heap.size + 4, 0, none⟩)) W2 _ (CxGood w (ctxK g (grT x) W E)) h (fun W3 r h3 => cx1_ret g s x y W E N rN hg hmx hkx hmy hky hM (grT_dup hmx hkx).1 hN hrN ga gi go_ xa ya wa ea gc gd ge xc yc wcp ec w he hi ho hx hy hw hE W3 r h3)
   rw [show ctxB g s x y W E = grB (ctxK g (grT x) W E) from by unfold ctxB askB; rw [hm, hrl, hg, hmo]; rfl]
   have HLN := qd (show (ctxK g (grT x) W E).es.length ≤ 2000000 ∧ (ctxK g (grT x) W E).i.length ≤ 2000000 ∧ (ctxK g (grT x) W E).o.length ≤ 2000000 from by
    have hok := ctx_ok (r := 0) hg (grT_okB hmx hkx).1 hM hN (by omega)
    have hk := glue_len (classOf (g.n.toNat + (thru (grT x) W).length) []) (ctxG g (grT x) W E g.n)
    rw [hN] at hk
    have h1 := hok.e; have h2 := hok.i; have h3 := hok.o
    unfold ctxK
    rw [hN]
    rw [show ((N + 0 : Nat) : Int) = (N : Int) from rfl] at h1 h2 h3
    omega)
   have HIG := qd fun u0 u1 u2 W1 h1 h2 h3 => isGraph_any u0 u1 u2 (ctxK g (grT x) W E) W1 h1 h2 h3 HLN.out.1 HLN.out.2.1 HLN.out.2.2
   clear hcb he hi ho hx hy l0 l1 l2 hxl hyl hs hw hE hWl hEl hg hmo hrl hmx hmy hkx hky hN hrN hm hM
   generalize ctxK g (grT x) W E = K at *
   obtain ⟨kb, hkb⟩ : ∃ b, grB K = b := ⟨_, rfl⟩
   rw [hkb] at HIG ⊢
   clear hkb
   unfold grV at HIG
   generalize g.es.length = ne at *
   generalize g.i.length = ni at *
   generalize g.o.length = no at *
   generalize x.length = lx at *
   generalize y.length = ly at *
   generalize W.length = lw at *
   generalize E.length = le at *
   generalize hgn_ : g.n = n at *
   clear hgn_
   obtain ⟨g0, g1, g2, g3, _⟩ := gq4 HS0.out.tl.tl.tl.tl.hd
   obtain ⟨y0, y1, y2⟩ := bw3 HS0.out.tl.tl.tl.hd
   obtain ⟨m0, m1, _⟩ := bw2 HS0.out.tl.tl.hd
   cases kb
   ·go_enter Tryz.func13, Tryz.ntmps13
    go_wp2_with (first
     |(go_at_call 36
       with_reducible refine (HCR.out _ HK0.out).mono ?_
       rintro e w2 ⟨rfl, hgr⟩
       have HS2 := qd (HS0.out.grown hgr)
       clear hgr g0 g1 g2 g3 y0 y1 y2 m0 m1)
     |(go_at_call 37
       with_reducible refine (HTY.out _ HS2.out).mono ?_
       rintro e w3 ⟨rfl, l9, ⟨a1, a2, a3, c1, c2, c3, l1, xs, ⟨hxe, hxl⟩, rfl⟩, hs3⟩
       have HX := qd hxe
       have HS3 := qd hs3
       obtain ⟨q0, q1, q2, q3, _⟩ := gq4 hs3.hd
       have HCG := qd (HIG.out _ _ _ w3 (by rw [← hxe]; exact OE.read hs3.tl.hd) (OwnInts.read hs3.tl.tl.hd) (OwnInts.read hs3.tl.tl.tl.hd))
       clear hs3 hxe hxl)
     |(go_at_call 42
       with_reducible refine HCG.out.mono ?_
       rintro e w4 ⟨rfl, hgr⟩
       have hs4 := HS3.out.grown hgr
       have hz := Sep.cutA (X := []) (A := [_, _, _, _]) hs4
       try simp only [List.nil_append, List.cons_append, List.append_eq] at hz
       obtain ⟨k0, k1, k2, k3, f0, f1, f2, f3⟩ := gq4 hz.hd
       have hz2 := ((((hz.setB 0 (.int .i64 0)).setB 1 (.slice none 0 0)).setB 2 (.slice none 0 0)).setB 3 (.slice none 0 0))
       obtain ⟨j0, j1, j2, j3, _⟩ := gq4 hz2.hd
       have HKF := qd (show w.grownBy _ none from hz2.tl.hd)
       clear hz hz2
       clear hs4 hgr))
    refine bodyPost_ret_by (v := .tuple #[.agg #[.int .i64 0, .slice none 0 0, .slice none 0 0, .slice none 0 0], .bool false]) ?_ rfl (MadeR.zero HKF.out)
    simp [results, go_sem, *]
   ·go_enter Tryz.func13, Tryz.ntmps13
    go_wp2_with (first
     |(go_at_call 36
       with_reducible refine (HCR.out _ HK0.out).mono ?_
       rintro e w2 ⟨rfl, hgr⟩
       have HS2 := qd (HS0.out.grown hgr)
       clear hgr g0 g1 g2 g3 y0 y1 y2 m0 m1)
     |(go_at_call 37
       with_reducible refine (HTY.out _ HS2.out).mono ?_
       rintro e w3 ⟨rfl, l9, ⟨a1, a2, a3, c1, c2, c3, l1, xs, ⟨hxe, hxl⟩, rfl⟩, hs3⟩
       have HX := qd hxe
       have HS3 := qd hs3
       obtain ⟨q0, q1, q2, q3, _⟩ := gq4 hs3.hd
       have HCG := qd (HIG.out _ _ _ w3 (by rw [← hxe]; exact OE.read hs3.tl.hd) (OwnInts.read hs3.tl.tl.hd) (OwnInts.read hs3.tl.tl.tl.hd))
       clear hs3 hxe hxl)
     |(go_at_call 42
       with_reducible refine HCG.out.mono ?_
       rintro e w4 ⟨rfl, hgr⟩
       have hs4 := HS3.out.grown hgr
       have hz := Sep.blk3 (X := []) (A := [_, _, _, _]) (B := [_]) hs4
       try simp only [List.nil_append, List.cons_append, List.append_eq] at hz
       obtain ⟨k0, k1, k2, k3, f0, f1, f2, f3⟩ := gq4 hz.hd
       obtain ⟨p0, p1, p2, p3, _⟩ := gq4 hz.tl.hd
       have hz2 := ((((hz.setB 0 (.int .i64 K.n)).setB 1 (.slice a1 l1 c1)).setB 2 (.slice a2 K.i.length c2)).setB 3 (.slice a3 K.o.length c3))
       obtain ⟨j0, j1, j2, j3, _⟩ := gq4 hz2.hd
       have HF := qd hz2.tl.tl
       clear hz hz2 hs4 hgr q0 q1 q2 q3))
    refine bodyPost_ret_by (v := .tuple #[.agg #[.int .i64 K.n, .slice a1 l1 c1, .slice a2 K.i.length c2, .slice a3 K.o.length c3], .bool true]) ?_ rfl ⟨_, xs, _, _, rfl, HX.out, HF.out⟩
    simp [results, go_sem, *]
def ORl (u : Value) (x : List Nd) (v : Value) (y : List Nd) : Asrt := Bag [OR nodeE u x, OR nodeE v y]
def OMt (u : Value) (W : List Int) (v : Value) (E : List Int) : Asrt := Bag [OI u W, OI v E]
theorem ORl_own {u : Value} {x : List Nd} {v : Value} {y : List Nd} : ∀ k, (ORl u x v y).sees k → (ORl u x v y).foot k :=
 Bag_own (by simp only [List.mem_cons, List.not_mem_nil, or_false, forall_eq_or_imp, forall_eq]; exact ⟨fun _ h => h, fun _ h => h⟩)
theorem OMt_own {u : Value} {W : List Int} {v : Value} {E : List Int} : ∀ k, (OMt u W v E).sees k → (OMt u W v E).foot k :=
 Bag_own (by simp only [List.mem_cons, List.not_mem_nil, or_false, forall_eq_or_imp, forall_eq]; exact ⟨OI_own, OI_own⟩)
structure RdRl (w : World) (x y : List Nd) (a b : Option Addr) (c d : Nat) : Prop where
 rx : RdR nodeE w (.slice a x.length c) x
 rxc : x.length ≤ c
 ry : RdR nodeE w (.slice b y.length d) y
 ryc : y.length ≤ d
structure RdMt (w : World) (W E : List Int) (a b : Option Addr) (c d : Nat) : Prop where
 rx : IntsV w (.slice a W.length c) W
 rxc : W.length ≤ c
 ry : IntsV w (.slice b E.length d) E
 ryc : E.length ≤ d
theorem ownR_cap {w : World} {a : Option Addr} {c : Nat} {x : List Nd} (h : OwnR nodeE 0 w (.slice a x.length c) x) : x.length ≤ c := by
 by_cases hz : 0 < x.length
 ·obtain ⟨g, cap, e, _, _, hc⟩ := h.parts hz
  cases e
  exact hc
 ·omega
theorem ORl.read {w : World} {x y : List Nd} {a b : Option Addr} {c d : Nat} (h : (ORl (.slice a x.length c) x (.slice b y.length d) y).holds w) : RdRl w x y a b c d := by
 have hs : Sep w [OR nodeE (.slice a x.length c) x, OR nodeE (.slice b y.length d) y] := h
 exact ⟨OwnR.read (show OwnR nodeE 0 w _ x from hs.hd), ownR_cap hs.hd, OwnR.read (show OwnR nodeE 0 w _ y from hs.tl.hd), ownR_cap hs.tl.hd⟩
theorem OMt.read {w : World} {W E : List Int} {a b : Option Addr} {c d : Nat} (h : (OMt (.slice a W.length c) W (.slice b E.length d) E).holds w) : RdMt w W E a b c d := by
 have hs : Sep w [OI (.slice a W.length c) W, OI (.slice b E.length d) E] := h
 exact ⟨OwnInts.read hs.hd, (own_room (show OwnInts 0 w _ W from hs.hd)).2, OwnInts.read hs.tl.hd, (own_room (show OwnInts 0 w _ E from hs.tl.hd)).2⟩
def totRl (s : ByteArray) (x y : List Nd) : Nat := s.size + (x.length + totN x) + (y.length + totN y)
set_option maxHeartbeats 1000000 in
theorem szRule_any (s : ByteArray) (a b : Option Addr) (n c m d : Nat) (x y : List Nd) (left : Int) (w : World) (hx : RdR argNodeE w (.slice a n c) x) (hy : RdR argNodeE w (.slice b m d) y) (hn : n = x.length) (hm : m = y.length) (h0 : 0 ≤ left) (h1 : left ≤ 1048576) (hl : n ≤ 9223372036854775807) (hl2 : m ≤ 9223372036854775807) (hox : ∀ e ∈ x, okNd e) (hoy : ∀ e ∈ y, okNd e) (hs : s.size ≤ 9223372036854775807) :
 Calls Tryz.prog 7 #[.agg #[.string s, .slice a n c, .slice b m d], .int .i64 left] w fun e w' => e = .returned (.int .i64 (lft left (totRl s x y))) ∧ w.grownBy w' none := by
 have HX := qd fun (l : Int) (h0 : 0 ≤ l) (h1 : l ≤ 1048576) W (hW : w.grownBy W none) => szTerm_any a n c x l W (hx.carry hW) hn h0 h1 hl hox
 have HY := qd fun (l : Int) (h0 : 0 ≤ l) (h1 : l ≤ 1048576) W (hW : w.grownBy W none) => szTerm_any b m d y l W (hy.carry hW) hm h0 h1 hl2 hoy
 have HS0 := qd ((Sep.start w).boxAt w.heap.size rfl #[.string s, .slice a n c, .slice b m d] 30)
 have HK0 := qd (show w.grownBy _ none from HS0.out.tl.hd)
 obtain ⟨x0, x1, x2⟩ := bw3 HS0.out.hd
 clear hx hy hn hm hox hoy
 unfold totRl
 generalize x.length + totN x = t1 at *
 generalize y.length + totN y = t2 at *
 obtain ⟨t0, ht⟩ : ∃ z, s.size = z := ⟨_, rfl⟩
 rw [ht] at hs ⊢
 have hwr := wrap_id (x := left - t0) (by omega) (by omega)
 by_cases c1 : left - (t0 : Int) < 0
 ·rw [show lft left (t0 + t1 + t2) = -1 by unfold lft; rw [if_pos (by omega)]]
  clear HX HY
  go_enter Tryz.func7, Tryz.ntmps7
  go_wp2_with fail
  go_ret
  exact ⟨rfl, HK0.out⟩
 ·obtain ⟨r1, hr1⟩ : ∃ r, left - (t0 : Int) = r := ⟨_, rfl⟩
  rw [hr1] at hwr c1
  have HX1 := qd (HX.out r1 (by omega) (by omega))
  by_cases c2 : r1 - (t1 : Int) < 0
  ·rw [show lft left (t0 + t1 + t2) = -1 by unfold lft; rw [if_pos (by omega)]]
   rw [show lft r1 t1 = -1 by unfold lft; rw [if_pos c2]] at HX1
   rw [← hr1] at HX1 c1
   clear HX HY c2 hr1 hwr
   go_enter Tryz.func7, Tryz.ntmps7
   go_wp2_with (
    go_at_call 28
    with_reducible refine (HX1.out _ HK0.out).mono ?_
    rintro e w2 ⟨rfl, hg⟩
    have HK2 := qd (grownBy_trans HK0.out hg)
    clear hg)
   go_ret
   exact ⟨rfl, HK2.out⟩
  ·obtain ⟨r2, hr2⟩ : ∃ r, r1 - (t1 : Int) = r := ⟨_, rfl⟩
   rw [show lft r1 t1 = r2 by unfold lft; rw [if_neg c2, hr2]] at HX1
   have HY1 := qd (HY.out r2 (by omega) (by omega))
   rw [show lft left (t0 + t1 + t2) = lft r2 t2 by unfold lft; rw [show left - ((t0 + t1 + t2 : Nat) : Int) = r2 - (t2 : Int) by omega]]
   have c3 : ¬ r2 < 0 := by omega
   have HL := qd (show lft r2 t2 < 0 → lft r2 t2 = -1 from by unfold lft; split <;> omega)
   generalize lft r2 t2 = r3 at *
   rw [← hr1] at HX1 c1
   clear HX HY hr1 hr2 c2 hwr
   by_cases c4 : r3 < 0
   ·have h4 := HL.out c4
    subst h4
    go_enter Tryz.func7, Tryz.ntmps7
    go_wp2_with (first
     |(go_at_call 28
       with_reducible refine (HX1.out _ HK0.out).mono ?_
       rintro e w2 ⟨rfl, hg⟩
       have HS2 := qd (HS0.out.grown hg)
       have HK2 := qd (grownBy_trans HK0.out hg)
       clear hg x0 x1 x2
       obtain ⟨x0, x1, x2⟩ := bw3 HS2.out.hd)
     |(go_at_call 28
       with_reducible refine (HY1.out _ HK2.out).mono ?_
       rintro e w3 ⟨rfl, hg⟩
       have HK3 := qd (grownBy_trans HK2.out hg)
       clear hg))
    go_ret
    exact ⟨rfl, HK3.out⟩
   ·go_enter Tryz.func7, Tryz.ntmps7
    go_wp2_with (first
     |(go_at_call 28
       with_reducible refine (HX1.out _ HK0.out).mono ?_
       rintro e w2 ⟨rfl, hg⟩
       have HS2 := qd (HS0.out.grown hg)
       have HK2 := qd (grownBy_trans HK0.out hg)
       clear hg x0 x1 x2
       obtain ⟨x0, x1, x2⟩ := bw3 HS2.out.hd)
     |(go_at_call 28
       with_reducible refine (HY1.out _ HK2.out).mono ?_
       rintro e w3 ⟨rfl, hg⟩
       have HK3 := qd (grownBy_trans HK2.out hg)
       clear hg))
    go_ret
    exact ⟨rfl, HK3.out⟩
theorem szMatch_any (a b : Option Addr) (n c m d : Nat) (left : Int) (w : World) (h0 : 0 ≤ left) (h1 : left ≤ 1048576) (hl : n ≤ 9223372036854775807) (hl2 : m ≤ 9223372036854775807) :
 Calls Tryz.prog 8 #[.agg #[.slice a n c, .slice b m d], .int .i64 left] w fun e w' => e = .returned (.int .i64 (lft left (n + m))) ∧ w.grownBy w' none := by
 have HX := qd fun (l : Int) (h0 : 0 ≤ l) (h1 : l ≤ 1048576) W => szIntS_any a n c l W h0 h1 hl
 have HY := qd fun (l : Int) (h0 : 0 ≤ l) (h1 : l ≤ 1048576) W => szIntS_any b m d l W h0 h1 hl2
 have HS0 := qd ((Sep.start w).boxAt w.heap.size rfl #[.slice a n c, .slice b m d] 32)
 have HK0 := qd (show w.grownBy _ none from HS0.out.tl.hd)
 obtain ⟨x0, x1, _⟩ := bw2 HS0.out.hd
 have HX1 := qd (HX.out left h0 h1)
 by_cases c2 : left - (n : Int) < 0
 ·rw [show lft left (n + m) = -1 by unfold lft; rw [if_pos (by omega)]]
  rw [if_pos c2] at HX1
  clear HX HY c2
  go_enter Tryz.func8, Tryz.ntmps8
  go_wp2_with (
   go_at_call 27
   with_reducible refine (HX1.out _).mono ?_
   rintro e w2 ⟨rfl, rfl⟩)
  go_ret
  exact ⟨rfl, HK0.out⟩
 ·obtain ⟨r2, hr2⟩ : ∃ r, left - (n : Int) = r := ⟨_, rfl⟩
  rw [if_neg c2, hr2] at HX1
  have HY1 := qd (HY.out r2 (by omega) (by omega))
  have HE := qd (show lft left (n + m) = (if r2 - (m : Int) < 0 then -1 else r2 - (m : Int)) from by unfold lft; rw [show left - ((n + m : Nat) : Int) = r2 - (m : Int) by omega])
  have c3 : ¬ r2 < 0 := by omega
  have HL := qd (show (if r2 - (m : Int) < 0 then -1 else r2 - (m : Int)) < 0 → (if r2 - (m : Int) < 0 then -1 else r2 - (m : Int)) = -1 from by split <;> omega)
  rw [HE.out]
  generalize (if r2 - (m : Int) < 0 then (-1 : Int) else r2 - (m : Int)) = r3 at *
  clear HX HY hr2 c2 HE
  by_cases c4 : r3 < 0
  ·have h4 := HL.out c4
   subst h4
   go_enter Tryz.func8, Tryz.ntmps8
   go_wp2_with (first
    |(go_at_call 27
      with_reducible refine (HX1.out _).mono ?_
      rintro e w2 ⟨rfl, rfl⟩
      clear HX1)
    |(go_at_call 27
      with_reducible refine (HY1.out _).mono ?_
      rintro e w3 ⟨rfl, rfl⟩
      clear HY1))
   go_ret
   exact ⟨rfl, HK0.out⟩
  ·go_enter Tryz.func8, Tryz.ntmps8
   go_wp2_with (first
    |(go_at_call 27
      with_reducible refine (HX1.out _).mono ?_
      rintro e w2 ⟨rfl, rfl⟩
      clear HX1)
    |(go_at_call 27
      with_reducible refine (HY1.out _).mono ?_
      rintro e w3 ⟨rfl, rfl⟩
      clear HY1))
   go_ret
   exact ⟨rfl, HK0.out⟩
theorem fz3 {w : World} {k : Nat} {x0 x1 x2 : Value} {t : TypeId} (h : w.heap[k]? = some (.cells #[x0, x1, x2] t (0, 0))) : w.cell? ⟨k, 0, none⟩ = some x0 ∧ w.cell? ⟨k, 1, none⟩ = some x1 ∧ w.cell? ⟨k, 2, none⟩ = some x2 ∧ w.frozen? ⟨k, 0, none⟩ = false ∧ w.frozen? ⟨k, 1, none⟩ = false ∧ w.frozen? ⟨k, 2, none⟩ = false :=
 ⟨cell_of_row w k 0 _ _ _ h, cell_of_row w k 1 _ _ _ h, cell_of_row w k 2 _ _ _ h, frozen_of_row w k 0 _ _ h, frozen_of_row w k 1 _ _ h, frozen_of_row w k 2 _ _ h⟩
theorem fz2 {w : World} {k : Nat} {x0 x1 : Value} {t : TypeId} (h : w.heap[k]? = some (.cells #[x0, x1] t (0, 0))) : w.cell? ⟨k, 0, none⟩ = some x0 ∧ w.cell? ⟨k, 1, none⟩ = some x1 ∧ w.frozen? ⟨k, 0, none⟩ = false ∧ w.frozen? ⟨k, 1, none⟩ = false :=
 ⟨cell_of_row w k 0 _ _ _ h, cell_of_row w k 1 _ _ _ h, frozen_of_row w k 0 _ _ h, frozen_of_row w k 1 _ _ h⟩
set_option maxHeartbeats 2000000 in
theorem toRule_any (s : ByteArray) (u v : Value) (x y : List Nd) (w : World) (hx : RdR argNodeE w u x) (hy : RdR argNodeE w v y) (lx : x.length ≤ 2000000) (ly : y.length ≤ 2000000) :
 Calls Tryz.prog 11 #[.agg #[.string s, u, v]] w fun e w' => ∃ a c b d, e = .returned (.agg #[.string s, .slice a x.length c, .slice b y.length d]) ∧ Sep w' [ORl (.slice a x.length c) x (.slice b y.length d) y, KeepA w] := by
 have HX := qd fun W (hW : w.grownBy W none) => toTerm_any u x W (hx.carry hW) lx
 have HY := qd fun W (hW : w.grownBy W none) => toTerm_any v y W (hy.carry hW) ly
 obtain ⟨xa, xc, rfl⟩ := hx.shape
 obtain ⟨ya, yc, rfl⟩ := hy.shape
 generalize x.length = n at *
 generalize y.length = m at *
 clear hx hy
 have HS0 := qd ((((Sep.start w).boxAt w.heap.size rfl #[.string s, .slice xa n xc, .slice ya m yc] 30).boxAt (w.heap.size + 1) (by simp) #[.string noS, .slice none 0 0, .slice none 0 0] 46).boxAt (w.heap.size + 2) (by simp) #[.string noS, .slice none 0 0, .slice none 0 0] 46)
 obtain ⟨a0, a1, a2⟩ := bw3 HS0.out.tl.tl.hd
 have HS1 := qd ((((Sep.start w).boxAt w.heap.size rfl #[.string s, .slice xa n xc, .slice ya m yc] 30).boxAt (w.heap.size + 1) (by simp) #[.string noS, .slice none 0 0, .slice none 0 0] 46).boxAt (w.heap.size + 2) (by simp) #[.string s, .slice none 0 0, .slice none 0 0] 46)
 go_enter Tryz.func11, Tryz.ntmps11
 go_upto_region 3 with fail
 clear a0 a1 a2 HS0
 generalize (((w.alloc (.cells #[.string s, .slice xa n xc, .slice ya m yc] 30)).alloc (.cells #[.string noS, .slice none 0 0, .slice none 0 0] 46)).alloc (.cells #[.string s, .slice none 0 0, .slice none 0 0] 46)) = w1 at *
 obtain ⟨a0, a1, a2⟩ := bw3 HS1.out.tl.tl.hd
 have HK1 := qd (show w.grownBy w1 none from HS1.out.tl.tl.tl.hd)
 go_upto_region 4 with (
  go_at_call 35
  with_reducible refine (HX.out _ HK1.out).mono ?_
  rintro e w2 ⟨xg, xk, rfl, hsg⟩
  have HS2 := qd (HS1.out.graft1 hsg (fun _ h => h)).s2
  obtain ⟨c0, c1, c2, f0, f1, f2⟩ := fz3 HS2.out.hd
  clear hsg a0 a1 a2)
 have HS3 := qd (HS2.out.setB 1 (.slice (some ⟨xg, 0, none⟩) n xk))
 clear c0 c1 c2 f0 f1 f2
 generalize w2.setCell ⟨w.heap.size + 2, 1, none⟩ (.slice (some ⟨xg, 0, none⟩) n xk) = w3 at *
 obtain ⟨a0, a1, a2⟩ := bw3 HS3.out.tl.tl.tl.hd
 have HK3 := qd (show w.grownBy w3 none from HS3.out.tl.tl.tl.tl.hd)
 clear HS1 HS2
 go_upto_region 5 with (
  go_at_call 35
  with_reducible refine (HY.out _ HK3.out).mono ?_
  rintro e w4 ⟨yg, yk, rfl, hsg⟩
  have HS4 := qd (HS3.out.graft1 hsg (fun _ h => h)).s2
  obtain ⟨c0, c1, c2, f0, f1, f2⟩ := fz3 HS4.out.hd
  clear hsg a0 a1 a2)
 have HS5 := qd (HS4.out.setB 2 (.slice (some ⟨yg, 0, none⟩) m yk))
 clear c0 c1 c2 f0 f1 f2
 generalize w4.setCell ⟨w.heap.size + 2, 2, none⟩ (.slice (some ⟨yg, 0, none⟩) m yk) = w5 at *
 obtain ⟨c0, c1, c2, _⟩ := fz3 HS5.out.hd
 clear HS3 HS4
 have hp1 := Sep.cutA (X := []) (A := [_]) HS5.out
 have hp2 := Sep.cutA (X := [_, _, _]) (A := [_]) hp1
 have hp3 := Sep.blk3 (X := []) (A := [_, _]) (B := [_]) hp2
 have h1 := Sep.blk3 (X := [_]) (A := [_]) (B := [_]) hp3
 try simp only [List.nil_append, List.cons_append, List.append_eq] at h1
 clear hp1 hp2 hp3
 obtain ⟨z0, z1, z2, f0, f1, f2⟩ := fz3 h1.hd
 have h2 := (((h1.setB 0 (.string s)).setB 1 (.slice (some ⟨xg, 0, none⟩) n xk)).setB 2 (.slice (some ⟨yg, 0, none⟩) m yk))
 obtain ⟨k0, k1, k2, _⟩ := fz3 h2.hd
 have HF := qd (Sep.bag (l := [_, _]) h2.tl)
 clear h1 h2
 go_wp2_with fail
 refine bodyPost_ret_by (v := .agg #[.string s, .slice (some ⟨xg, 0, none⟩) n xk, .slice (some ⟨yg, 0, none⟩) m yk]) ?_ rfl ⟨_, _, _, _, rfl, HF.out⟩
 simp [results, go_sem, *]
set_option maxHeartbeats 2000000 in
theorem toMatch_any (u v : Value) (x y : List Int) (w : World) (hx : IntsV w u x) (hy : IntsV w v y) (lx : x.length ≤ 2000000) (ly : y.length ≤ 2000000) :
 Calls Tryz.prog 12 #[.agg #[u, v]] w fun e w' => ∃ a c b d, e = .returned (.agg #[.slice a x.length c, .slice b y.length d]) ∧ Sep w' [OMt (.slice a x.length c) x (.slice b y.length d) y, KeepA w] := by
 have HX := qd fun W (hW : w.grownBy W none) => toIntS_any u x W (hx.carry hW) lx
 have HY := qd fun W (hW : w.grownBy W none) => toIntS_any v y W (hy.carry hW) ly
 obtain ⟨xa, xc, rfl⟩ := hx.shape
 obtain ⟨ya, yc, rfl⟩ := hy.shape
 generalize x.length = n at *
 generalize y.length = m at *
 clear hx hy
 have HS0 := qd ((((Sep.start w).boxAt w.heap.size rfl #[.slice xa n xc, .slice ya m yc] 32).boxAt (w.heap.size + 1) (by simp) #[.slice none 0 0, .slice none 0 0] 48).boxAt (w.heap.size + 2) (by simp) #[.slice none 0 0, .slice none 0 0] 48)
 obtain ⟨a0, a1, _⟩ := bw2 HS0.out.tl.tl.hd
 have HK0 := qd (show w.grownBy _ none from HS0.out.tl.tl.tl.hd)
 go_enter Tryz.func12, Tryz.ntmps12
 go_upto_region 3 with (
  go_at_call 34
  with_reducible refine (HX.out _ HK0.out).mono ?_
  rintro e w2 ⟨xg, xk, rfl, hsg⟩
  have HS2 := qd (HS0.out.graft1 hsg OI_own).s2
  obtain ⟨c0, c1, f0, f1⟩ := fz2 HS2.out.hd
  clear hsg a0 a1)
 have HS3 := qd (HS2.out.setB 0 (.slice (some ⟨xg, 0, none⟩) n xk))
 clear c0 c1 f0 f1
 generalize w2.setCell ⟨w.heap.size + 2, 0, none⟩ (.slice (some ⟨xg, 0, none⟩) n xk) = w3 at *
 obtain ⟨a0, a1, _⟩ := bw2 HS3.out.tl.tl.tl.hd
 have HK3 := qd (show w.grownBy w3 none from HS3.out.tl.tl.tl.tl.hd)
 clear HS0 HS2
 go_upto_region 4 with (
  go_at_call 34
  with_reducible refine (HY.out _ HK3.out).mono ?_
  rintro e w4 ⟨yg, yk, rfl, hsg⟩
  have HS4 := qd (HS3.out.graft1 hsg OI_own).s2
  obtain ⟨c0, c1, f0, f1⟩ := fz2 HS4.out.hd
  clear hsg a0 a1)
 have HS5 := qd (HS4.out.setB 1 (.slice (some ⟨yg, 0, none⟩) m yk))
 clear c0 c1 f0 f1
 generalize w4.setCell ⟨w.heap.size + 2, 1, none⟩ (.slice (some ⟨yg, 0, none⟩) m yk) = w5 at *
 obtain ⟨c0, c1, _⟩ := fz2 HS5.out.hd
 clear HS3 HS4
 have hp1 := Sep.cutA (X := []) (A := [_]) HS5.out
 have hp2 := Sep.cutA (X := [_, _, _]) (A := [_]) hp1
 have hp3 := Sep.blk3 (X := []) (A := [_, _]) (B := [_]) hp2
 have h1 := Sep.blk3 (X := [_]) (A := [_]) (B := [_]) hp3
 try simp only [List.nil_append, List.cons_append, List.append_eq] at h1
 clear hp1 hp2 hp3
 obtain ⟨z0, z1, f0, f1⟩ := fz2 h1.hd
 have h2 := ((h1.setB 0 (.slice (some ⟨xg, 0, none⟩) n xk)).setB 1 (.slice (some ⟨yg, 0, none⟩) m yk))
 obtain ⟨k0, k1, _⟩ := fz2 h2.hd
 have HF := qd (Sep.bag (l := [_, _]) h2.tl)
 clear h1 h2
 go_wp2_with fail
 refine bodyPost_ret_by (v := .agg #[.slice (some ⟨xg, 0, none⟩) n xk, .slice (some ⟨yg, 0, none⟩) m yk]) ?_ rfl ⟨_, _, _, _, rfl, HF.out⟩
 simp [results, go_sem, *]
theorem eqRule_same (s : ByteArray) (x y : List Nd) (a b a' b' : Option Addr) (c d c' d' : Nat) (w : World) (h : RdRl w x y a b c d) (h' : RdRl w x y a' b' c' d') (lx : x.length ≤ 1000000000) (ly : y.length ≤ 1000000000) :
 Calls Tryz.prog 15 #[.agg #[.string s, .slice a x.length c, .slice b y.length d], .agg #[.string s, .slice a' x.length c', .slice b' y.length d']] w fun e w' => e = .returned (.bool true) ∧ w.grownBy w' none := by
 have HX := qd fun W (hW : w.grownBy W none) => eqTerm_same _ _ x W (h.rx.carry hW) (h'.rx.carry hW) lx
 have HY := qd fun W (hW : w.grownBy W none) => eqTerm_same _ _ y W (h.ry.carry hW) (h'.ry.carry hW) ly
 clear h h'
 generalize x.length = n at *
 generalize y.length = m at *
 have HS0 := qd (((Sep.start w).boxAt w.heap.size rfl #[.string s, .slice a n c, .slice b m d] 46).boxAt (w.heap.size + 1) (by simp) #[.string s, .slice a' n c', .slice b' m d'] 46)
 have HK0 := qd (show w.grownBy _ none from HS0.out.tl.tl.hd)
 obtain ⟨x0, x1, x2⟩ := bw3 HS0.out.hd
 obtain ⟨y0, y1, y2⟩ := bw3 HS0.out.tl.hd
 have hss : (s.toList == s.toList) = true := by simp
 go_enter Tryz.func15, Tryz.ntmps15
 go_wp2_with (first
  |(go_at_call 45
    with_reducible refine (HX.out _ HK0.out).mono ?_
    rintro e w2 ⟨rfl, hg⟩
    have HS2 := qd (HS0.out.grown hg)
    have HK2 := qd (grownBy_trans HK0.out hg)
    clear hg x0 x1 x2 y0 y1 y2 HX
    obtain ⟨x0, x1, x2⟩ := bw3 HS2.out.hd
    obtain ⟨y0, y1, y2⟩ := bw3 HS2.out.tl.hd)
  |(go_at_call 45
    with_reducible refine (HY.out _ HK2.out).mono ?_
    rintro e w3 ⟨rfl, hg⟩
    have HK3 := qd (grownBy_trans HK2.out hg)
    clear hg))
 go_ret
 exact ⟨rfl, HK3.out⟩
theorem eqMatch_sameC (x y : List Int) (a b a' b' : Option Addr) (c d c' d' : Nat) (w : World) (h : RdMt w x y a b c d) (h' : RdMt w x y a' b' c' d') (lx : x.length ≤ 1000000000) (ly : y.length ≤ 1000000000) :
 Calls Tryz.prog 16 #[.agg #[.slice a x.length c, .slice b y.length d], .agg #[.slice a' x.length c', .slice b' y.length d']] w fun e w' => e = .returned (.bool true) ∧ w.grownBy w' none := by
 have HX := qd fun W (hW : w.grownBy W none) => eqIntS_any _ _ x x W (h.rx.carry hW) (h'.rx.carry hW) lx lx
 have HY := qd fun W (hW : w.grownBy W none) => eqIntS_any _ _ y y W (h.ry.carry hW) (h'.ry.carry hW) ly ly
 rw [decide_eq_true rfl] at HX HY
 clear h h'
 generalize x.length = n at *
 generalize y.length = m at *
 have HS0 := qd (((Sep.start w).boxAt w.heap.size rfl #[.slice a n c, .slice b m d] 48).boxAt (w.heap.size + 1) (by simp) #[.slice a' n c', .slice b' m d'] 48)
 have HK0 := qd (show w.grownBy _ none from HS0.out.tl.tl.hd)
 obtain ⟨x0, x1, _⟩ := bw2 HS0.out.hd
 obtain ⟨y0, y1, _⟩ := bw2 HS0.out.tl.hd
 go_enter Tryz.func16, Tryz.ntmps16
 go_wp2_with (first
  |(go_at_call 44
    with_reducible refine (HX.out _ HK0.out).mono ?_
    rintro e w2 ⟨rfl, hg⟩
    have HS2 := qd (HS0.out.grown hg)
    have HK2 := qd (grownBy_trans HK0.out hg)
    clear hg x0 x1 y0 y1 HX
    obtain ⟨x0, x1, _⟩ := bw2 HS2.out.hd
    obtain ⟨y0, y1, _⟩ := bw2 HS2.out.tl.hd)
  |(go_at_call 44
    with_reducible refine (HY.out _ HK2.out).mono ?_
    rintro e w3 ⟨rfl, hg⟩
    have HK3 := qd (grownBy_trans HK2.out hg)
    clear hg))
 go_ret
 exact ⟨rfl, HK3.out⟩
theorem markRule_any (s : ByteArray) (a b : Option Addr) (c d : Nat) (x y : List Nd) (k : Int) (w : World) (l : List Asrt) (hs : Sep w (ORl (.slice a x.length c) x (.slice b y.length d) y :: l)) (lx : x.length ≤ 1048576) (ly : y.length ≤ 1048576) (h0 : 0 ≤ k) (h1 : k ≤ 4000000) :
 Calls Tryz.prog 18 #[.agg #[.string s, .slice a x.length c, .slice b y.length d], .int .i64 k] w fun e w' => ∃ r : Int, e = .returned (.int .i64 r) ∧ (0 ≤ r ∧ r ≤ 20000000) ∧ Sep w' l := by
 have hs0 := Sep.unbag (l := [_, _]) hs
 have HX := qd fun W l (h : Sep W (OR nodeE (.slice a x.length c) x :: l)) => markTerm_any a x.length c x k W l h rfl (by omega) h0 (by omega)
 have HY := qd fun W l (h : Sep W (OR nodeE (.slice b y.length d) y :: l)) => markTerm_any b y.length d y (k + 3 * (x.length : Int)) W l h rfl (by omega) (by omega) (by omega)
 generalize hn : x.length = n at *
 generalize hm : y.length = m at *
 clear hs hn hm
 have hb := hs0.boxAt w.heap.size rfl #[.string s, .slice a n c, .slice b m d] 46
 have HS0 := qd hb.s2
 obtain ⟨x0, x1, x2⟩ := bw3 hb.hd
 clear hs0 hb
 have HB := qd (show 0 ≤ k + 3 * (n : Int) + 3 * (m : Int) ∧ k + 3 * (n : Int) + 3 * (m : Int) ≤ 20000000 from by omega)
 obtain ⟨k1, hk1⟩ : ∃ z, k + 3 * (n : Int) = z := ⟨_, rfl⟩
 rw [hk1] at HX HY HB
 clear hk1
 obtain ⟨k2, hk2⟩ : ∃ z, k1 + 3 * (m : Int) = z := ⟨_, rfl⟩
 rw [hk2] at HY HB
 clear hk2
 go_enter Tryz.func18, Tryz.ntmps18
 go_wp2_with (first
  |(go_at_call 48
    with_reducible refine (HX.out _ _ HS0.out).mono ?_
    rintro e w2 ⟨rfl, hs2⟩
    have HS2 := qd hs2.s2
    clear x0 x1 x2 HX
    obtain ⟨x0, x1, x2⟩ := bw3 hs2.hd
    clear hs2)
  |(go_at_call 48
    with_reducible refine (HY.out _ _ HS2.out).mono ?_
    rintro e w3 ⟨rfl, hs3⟩
    have HS3 := qd hs3.tl
    clear hs3))
 go_ret
 exact ⟨k2, rfl, HB.out, HS3.out⟩
theorem markMatch_anyC (a b : Option Addr) (c d : Nat) (x y : List Int) (k : Int) (w : World) (l : List Asrt) (hs : Sep w (OMt (.slice a x.length c) x (.slice b y.length d) y :: l)) (lx : x.length ≤ 1048576) (ly : y.length ≤ 1048576) (h0 : 0 ≤ k) (h1 : k ≤ 20000000) :
 Calls Tryz.prog 19 #[.agg #[.slice a x.length c, .slice b y.length d], .int .i64 k] w fun e w' => ∃ r : Int, e = .returned (.int .i64 r) ∧ (0 ≤ r ∧ r ≤ 100000000) ∧ Sep w' l := by
 have hs0 := Sep.unbag (l := [_, _]) hs
 have HX := qd fun W l (h : Sep W (OI (.slice a x.length c) x :: l)) => markIntS_any a x.length c x k W l h rfl (by omega) h0 (by omega)
 have HY := qd fun W l (h : Sep W (OI (.slice b y.length d) y :: l)) => markIntS_any b y.length d y (k + (x.length : Int)) W l h rfl (by omega) (by omega) (by omega)
 generalize hn : x.length = n at *
 generalize hm : y.length = m at *
 clear hs hn hm
 have hb := hs0.boxAt w.heap.size rfl #[.slice a n c, .slice b m d] 48
 have HS0 := qd hb.s2
 obtain ⟨x0, x1, _⟩ := bw2 hb.hd
 clear hs0 hb
 have HB := qd (show 0 ≤ k + (n : Int) + (m : Int) ∧ k + (n : Int) + (m : Int) ≤ 100000000 from by omega)
 obtain ⟨k1, hk1⟩ : ∃ z, k + (n : Int) = z := ⟨_, rfl⟩
 rw [hk1] at HX HY HB
 clear hk1
 obtain ⟨k2, hk2⟩ : ∃ z, k1 + (m : Int) = z := ⟨_, rfl⟩
 rw [hk2] at HY HB
 clear hk2
 go_enter Tryz.func19, Tryz.ntmps19
 go_wp2_with (first
  |(go_at_call 47
    with_reducible refine (HX.out _ _ HS0.out).mono ?_
    rintro e w2 ⟨rfl, hs2⟩
    have hs3 := hs2.tl
    have HS2 := qd hs3.s2
    clear x0 x1 HX
    obtain ⟨x0, x1, _⟩ := bw2 hs3.hd
    clear hs2 hs3)
  |(go_at_call 47
    with_reducible refine (HY.out _ _ HS2.out).mono ?_
    rintro e w3 ⟨rfl, hs3⟩
    have HS3 := qd hs3.tl.tl
    clear hs3))
 go_ret
 exact ⟨k2, rfl, HB.out, HS3.out⟩
end Go.Proofs.YtjagjhchnpmngaaGreat

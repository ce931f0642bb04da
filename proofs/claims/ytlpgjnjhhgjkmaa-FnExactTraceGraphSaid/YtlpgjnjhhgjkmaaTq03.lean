/-
  The trace, in the reference. Conditions: the graph is valid; k wires are there on both sides.
-/
import Derived.Test.YtlpgjnjhhgjkmaaTq02
import Derived.Test.YtlpgjnjhhgjkmaaBa07
import Derived.Test.YtlpgjnjhhgjkmaaBa06
import Derived.Test.YtlpgjnjhhgjkmaaTq01
namespace Go.Proofs.Ytlpgjnjhhgjkmaa
open Go.RowKit
set_option linter.unusedVariables false
set_option maxRecDepth 100000

theorem own_room {B : Nat} {w : World} {v : Value} {zs : List Int} (h : OwnInts B w v zs) : ∃ a c, v = .slice a zs.length c ∧ zs.length ≤ c := by
  rcases h.2 with ⟨rfl, h0⟩ | ⟨g, cap, cur, rfl, h1, h2, h3, h4, h5, h6⟩
  · exact ⟨none, 0, by rw [h0], by rw [h0]; exact Nat.le_refl _⟩
  · exact ⟨_, _, rfl, by first | exact h4 | exact h3 | (simp at h3 h4; omega)⟩
theorem ints_end {w : World} {a : Option Addr} {n c k : Nat} {zs : List Int} (h : IntsV w (.slice a n c) zs) (hc : zs.length ≤ c) (hk : k ≤ zs.length) (c' : Nat) : IntsV w (.slice (if c = k then a else a.map fun x => x.add k) (zs.length - k) c') (zs.drop k) := by
  have := ints_from (s := 1) h rfl hc hk c'
  simpa only [Nat.mul_one] using this
theorem ints_take' {w : World} {a : Option Addr} {n c c' : Nat} {zs : List Int} (h : IntsV w (.slice a n c) zs) {k : Nat} (hk : k ≤ zs.length) : IntsV w (.slice a k c') (zs.take k) := by
  obtain ⟨a', c1, he, hr⟩ := h
  injection he with e1 e2 e3
  subst e1
  refine ⟨a, c', by rw [List.length_take, Nat.min_eq_left hk], fun hz => ?_⟩
  obtain ⟨d, hd, hsp, hb, hc⟩ := hr (by intro e; rw [e] at hz; simp at hz)
  refine ⟨d, hd, hsp, hb, fun i hi => ?_⟩
  rw [List.getElem_take]
  exact hc i (by rw [List.length_take] at hi; omega)
set_option maxHeartbeats 4000000 in
theorem hgTrace_any (ev iv ov : Value) (g : Gr) (m k : Nat) (w : World) (he : RdE edgeE w ev g.es) (hi : IntsV w iv g.i) (ho : IntsV w ov g.o) (hg : grB g = true) (hm : g.n = m) (h1 : k ≤ g.i.length) (h2 : k ≤ g.o.length) :
    Calls Try.prog 31 #[grV g.n ev iv ov, .int .i64 k] w (GluedG m (tracePs g k) (traceIn g k) w) := by
  obtain ⟨m', hm', hm1, hg1, hg2, hg3, _⟩ := grB_n hg
  have HO := Lib.hid fun W (h : w.grownBy W none) => hgOwn_any ev iv ov g W (he.carry h) (hi.carry h) (ho.carry h) hg
  have HL := Lib.hid fun u ys W (hu : IntsV W u ys) (hl : ys.length ≤ 12) => l1Own_any u ys W hu (by omega)
  have HG := Lib.hid fun ev' iv' ov' av bv W (he : RdE edgeE W ev' g.es) (hi : IntsV W iv' (g.i.take (g.i.length - k))) (ho : IntsV W ov' (g.o.take (g.o.length - k))) (ha : IntsV W av (g.i.drop (g.i.length - k))) (hb : IntsV W bv (g.o.drop (g.o.length - k))) =>
    show Calls Try.prog 56 #[.agg #[.int .i64 m, ev', iv', ov'], av, bv] W (GluedG m (tracePs g k) (traceIn g k) W) from by
      have := hgGlue_any ev' iv' ov' (traceIn g k) m av bv (tracePs g k) W he hi ho (by rw [trace_fst h1 h2]; exact ha) (by rw [trace_snd h1 h2]; exact hb) (trace_ok hg hm h1 h2)
      rw [show (traceIn g k).n = m from hm] at this
      exact this
  unfold OwnG grV at HO
  unfold grV
  obtain ⟨ea, ec, rfl⟩ := he.shape
  obtain ⟨ia, ic, rfl⟩ := hi.shape
  obtain ⟨oa, oc, rfl⟩ := ho.shape
  rw [hm] at HO ⊢
  have HI2 := Lib.hid hg2; have HO2 := Lib.hid hg3; have HI1 := Lib.hid h1; have HO1 := Lib.hid h2
  clear he hi ho hg hg1 hg2 hg3 hm hm' hm1 h1 h2
  have hs0 := ((Sep.start w).box #[.int .i64 m, .slice ea g.es.length ec, .slice ia g.i.length ic, .slice oa g.o.length oc] 29).box #[.int .i64 0, .slice none 0 0, .slice none 0 0, .slice none 0 0] 29
  have e1 : (w.alloc (.cells #[.int .i64 m, .slice ea g.es.length ec, .slice ia g.i.length ic, .slice oa g.o.length oc] 29)).heap.size = w.heap.size + 1 := by simp
  rw [e1] at hs0
  obtain ⟨x0, x1, x2, x3, _⟩ := bq4 hs0.tl.hd
  have HC := Lib.hid (HO.out _ (show w.grownBy _ none from hs0.tl.tl.hd))
  have HS0 := Lib.hid hs0
  clear hs0 e1 HO
  go_enter Try.func31, Try.ntmps31
  go_upto_region 2 with (
    go_at_call 54
    with_reducible refine HC.out.mono ?_
    rintro e w3 ⟨u0, xs, u1, u2, rfl, hxs, hsg⟩
    have HXS := Lib.hid hxs
    obtain ⟨s0, r0, rfl⟩ := OE.shape hsg.hd
    obtain ⟨s1, r1, rfl, hr1⟩ := own_room hsg.tl.hd
    obtain ⟨s2, r2, rfl, hr2⟩ := own_room hsg.tl.tl.hd
    have HR := Lib.hid (And.intro hr1 hr2)
    have hs1 := (HS0.out.graft3 hsg OE_own OI_own OI_own).s5
    obtain ⟨y0, y1, y2, y3, z0, z1, z2, z3⟩ := bq4 hs1.hd
    have HS2 := Lib.hid ((((hs1.setB 0 (.int .i64 m)).setB 1 (.slice s0 xs.length r0)).setB 2 (.slice s1 g.i.length r1)).setB 3 (.slice s2 g.o.length r2))
    clear hsg hs1 hxs hr1 hr2)
  have hs2 := HS2.out
  clear HS2 HS0 HC
  generalize (((w3.setCell ⟨w.heap.size, 0, none⟩ (.int .i64 m)).setCell ⟨w.heap.size, 1, none⟩ (.slice s0 xs.length r0)).setCell ⟨w.heap.size, 2, none⟩ (.slice s1 g.i.length r1)).setCell ⟨w.heap.size, 3, none⟩ (.slice s2 g.o.length r2) = w7 at *
  clear x0 x1 x2 x3 y0 y1 y2 y3 z0 z1 z2 z3
  obtain ⟨p, hp⟩ : ∃ p, p = g.i.length - k := ⟨_, rfl⟩
  obtain ⟨q, hq⟩ : ∃ q, q = g.o.length - k := ⟨_, rfl⟩
  have hbd := And.intro HI1.out HO1.out
  have hbe := And.intro HI2.out HO2.out
  have hbr := HR.out
  have hw1 : IntKind.i64.wrap ((g.i.length : Int) - (k : Int)) = (p : Int) := by rw [wrap_id (by omega) (by omega)]; omega
  have hw2 : IntKind.i64.wrap ((g.o.length : Int) - (k : Int)) = (q : Int) := by rw [wrap_id (by omega) (by omega)]; omega
  have hw3 : wrap64 ((g.i.length : Int) - (k : Int)) = (p : Int) := by rw [wrap64_id (by omega) (by omega)]; omega
  have hw4 : wrap64 ((g.o.length : Int) - (k : Int)) = (q : Int) := by rw [wrap64_id (by omega) (by omega)]; omega
  have hpi : p ≤ g.i.length := by omega
  have hqo : q ≤ g.o.length := by omega
  have HPQ := Lib.hid (And.intro hp hq)
  rw [← hp, ← hq] at HG
  obtain ⟨k0, k1, k2, k3, _⟩ := bq4 hs2.dr.hd
  have HSD := Lib.hid hs2.dr
  have X0 := Lib.hid (And.intro k2 k3)
  clear k0 k1 k2 k3 hs2 hbd hbe hbr hp hq
  refine AnyL.start (fun w' => w'.cell? ⟨w.heap.size, 2, none⟩ = some (.slice s1 g.i.length r1) ∧ w'.cell? ⟨w.heap.size, 3, none⟩ = some (.slice s2 g.o.length r2)) (fun _ => True) 99 (by kernel_rfl) ?_
  refine AnyL.take (i := 0) (v := ?vx1) (by rfl) (by kernel_rfl) (by kernel_rfl) (by kernel_rfl) rfl (by exact fun _ _ _ h => h) (by rfl) ?hyx1 (by exact ⟨X0.out, fun _ => trivial⟩) ?restx1
  case hyx1 => intro W hSW; (try dsimp only at hSW); first | (go_simp; done) | (go_simp; with_reducible rfl)
  try simp only [Act.put, List.setIfInBounds_toArray, List.set_cons_zero, List.set_cons_succ]
  refine AnyL.take (i := 1) (v := ?vx2) (by rfl) (by kernel_rfl) (by kernel_rfl) (by kernel_rfl) rfl (by exact fun _ _ _ h => h) (by rfl) ?hyx2 (by exact ⟨X0.out, fun _ => trivial⟩) ?restx2
  case hyx2 => intro W hSW; (try dsimp only at hSW); first | (go_simp; done) | (go_simp; with_reducible rfl)
  try simp only [Act.put, List.setIfInBounds_toArray, List.set_cons_zero, List.set_cons_succ]
  refine AnyL.take (i := 2) (v := ?vx3) (by rfl) (by kernel_rfl) (by kernel_rfl) (by kernel_rfl) rfl (by exact fun _ _ _ h => h) (by rfl) ?hyx3 (by exact ⟨X0.out, fun _ => trivial⟩) ?restx3
  case hyx3 => intro W hSW; (try dsimp only at hSW); first | (go_simp; done) | (go_simp; with_reducible rfl)
  try simp only [Act.put, List.setIfInBounds_toArray, List.set_cons_zero, List.set_cons_succ]
  refine AnyL.take (i := 3) (v := ?vx4) (by rfl) (by kernel_rfl) (by kernel_rfl) (by kernel_rfl) rfl (by exact fun _ _ _ h => h) (by rfl) ?hyx4 (by exact ⟨X0.out, fun _ => trivial⟩) ?restx4
  case hyx4 => intro W hSW; (try dsimp only at hSW); first | (go_simp; done) | (go_simp; with_reducible rfl)
  try simp only [Act.put, List.setIfInBounds_toArray, List.set_cons_zero, List.set_cons_succ]
  refine AnyL.take (i := 4) (v := ?vx5) (by rfl) (by kernel_rfl) (by kernel_rfl) (by kernel_rfl) rfl (by exact fun _ _ _ h => h) (by rfl) ?hyx5 (by exact ⟨X0.out, fun _ => trivial⟩) ?restx5
  case hyx5 => intro W hSW; (try dsimp only at hSW); first | (go_simp; done) | (go_simp; with_reducible rfl)
  try simp only [Act.put, List.setIfInBounds_toArray, List.set_cons_zero, List.set_cons_succ]
  refine AnyL.take (i := 5) (v := ?vx6) (by rfl) (by kernel_rfl) (by kernel_rfl) (by kernel_rfl) rfl (by exact fun _ _ _ h => h) (by rfl) ?hyx6 (by exact ⟨X0.out, fun _ => trivial⟩) ?restx6
  case hyx6 => intro W hSW; (try dsimp only at hSW); first | (go_simp; done) | (go_simp; with_reducible rfl)
  try simp only [Act.put, List.setIfInBounds_toArray, List.set_cons_zero, List.set_cons_succ]
  refine AnyL.take (i := 6) (v := ?vx7) (by rfl) (by kernel_rfl) (by kernel_rfl) (by kernel_rfl) rfl (by exact fun _ _ _ h => h) (by rfl) ?hyx7 (by exact ⟨X0.out, fun _ => trivial⟩) ?restx7
  case hyx7 => intro W hSW; (try dsimp only at hSW); first | (go_simp; done) | (go_simp; with_reducible rfl)
  try simp only [Act.put, List.setIfInBounds_toArray, List.set_cons_zero, List.set_cons_succ]
  refine AnyL.take (i := 7) (v := ?vx8) (by rfl) (by kernel_rfl) (by kernel_rfl) (by kernel_rfl) rfl (by exact fun _ _ _ h => h) (by rfl) ?hyx8 (by exact ⟨X0.out, fun _ => trivial⟩) ?restx8
  case hyx8 => intro W hSW; (try dsimp only at hSW); first | (go_simp; done) | (go_simp; with_reducible rfl)
  try simp only [Act.put, List.setIfInBounds_toArray, List.set_cons_zero, List.set_cons_succ]
  refine AnyL.take (i := 8) (v := ?vx9) (by rfl) (by kernel_rfl) (by kernel_rfl) (by kernel_rfl) rfl (by exact fun _ _ _ h => h) (by rfl) ?hyx9 (by exact ⟨X0.out, fun _ => trivial⟩) ?restx9
  case hyx9 => intro W hSW; (try dsimp only at hSW); first | (go_simp; done) | (go_simp; with_reducible rfl)
  try simp only [Act.put, List.setIfInBounds_toArray, List.set_cons_zero, List.set_cons_succ]
  refine AnyL.take (i := 9) (v := ?vx10) (by rfl) (by kernel_rfl) (by kernel_rfl) (by kernel_rfl) rfl (by exact fun _ _ _ h => h) (by rfl) ?hyx10 (by exact ⟨X0.out, fun _ => trivial⟩) ?restx10
  case hyx10 => intro W hSW; (try dsimp only at hSW); first | (go_simp; done) | (go_simp; with_reducible rfl)
  try simp only [Act.put, List.setIfInBounds_toArray, List.set_cons_zero, List.set_cons_succ]
  refine AnyL.take (i := 10) (v := ?vx11) (by rfl) (by kernel_rfl) (by kernel_rfl) (by kernel_rfl) rfl (by exact fun _ _ _ h => h) (by rfl) ?hyx11 (by exact ⟨X0.out, fun _ => trivial⟩) ?restx11
  case hyx11 => intro W hSW; (try dsimp only at hSW); first | (go_simp; done) | (go_simp; with_reducible rfl)
  try simp only [Act.put, List.setIfInBounds_toArray, List.set_cons_zero, List.set_cons_succ]
  refine AnyL.take (i := 11) (v := ?vx12) (by rfl) (by kernel_rfl) (by kernel_rfl) (by kernel_rfl) rfl (by exact fun _ _ _ h => h) (by rfl) ?hyx12 (by exact ⟨X0.out, fun _ => trivial⟩) ?restx12
  case hyx12 => intro W hSW; (try dsimp only at hSW); first | (go_simp; done) | (go_simp; with_reducible rfl)
  try simp only [Act.put, List.setIfInBounds_toArray, List.set_cons_zero, List.set_cons_succ]
  refine AnyL.done (by kernel_rfl) ?_ _
  clear hw1 hw2 hw3 hw4 X0
  go_upto_region 3 with fail
  have hsd := HSD.out.dr
  clear HSD
  generalize w7.drew = wq at *
  have HSE := Lib.hid hsd
  have X1 := Lib.hid (show wq.drew.cell? ⟨w.heap.size, 2, none⟩ = some (.slice s1 g.i.length r1) ∧ wq.drew.cell? ⟨w.heap.size, 3, none⟩ = some (.slice s2 g.o.length r2) from ⟨(bq4 hsd.hd).2.2.1, (bq4 hsd.hd).2.2.2.1⟩)
  have HPI := Lib.hid (And.intro hpi hqo)
  have hp0 : (0 : Int) ≤ (p : Int) := by omega
  have hq0 : (0 : Int) ≤ (q : Int) := by omega
  have hp1 : (p : Int) ≤ (g.i.length : Int) := by omega
  have hq1 : (q : Int) ≤ (g.o.length : Int) := by omega
  clear hsd
  refine AnyL.start (fun w' => w'.cell? ⟨w.heap.size, 2, none⟩ = some (.slice s1 g.i.length r1) ∧ w'.cell? ⟨w.heap.size, 3, none⟩ = some (.slice s2 g.o.length r2)) (fun _ => True) 99 (by kernel_rfl) ?_
  refine AnyL.take (i := 0) (v := ?vx13) (by rfl) (by kernel_rfl) (by kernel_rfl) (by kernel_rfl) rfl (by exact fun _ _ _ h => h) (by rfl) ?hyx13 (by exact ⟨X1.out, fun _ => trivial⟩) ?restx13
  case hyx13 => intro W hSW; (try dsimp only at hSW); first | (go_simp; done) | (go_simp; with_reducible rfl)
  try simp only [Act.put, List.setIfInBounds_toArray, List.set_cons_zero, List.set_cons_succ]
  refine AnyL.take (i := 1) (v := ?vx14) (by rfl) (by kernel_rfl) (by kernel_rfl) (by kernel_rfl) rfl (by exact fun _ _ _ h => h) (by rfl) ?hyx14 (by exact ⟨X1.out, fun _ => trivial⟩) ?restx14
  case hyx14 => intro W hSW; (try dsimp only at hSW); first | (go_simp; done) | (go_simp; with_reducible rfl)
  try simp only [Act.put, List.setIfInBounds_toArray, List.set_cons_zero, List.set_cons_succ]
  refine AnyL.take (i := 2) (v := ?vx15) (by rfl) (by kernel_rfl) (by kernel_rfl) (by kernel_rfl) rfl (by exact fun _ _ _ h => h) (by rfl) ?hyx15 (by exact ⟨X1.out, fun _ => trivial⟩) ?restx15
  case hyx15 => intro W hSW; (try dsimp only at hSW); first | (go_simp; done) | (go_simp; with_reducible rfl)
  try simp only [Act.put, List.setIfInBounds_toArray, List.set_cons_zero, List.set_cons_succ]
  refine AnyL.take (i := 3) (v := ?vx16) (by rfl) (by kernel_rfl) (by kernel_rfl) (by kernel_rfl) rfl (by exact fun _ _ _ h => h) (by rfl) ?hyx16 (by exact ⟨X1.out, fun _ => trivial⟩) ?restx16
  case hyx16 => intro W hSW; (try dsimp only at hSW); first | (go_simp; done) | (go_simp; with_reducible rfl)
  try simp only [Act.put, List.setIfInBounds_toArray, List.set_cons_zero, List.set_cons_succ]
  refine AnyL.take (i := 5) (v := ?vx17) (by rfl) (by kernel_rfl) (by kernel_rfl) (by kernel_rfl) rfl (by exact fun _ _ _ h => h) (by rfl) ?hyx17 (by exact ⟨X1.out, fun _ => trivial⟩) ?restx17
  case hyx17 => intro W hSW; (try dsimp only at hSW); first | (go_simp; done) | (go_simp; with_reducible rfl)
  try simp only [Act.put, List.setIfInBounds_toArray, List.set_cons_zero, List.set_cons_succ]
  refine AnyL.take (i := 6) (v := ?vx18) (by rfl) (by kernel_rfl) (by kernel_rfl) (by kernel_rfl) rfl (by exact fun _ _ _ h => h) (by rfl) ?hyx18 (by exact ⟨X1.out, fun _ => trivial⟩) ?restx18
  case hyx18 => intro W hSW; (try dsimp only at hSW); first | (go_simp; done) | (go_simp; with_reducible rfl)
  try simp only [Act.put, List.setIfInBounds_toArray, List.set_cons_zero, List.set_cons_succ]
  refine AnyL.take (i := 7) (v := ?vx19) (by rfl) (by kernel_rfl) (by kernel_rfl) (by kernel_rfl) rfl (by exact fun _ _ _ h => h) (by rfl) ?hyx19 (by exact ⟨X1.out, fun _ => trivial⟩) ?restx19
  case hyx19 => intro W hSW; (try dsimp only at hSW); first | (go_simp; done) | (go_simp; with_reducible rfl)
  try simp only [Act.put, List.setIfInBounds_toArray, List.set_cons_zero, List.set_cons_succ]
  refine AnyL.take (i := 8) (v := ?vx20) (by rfl) (by kernel_rfl) (by kernel_rfl) (by kernel_rfl) rfl (by exact fun _ _ _ h => h) (by rfl) ?hyx20 (by exact ⟨X1.out, fun _ => trivial⟩) ?restx20
  case hyx20 => intro W hSW; (try dsimp only at hSW); first | (go_simp; done) | (go_simp; with_reducible rfl)
  try simp only [Act.put, List.setIfInBounds_toArray, List.set_cons_zero, List.set_cons_succ]
  have HA1 := Lib.hid (HL.out _ (g.i.drop p) _ (ints_end (OwnInts.read (show OwnInts 0 wq.drew (.slice s1 g.i.length r1) g.i from HSE.out.tl.tl.hd)) HR.out.1 HPI.out.1 (r1 - p)) (by rw [List.length_drop]; have := HI2.out; omega))
  refine AnyL.step (i := 4) (by kernel_rfl) (by rfl) (fun K hK => ?_)
  go_simp
  go_at_call 55
  with_reducible refine HA1.out.mono ?_
  rintro e w8 ⟨a1, d1, rfl, hsg⟩
  have HS8 := Lib.hid (HSE.out.graft1 hsg OI_own)
  have X2 := Lib.hid (And.intro (bq4 HS8.out.tl.hd).2.2.1 (bq4 HS8.out.tl.hd).2.2.2.1)
  clear hsg
  refine hK.out _ _ (by exact X2.out) (by exact fun _ => trivial) ?_
  clear hK K
  try simp only [Act.put, List.setIfInBounds_toArray, List.set_cons_zero, List.set_cons_succ]
  have HA2 := Lib.hid (HL.out _ (g.o.drop q) _ (ints_end (OwnInts.read (show OwnInts 0 w8 (.slice s2 g.o.length r2) g.o from HS8.out.tl.tl.tl.tl.hd)) HR.out.2 HPI.out.2 (r2 - q)) (by rw [List.length_drop]; have := HO2.out; omega))
  refine AnyL.step (i := 9) (by kernel_rfl) (by rfl) (fun K hK => ?_)
  go_simp
  go_at_call 55
  with_reducible refine HA2.out.mono ?_
  rintro e w9 ⟨b1, f1, rfl, hsg⟩
  have HS9 := Lib.hid (HS8.out.graft1 hsg OI_own)
  have X3 := Lib.hid (And.intro (bq4 HS9.out.tl.tl.hd).2.2.1 (bq4 HS9.out.tl.tl.hd).2.2.2.1)
  clear hsg
  refine hK.out _ _ (by exact X3.out) (by exact fun _ => trivial) ?_
  clear hK K
  try simp only [Act.put, List.setIfInBounds_toArray, List.set_cons_zero, List.set_cons_succ]
  refine AnyL.take (i := 10) (v := ?vx21) (by rfl) (by kernel_rfl) (by kernel_rfl) (by kernel_rfl) rfl (by exact fun _ _ _ h => h) (by rfl) ?hyx21 (by exact ⟨X3.out, fun _ => trivial⟩) ?restx21
  case hyx21 => intro W hSW; (try dsimp only at hSW); first | (go_simp; done) | (go_simp; with_reducible rfl)
  try simp only [Act.put, List.setIfInBounds_toArray, List.set_cons_zero, List.set_cons_succ]
  refine AnyL.take (i := 11) (v := ?vx22) (by rfl) (by kernel_rfl) (by kernel_rfl) (by kernel_rfl) rfl (by exact fun _ _ _ h => h) (by rfl) ?hyx22 (by exact ⟨X3.out, fun _ => trivial⟩) ?restx22
  case hyx22 => intro W hSW; (try dsimp only at hSW); first | (go_simp; done) | (go_simp; with_reducible rfl)
  try simp only [Act.put, List.setIfInBounds_toArray, List.set_cons_zero, List.set_cons_succ]
  refine AnyL.done (by kernel_rfl) ?_ _
  clear X1 X2 X3 HSE HS8 HA1 HA2
  generalize (if r1 = p then s1 else Option.map (fun x => x.add p) s1) = zz1 at *
  generalize (if r2 = q then s2 else Option.map (fun x => x.add q) s2) = zz2 at *
  have hpr : (p : Int) ≤ (r1 : Int) := by have := HR.out; omega
  have hqr : (q : Int) ≤ (r2 : Int) := by have := HR.out; omega
  have hs9 := HS9.out.s3
  obtain ⟨y0, y1, y2, y3, z0, z1, z2, z3⟩ := bq4 hs9.hd
  have hsa := hs9.setB 2 (.slice s1 p r1)
  go_upto_region 5 with fail
  clear y0 y1 y2 y3 z0 z1 z2 z3 hs9 HS9
  generalize w9.setCell ⟨w.heap.size, 2, none⟩ (.slice s1 p r1) = wa at *
  obtain ⟨y0, y1, y2, y3, z0, z1, z2, z3⟩ := bq4 hsa.hd
  have hsb := hsa.setB 3 (.slice s2 q r2)
  go_upto_region 6 with fail
  clear y0 y1 y2 y3 z0 z1 z2 z3 hsa
  generalize wa.setCell ⟨w.heap.size, 3, none⟩ (.slice s2 q r2) = wb at *
  obtain ⟨y0, y1, y2, y3, z0, z1, z2, z3⟩ := bq4 hsb.hd
  have HSB := Lib.hid hsb
  have he := OE.read hsb.tl.tl.tl.hd
  rw [HXS.out] at he
  have hi : IntsV wb (.slice s1 p r1) (g.i.take p) := ints_take' (OwnInts.read (show OwnInts 0 wb _ _ from hsb.tl.tl.tl.tl.hd)) hpi
  have ho : IntsV wb (.slice s2 q r2) (g.o.take q) := ints_take' (OwnInts.read (show OwnInts 0 wb _ _ from hsb.tl.tl.tl.tl.tl.hd)) hqo
  have HCG := Lib.hid (HG.out _ _ _ _ _ wb he hi ho (OwnInts.read (show OwnInts 0 wb _ _ from hsb.tl.tl.hd)) (OwnInts.read (show OwnInts 0 wb _ _ from hsb.tl.hd)))
  rw [List.length_drop, List.length_drop] at HCG
  clear hsb he hi ho
  unfold GluedG at *
  generalize glueG (classOf m (tracePs g k)) (traceIn g k) = G at *
  unfold grV at *
  go_wp2_with (
    go_at_call 56
    with_reducible refine HCG.out.mono ?_
    rintro e wc ⟨u0, xs', u1, u2, rfl, hxs, hsg⟩
    have HXF := Lib.hid hxs
    obtain ⟨t0, v0, rfl⟩ := OE.shape hsg.hd
    obtain ⟨t1, v1, rfl⟩ := own_shape hsg.tl.hd
    obtain ⟨t2, v2, rfl⟩ := own_shape hsg.tl.tl.hd
    have hs1 := (HSB.out.tl.tl.tl.tl.tl.tl.graft3 hsg OE_own OI_own OI_own).s4
    obtain ⟨k0, k1, k2, k3, k4, k5, k6, k7⟩ := bq4 hs1.hd
    have hs2 := (((hs1.setB 0 (.int .i64 G.n)).setB 1 (.slice t0 xs'.length v0)).setB 2 (.slice t1 G.i.length v1)).setB 3 (.slice t2 G.o.length v2)
    obtain ⟨l0, l1, l2, l3, _⟩ := bq4 hs2.hd
    have HSF := Lib.hid hs2.tl
    clear hsg hs1 hs2 hxs)
  refine bodyPost_ret_by (v := .agg #[.int .i64 G.n, .slice t0 xs'.length v0, .slice t1 G.i.length v1, .slice t2 G.o.length v2]) ?_ rfl ⟨_, xs', _, _, rfl, HXF.out, HSF.out⟩
  simp [results, go_sem, *]
end Go.Proofs.Ytlpgjnjhhgjkmaa

/-
  The trace, checked, in the reference. Conditions: lists are small.
-/
namespace Go.Proofs.Ytlpgjnjhhgjkmaa
open Go.RowKit
set_option linter.unusedVariables false
set_option maxRecDepth 100000

def trcB (g : Gr) (k : Int) : Bool := grB g && decide (0 ≤ k ∧ k ≤ min (g.i.length : Int) (g.o.length : Int))
def trcG (g : Gr) (k : Int) : Gr := if trcB g k = true then glueG (classOf g.n.toNat (tracePs g k.toNat)) (traceIn g k.toNat) else gr0
/-- What both functions hand back. -/
def TraceR (g : Gr) (k : Int) (w : World) (e : Ending) (w' : World) : Prop :=
  ∃ v0 xs v1 v2, e = .returned (.tuple #[grV (trcG g k).n v0 v1 v2, .bool (trcB g k)]) ∧ eds xs = (trcG g k).es ∧ Sep w' [OE v0 xs, OI v1 (trcG g k).i, OI v2 (trcG g k).o, KeepA w]
theorem Sep.nilG {w : World} {l : List Asrt} (h : Sep w l) : Sep w (OE nilS [] :: OI nilS [] :: OI nilS [] :: l) := Sep.bag (l := [OR edgeE nilS []]) (Sep.nilR edgeE h.nilI.nilI)
set_option maxHeartbeats 2000000 in
theorem sTraceGraph_any (ev iv ov : Value) (g : Gr) (k : Int) (w : World) (he : RdE edgeE w ev g.es) (hi : IntsV w iv g.i) (ho : IntsV w ov g.o) (l0 : g.es.length ≤ 2000000) (l1 : g.i.length ≤ 2000000) (l2 : g.o.length ≤ 2000000) :
    Calls Try.prog 8 #[grV g.n ev iv ov, .int .i64 k] w (TraceR g k w) := by
  have HV := Lib.hid fun W (h : w.grownBy W none) => hgValid_any ev iv ov g W (he.carry h) (hi.carry h) (ho.carry h) l0 l1 l2
  have HT := Lib.hid fun (m kk : Nat) W (h : w.grownBy W none) (hg : grB g = true) (hm : g.n = m) h1 h2 => hgTrace_any ev iv ov g m kk W (he.carry h) (hi.carry h) (ho.carry h) hg hm h1 h2
  have HLE := Lib.hid fun W => l1Least_any' (g.i.length : Int) (g.o.length : Int) W
  have HIN := Lib.hid fun W => l1In_any k 0 (min (g.i.length : Int) (g.o.length : Int)) W
  unfold TraceR
  unfold grV at *
  obtain ⟨ea, ec, rfl⟩ := he.shape
  obtain ⟨ia, ic, rfl⟩ := hi.shape
  obtain ⟨oa, oc, rfl⟩ := ho.shape
  clear he hi ho l0 l1 l2
  have hs0 := ((Sep.start w).box #[.int .i64 g.n, .slice ea g.es.length ec, .slice ia g.i.length ic, .slice oa g.o.length oc] 29).box #[.int .i64 0, .slice none 0 0, .slice none 0 0, .slice none 0 0] 29
  have e1 : (w.alloc (.cells #[.int .i64 g.n, .slice ea g.es.length ec, .slice ia g.i.length ic, .slice oa g.o.length oc] 29)).heap.size = w.heap.size + 1 := by simp
  rw [e1] at hs0
  obtain ⟨x0, x1, x2, x3, _⟩ := bq4 hs0.tl.hd
  have HC := Lib.hid (HV.out _ (show w.grownBy _ none from hs0.tl.tl.hd))
  have HS0 := Lib.hid hs0
  clear hs0 e1 HV
  by_cases hb : trcB g k = true
  · have hb' := hb
    unfold trcB at hb'
    rw [Bool.and_eq_true, decide_eq_true_iff] at hb'
    obtain ⟨hg, h0, h1⟩ := hb'
    obtain ⟨m, hm, _⟩ := grB_n hg
    obtain ⟨kk, rfl⟩ := Int.eq_ofNat_of_zero_le h0
    have HTT := Lib.hid fun W h => HT.out m kk W h hg hm (by omega) (by omega)
    have hG : trcG g (kk : Int) = glueG (classOf m (tracePs g kk)) (traceIn g kk) := by
      unfold trcG
      rw [if_pos hb, hm, Int.toNat_natCast, Int.toNat_natCast]
    rw [hb, hG]
    unfold GluedG grV at HTT
    generalize glueG (classOf m (tracePs g kk)) (traceIn g kk) = G at *
    rw [hg] at HC
    rw [decide_eq_true ⟨h0, h1⟩] at HIN
    clear hg h0 h1 hb hG HT hm
    go_enter Try.func8, Try.ntmps8
    go_wp2_with (first
      | (go_at_call 28
         with_reducible refine HC.out.mono ?_
         rintro e w3 ⟨rfl, hgr⟩
         have hs3 := HS0.out.grown hgr
         obtain ⟨y0, y1, y2, y3, _⟩ := bq4 hs3.tl.hd
         have HCT := Lib.hid (HTT.out _ (show w.grownBy w3 none from hs3.tl.tl.hd))
         have HS3 := Lib.hid hs3
         clear hgr hs3)
      | (go_at_call 30; with_reducible refine (HLE.out _).mono ?_; rintro e w4 ⟨rfl, rfl⟩)
      | (go_at_call 29; with_reducible refine (HIN.out _).mono ?_; rintro e w4 ⟨rfl, rfl⟩)
      | (go_at_call 31
         with_reducible refine HCT.out.mono ?_
         rintro e wc ⟨u0, xs', u1, u2, rfl, hxs, hsg⟩
         have HXF := Lib.hid hxs
         obtain ⟨t0, v0, rfl⟩ := OE.shape hsg.hd
         obtain ⟨t1, v1, rfl⟩ := own_shape hsg.tl.hd
         obtain ⟨t2, v2, rfl⟩ := own_shape hsg.tl.tl.hd
         have hs1 := (HS3.out.graft3 hsg OE_own OI_own OI_own).s4
         obtain ⟨k0, k1, k2, k3, k4, k5, k6, k7⟩ := bq4 hs1.hd
         have hs2 := (((hs1.setB 0 (.int .i64 G.n)).setB 1 (.slice t0 xs'.length v0)).setB 2 (.slice t1 G.i.length v1)).setB 3 (.slice t2 G.o.length v2)
         obtain ⟨l0, l1, l2, l3, _⟩ := bq4 hs2.hd
         have HSF := Lib.hid (hs2.tl.under (fun h => h.under (fun h => h.under (fun h => h.tl) (by simp +contextual)) (by simp +contextual)) (by simp +contextual))
         clear hsg hs1 hs2 hxs))
    refine bodyPost_ret_by (v := .tuple #[.agg #[.int .i64 G.n, .slice t0 xs'.length v0, .slice t1 G.i.length v1, .slice t2 G.o.length v2], .bool true]) ?_ rfl ⟨_, xs', _, _, rfl, HXF.out, HSF.out⟩
    simp [results, go_sem, *]
  · have hb' : trcB g k = false := by simpa using hb
    have hG : trcG g k = gr0 := by unfold trcG; rw [if_neg hb]
    rw [hb', hG]
    clear hb' hG HT
    cases hg : grB g
    · rw [hg] at HC
      clear hg hb
      go_enter Try.func8, Try.ntmps8
      go_wp2_with (
        go_at_call 28
        with_reducible refine HC.out.mono ?_
        rintro e w3 ⟨rfl, hgr⟩
        have hs3 := HS0.out.grown hgr
        obtain ⟨y0, y1, y2, y3, _⟩ := bq4 hs3.tl.hd
        obtain ⟨k0, k1, k2, k3, k4, k5, k6, k7⟩ := bq4 hs3.hd
        have hs2 := (((hs3.setB 0 (.int .i64 0)).setB 1 (.slice none 0 0)).setB 2 (.slice none 0 0)).setB 3 (.slice none 0 0)
        obtain ⟨l0, l1, l2, l3, _⟩ := bq4 hs2.hd
        have HSF := Lib.hid hs2.tl.tl.nilG
        clear hgr hs3 hs2)
      refine bodyPost_ret_by (v := .tuple #[.agg #[.int .i64 0, .slice none 0 0, .slice none 0 0, .slice none 0 0], .bool false]) ?_ rfl ⟨nilS, [], nilS, nilS, rfl, rfl, HSF.out⟩
      simp [results, go_sem, *]
    · rw [hg] at HC
      rw [decide_eq_false (fun h => hb (by unfold trcB; rw [hg, decide_eq_true h]; rfl))] at HIN
      clear hg hb
      go_enter Try.func8, Try.ntmps8
      go_wp2_with (first
        | (go_at_call 28
           with_reducible refine HC.out.mono ?_
           rintro e w3 ⟨rfl, hgr⟩
           have hs3 := HS0.out.grown hgr
           obtain ⟨y0, y1, y2, y3, _⟩ := bq4 hs3.tl.hd
           obtain ⟨k0, k1, k2, k3, k4, k5, k6, k7⟩ := bq4 hs3.hd
           have hs2 := (((hs3.setB 0 (.int .i64 0)).setB 1 (.slice none 0 0)).setB 2 (.slice none 0 0)).setB 3 (.slice none 0 0)
           obtain ⟨l0, l1, l2, l3, _⟩ := bq4 hs2.hd
           have HSF := Lib.hid hs2.tl.tl.nilG
           clear hgr hs3 hs2)
        | (go_at_call 30; with_reducible refine (HLE.out _).mono ?_; rintro e w4 ⟨rfl, rfl⟩)
        | (go_at_call 29; with_reducible refine (HIN.out _).mono ?_; rintro e w4 ⟨rfl, rfl⟩))
      refine bodyPost_ret_by (v := .tuple #[.agg #[.int .i64 0, .slice none 0 0, .slice none 0 0, .slice none 0 0], .bool false]) ?_ rfl ⟨nilS, [], nilS, nilS, rfl, rfl, HSF.out⟩
      simp [results, go_sem, *]
end Go.Proofs.Ytlpgjnjhhgjkmaa

/-
  The classes after all pairs (plain law). Conditions: wires are in range.
-/
namespace Go.Proofs.Ytlpgjnjhhgjkmaa
open Go.RowKit
set_option linter.unusedVariables false

theorem classOf_rep (n : Nat) (ps : List (Int × Int)) (h : ∀ p ∈ ps, (0 ≤ p.1 ∧ p.1 < (n : Int)) ∧ 0 ≤ p.2 ∧ p.2 < (n : Int)) : ∃ F, Rep n F (classOf n ps) := by
  have key : ∀ k, k ≤ ps.length → ∃ F, Rep n F (classOf n (ps.take k)) := by
    intro k
    induction k with
    | zero => exact fun _ => ⟨_, Rep.start n⟩
    | succ k ih =>
      intro hk
      obtain ⟨F, hF⟩ := ih (by omega)
      have hp := h ps[k] (List.getElem_mem (by omega))
      rw [List.take_succ_eq_append_getElem (by omega), classOf_snoc]
      exact ⟨_, hF.join hp.1.1 hp.1.2 hp.2.1 hp.2.2⟩
  have := key ps.length (Nat.le_refl _)
  rwa [List.take_of_length_le (Nat.le_refl _)] at this
theorem trace_grB {g : Gr} (hg : grB g = true) {k m : Nat} (hm : g.n = m) (h1 : k ≤ g.i.length) (h2 : k ≤ g.o.length) : grB (glueG (classOf m (tracePs g k)) (traceIn g k)) = true := by
  obtain ⟨F, hF⟩ := classOf_rep m (tracePs g k) (trace_ok hg hm h1 h2).p
  exact trace_valid hg hm h1 h2 hF.cls
end Go.Proofs.Ytlpgjnjhhgjkmaa

/-
  impl.validGraph at a valid graph. Conditions: the graph is valid.
-/
namespace Go.Proofs.Ytlpgjnjhhgjkmaa
open Go.RowKit
set_option linter.unusedVariables false
set_option maxRecDepth 100000

set_option maxHeartbeats 1000000 in
theorem validGraph_yes (ev iv ov : Value) (g : Gr) (w : World) (he : RdE edgeE w ev g.es) (hi : IntsV w iv g.i) (ho : IntsV w ov g.o) (hg : grB g = true) :
    Calls Try.prog 36 #[grV g.n ev iv ov] w fun e w' => e = .returned (.tuple #[grV g.n ev iv ov, .bool true]) ∧ w.grownBy w' none := by
  obtain ⟨m, hm, hm1, hg1, hg2, hg3, _⟩ := grB_n hg
  have HV := Lib.hid fun W (h : w.grownBy W none) => isGraph_any ev iv ov g W (he.carry h) (hi.carry h) (ho.carry h) (by omega) (by omega) (by omega)
  rw [hg] at HV
  unfold grV at *
  obtain ⟨ea, ec, rfl⟩ := he.shape
  obtain ⟨ia, ic, rfl⟩ := hi.shape
  obtain ⟨oa, oc, rfl⟩ := ho.shape
  clear he hi ho hg hm hm1 hg1 hg2 hg3
  generalize g.es.length = m0 at *
  generalize g.i.length = n1 at *
  generalize g.o.length = n2 at *
  generalize g.n = gn at *
  have hs0 := ((Sep.start w).box #[.int .i64 gn, .slice ea m0 ec, .slice ia n1 ic, .slice oa n2 oc] 29).box #[.int .i64 0, .slice none 0 0, .slice none 0 0, .slice none 0 0] 29
  have e1 : (w.alloc (.cells #[.int .i64 gn, .slice ea m0 ec, .slice ia n1 ic, .slice oa n2 oc] 29)).heap.size = w.heap.size + 1 := by simp
  rw [e1] at hs0
  obtain ⟨x0, x1, x2, x3, _⟩ := bq4 hs0.tl.hd
  have HC := Lib.hid (HV.out _ (show w.grownBy _ none from hs0.tl.tl.hd))
  have HS0 := Lib.hid hs0
  clear hs0 e1 HV
  go_enter Try.func36, Try.ntmps36
  go_wp2_with (
    go_at_call 34
    with_reducible refine HC.out.mono ?_
    rintro e w3 ⟨rfl, hgr⟩
    have hs3 := HS0.out.grown hgr
    obtain ⟨y0, y1, y2, y3, _⟩ := bq4 hs3.tl.hd
    obtain ⟨k0, k1, k2, k3, k4, k5, k6, k7⟩ := bq4 hs3.hd
    have hs2 := (((hs3.setB 0 (.int .i64 gn)).setB 1 (.slice ea m0 ec)).setB 2 (.slice ia n1 ic)).setB 3 (.slice oa n2 oc)
    obtain ⟨l0, l1, l2, l3, _⟩ := bq4 hs2.hd
    have HSF := Lib.hid (show w.grownBy _ none from hs2.tl.tl.hd)
    clear hgr hs3 hs2)
  refine bodyPost_ret_by (v := .tuple #[.agg #[.int .i64 gn, .slice ea m0 ec, .slice ia n1 ic, .slice oa n2 oc], .bool true]) ?_ rfl ⟨rfl, HSF.out⟩
  simp [results, go_sem, *]
end Go.Proofs.Ytlpgjnjhhgjkmaa

/-
  The trace, in the program. Conditions: the graph is valid; k wires are there on both sides.
-/
namespace Go.Proofs.Ytlpgjnjhhgjkmaa
open Go.RowKit
set_option linter.unusedVariables false
set_option maxRecDepth 100000

theorem info_pair : (Try.prog.info? pairE.ty).map (fun i => (i.zero, i.size, i.bytes)) = some (some (.agg #[.int .i64 0, .int .i64 0]), pairE.sz, 16) := by kernel_rfl
theorem pair_one (a c : Int) : ∀ u ∈ pairE.cs (a, c), u.oneCell' = true := by
  intro u hu
  simp only [pairE, List.mem_cons, List.not_mem_nil, or_false] at hu
  rcases hu with rfl | rfl <;> rfl
theorem trace_take {g : Gr} {k j : Nat} (h1 : k ≤ g.i.length) (h2 : k ≤ g.o.length) (hj : j < k) : (tracePs g k).take (j + 1) = (tracePs g k).take j ++ [(ofL g.i ((g.i.length - k + j : Nat) : Int), ofL g.o ((g.o.length - k + j : Nat) : Int))] := by
  have hl : j < (tracePs g k).length := by rw [trace_len h1 h2]; exact hj
  rw [List.take_succ_eq_append_getElem hl, ofL_nat, ofL_nat, List.getD_eq_getElem?_getD, List.getD_eq_getElem?_getD, List.getElem?_eq_getElem (by omega), List.getElem?_eq_getElem (by omega)]
  simp [tracePs]
set_option maxHeartbeats 4000000 in
theorem traceGraph_any (ev iv ov : Value) (g : Gr) (m k : Nat) (w : World) (he : RdE edgeE w ev g.es) (hi : IntsV w iv g.i) (ho : IntsV w ov g.o) (hg : grB g = true) (hm : g.n = m) (h1 : k ≤ g.i.length) (h2 : k ≤ g.o.length) :
    Calls Try.prog 37 #[grV g.n ev iv ov, .int .i64 k] w (GluedG m (tracePs g k) (traceIn g k) w) := by
  obtain ⟨m', hm', hm1, hg1, hg2, hg3, _⟩ := grB_n hg
  have HO := Lib.hid fun W (h : w.grownBy W none) => gcopy_any ev iv ov g W (he.carry h) (hi.carry h) (ho.carry h) hg
  have HVI := Lib.hid fun W (h : w.grownBy W none) => hi.carry h
  have HVO := Lib.hid fun W (h : w.grownBy W none) => ho.carry h
  unfold OwnG grV at HO
  unfold grV
  obtain ⟨ea, ec, rfl⟩ := he.shape
  obtain ⟨ia, ic, rfl⟩ := hi.shape
  obtain ⟨oa, oc, rfl⟩ := ho.shape
  have HOK := Lib.hid (trace_ok hg hm h1 h2)
  have HNM := Lib.hid (show (traceIn g k).n = m from hm)
  rw [hm] at HO ⊢
  have HI2 := Lib.hid hg2; have HO2 := Lib.hid hg3; have HI1 := Lib.hid h1; have HO1 := Lib.hid h2
  clear he hi ho hg hg1 hg2 hg3 hm hm' hm1 h1 h2
  have hs0 := ((Sep.start w).box #[.int .i64 m, .slice ea g.es.length ec, .slice ia g.i.length ic, .slice oa g.o.length oc] 29).box #[.int .i64 0, .slice none 0 0, .slice none 0 0, .slice none 0 0] 29
  have e1 : (w.alloc (.cells #[.int .i64 m, .slice ea g.es.length ec, .slice ia g.i.length ic, .slice oa g.o.length oc] 29)).heap.size = w.heap.size + 1 := by simp
  rw [e1] at hs0
  have HS0 := Lib.hid hs0
  clear hs0 e1
  obtain ⟨p, hp⟩ : ∃ p, p = g.i.length - k := ⟨_, rfl⟩
  obtain ⟨q, hq⟩ : ∃ q, q = g.o.length - k := ⟨_, rfl⟩
  have hbd := And.intro HI1.out HO1.out
  have hbe := And.intro HI2.out HO2.out
  have hw1 : IntKind.i64.wrap ((g.i.length : Int) - (k : Int)) = (p : Int) := by rw [wrap_id (by omega) (by omega)]; omega
  have hw2 : IntKind.i64.wrap ((g.o.length : Int) - (k : Int)) = (q : Int) := by rw [wrap_id (by omega) (by omega)]; omega
  have hw3 : wrap64 ((g.i.length : Int) - (k : Int)) = (p : Int) := by rw [wrap64_id (by omega) (by omega)]; omega
  have hw4 : wrap64 ((g.o.length : Int) - (k : Int)) = (q : Int) := by rw [wrap64_id (by omega) (by omega)]; omega
  have HPQ := Lib.hid (And.intro hp hq)
  obtain ⟨k0, k1, k2, k3, _⟩ := bq4 HS0.out.dr.tl.hd
  have X0 := Lib.hid (And.intro k2 k3)
  have HSD := Lib.hid HS0.out.dr
  clear k0 k1 k2 k3 hbd hbe hp hq
  go_enter Try.func37, Try.ntmps37
  go_upto_region 1 with fail
  refine AnyL.start (fun w' => w'.cell? ⟨w.heap.size, 2, none⟩ = some (.slice ia g.i.length ic) ∧ w'.cell? ⟨w.heap.size, 3, none⟩ = some (.slice oa g.o.length oc)) (fun _ => True) 99 (by kernel_rfl) ?_
  refine AnyL.take (i := 0) (v := ?vx1) (by rfl) (by kernel_rfl) (by kernel_rfl) (by kernel_rfl) rfl (by exact fun _ _ _ h => h) (by rfl) ?hyx1 (by exact ⟨X0.out, fun _ => trivial⟩) ?restx1
  case hyx1 => intro W hSW; (try dsimp only at hSW); first | (go_simp; done) | (go_simp; with_reducible rfl)
  try simp only [Act.put, List.setIfInBounds_toArray, List.set_cons_zero, List.set_cons_succ]
  refine AnyL.take (i := 1) (v := ?vx2) (by rfl) (by kernel_rfl) (by kernel_rfl) (by kernel_rfl) rfl (by exact fun _ _ _ h => h) (by rfl) ?hyx2 (by exact ⟨X0.out, fun _ => trivial⟩) ?restx2
  case hyx2 => intro W hSW; (try dsimp only at hSW); first | (go_simp; done) | (go_simp; with_reducible rfl)
  try simp only [Act.put, List.setIfInBounds_toArray, List.set_cons_zero, List.set_cons_succ]
  refine AnyL.take (i := 2) (v := ?vx3) (by rfl) (by kernel_rfl) (by kernel_rfl) (by kernel_rfl) rfl (by exact fun _ _ _ h => h) (by rfl) ?hyx3 (by exact ⟨X0.out, fun _ => trivial⟩) ?restx3
  case hyx3 => intro W hSW; (try dsimp only at hSW); first | (go_simp; done) | (go_simp; with_reducible rfl)
  try simp only [Act.put, List.setIfInBounds_toArray, List.set_cons_zero, List.set_cons_succ]
  refine AnyL.take (i := 3) (v := ?vx4) (by rfl) (by kernel_rfl) (by kernel_rfl) (by kernel_rfl) rfl (by exact fun _ _ _ h => h) (by rfl) ?hyx4 (by exact ⟨X0.out, fun _ => trivial⟩) ?restx4
  case hyx4 => intro W hSW; (try dsimp only at hSW); first | (go_simp; done) | (go_simp; with_reducible rfl)
  try simp only [Act.put, List.setIfInBounds_toArray, List.set_cons_zero, List.set_cons_succ]
  refine AnyL.take (i := 4) (v := ?vx5) (by rfl) (by kernel_rfl) (by kernel_rfl) (by kernel_rfl) rfl (by exact fun _ _ _ h => h) (by rfl) ?hyx5 (by exact ⟨X0.out, fun _ => trivial⟩) ?restx5
  case hyx5 => intro W hSW; (try dsimp only at hSW); first | (go_simp; done) | (go_simp; with_reducible rfl)
  try simp only [Act.put, List.setIfInBounds_toArray, List.set_cons_zero, List.set_cons_succ]
  refine AnyL.take (i := 5) (v := ?vx6) (by rfl) (by kernel_rfl) (by kernel_rfl) (by kernel_rfl) rfl (by exact fun _ _ _ h => h) (by rfl) ?hyx6 (by exact ⟨X0.out, fun _ => trivial⟩) ?restx6
  case hyx6 => intro W hSW; (try dsimp only at hSW); first | (go_simp; done) | (go_simp; with_reducible rfl)
  try simp only [Act.put, List.setIfInBounds_toArray, List.set_cons_zero, List.set_cons_succ]
  refine AnyL.take (i := 6) (v := ?vx7) (by rfl) (by kernel_rfl) (by kernel_rfl) (by kernel_rfl) rfl (by exact fun _ _ _ h => h) (by rfl) ?hyx7 (by exact ⟨X0.out, fun _ => trivial⟩) ?restx7
  case hyx7 => intro W hSW; (try dsimp only at hSW); first | (go_simp; done) | (go_simp; with_reducible rfl)
  try simp only [Act.put, List.setIfInBounds_toArray, List.set_cons_zero, List.set_cons_succ]
  refine AnyL.take (i := 7) (v := ?vx8) (by rfl) (by kernel_rfl) (by kernel_rfl) (by kernel_rfl) rfl (by exact fun _ _ _ h => h) (by rfl) ?hyx8 (by exact ⟨X0.out, fun _ => trivial⟩) ?restx8
  case hyx8 => intro W hSW; (try dsimp only at hSW); first | (go_simp; done) | (go_simp; with_reducible rfl)
  try simp only [Act.put, List.setIfInBounds_toArray, List.set_cons_zero, List.set_cons_succ]
  refine AnyL.take (i := 8) (v := ?vx9) (by rfl) (by kernel_rfl) (by kernel_rfl) (by kernel_rfl) rfl (by exact fun _ _ _ h => h) (by rfl) ?hyx9 (by exact ⟨X0.out, fun _ => trivial⟩) ?restx9
  case hyx9 => intro W hSW; (try dsimp only at hSW); first | (go_simp; done) | (go_simp; with_reducible rfl)
  try simp only [Act.put, List.setIfInBounds_toArray, List.set_cons_zero, List.set_cons_succ]
  refine AnyL.take (i := 9) (v := ?vx10) (by rfl) (by kernel_rfl) (by kernel_rfl) (by kernel_rfl) rfl (by exact fun _ _ _ h => h) (by rfl) ?hyx10 (by exact ⟨X0.out, fun _ => trivial⟩) ?restx10
  case hyx10 => intro W hSW; (try dsimp only at hSW); first | (go_simp; done) | (go_simp; with_reducible rfl)
  try simp only [Act.put, List.setIfInBounds_toArray, List.set_cons_zero, List.set_cons_succ]
  refine AnyL.take (i := 10) (v := ?vx11) (by rfl) (by kernel_rfl) (by kernel_rfl) (by kernel_rfl) rfl (by exact fun _ _ _ h => h) (by rfl) ?hyx11 (by exact ⟨X0.out, fun _ => trivial⟩) ?restx11
  case hyx11 => intro W hSW; (try dsimp only at hSW); first | (go_simp; done) | (go_simp; with_reducible rfl)
  try simp only [Act.put, List.setIfInBounds_toArray, List.set_cons_zero, List.set_cons_succ]
  refine AnyL.take (i := 11) (v := ?vx12) (by rfl) (by kernel_rfl) (by kernel_rfl) (by kernel_rfl) rfl (by exact fun _ _ _ h => h) (by rfl) ?hyx12 (by exact ⟨X0.out, fun _ => trivial⟩) ?restx12
  case hyx12 => intro W hSW; (try dsimp only at hSW); first | (go_simp; done) | (go_simp; with_reducible rfl)
  try simp only [Act.put, List.setIfInBounds_toArray, List.set_cons_zero, List.set_cons_succ]
  refine AnyL.done (by kernel_rfl) ?_ _
  clear hw1 hw2 hw3 hw4 X0
  go_wp2_with fail
  have hs1 := ((HS0.out.newR (grownBy_alloc _ (.cells #[] pairE.ty) none) (OwnR.empty pairE (Nat.le_refl _) rfl))).dr
  rw [show ((w.alloc (.cells #[.int .i64 m, .slice ea g.es.length ec, .slice ia g.i.length ic, .slice oa g.o.length oc] 29)).alloc (.cells #[.int .i64 0, .slice none 0 0, .slice none 0 0, .slice none 0 0] 29)).heap.size = w.heap.size + 1 + 1 by simp] at hs1
  have HS1 := Lib.hid hs1
  clear hs1 HS0 HSD
  go_loopw [7, 8, 22] (fun v7 _ i wr => ∃ (j : Nat) (a : Option Addr) (c : Nat), j ≤ k ∧ i = .int .i64 j ∧ v7 = .slice a j c ∧ Sep wr [OR pairE (.slice a j c) ((tracePs g k).take j), BxA (w.heap.size + 1) #[.int .i64 0, .slice none 0 0, .slice none 0 0, .slice none 0 0] 29, BxA w.heap.size #[.int .i64 m, .slice ea g.es.length ec, .slice ia g.i.length ic, .slice oa g.o.length oc] 29, KeepA w]) (fun _ _ i _ => k - (intOf i).toNat)
  case atStart => exact ⟨0, _, _, by omega, rfl, rfl, HS1.out⟩
  case round =>
    obtain ⟨j, a, c, hj, rfl, rfl, hs⟩ := hrel
    have HSX := Lib.hid hs
    clear hs HS1
    by_cases hlt : j < k
    · have hkeep : w.grownBy wr none := HSX.out.tl.tl.tl.hd
      have hpq := HPQ.out; have hb1 := HI1.out; have hb2 := HO1.out; have hb3 := HI2.out; have hb4 := HO2.out
      obtain ⟨ib, io, hie⟩ := IntsV.addr (HVI.out _ hkeep) (by omega)
      obtain ⟨ob, oo, hoe⟩ := IntsV.addr (HVO.out _ hkeep) (by omega)
      subst hie hoe
      obtain ⟨pj, hpj⟩ : ∃ pj, pj = p + j := ⟨_, rfl⟩
      obtain ⟨qj, hqj⟩ : ∃ qj, qj = q + j := ⟨_, rfl⟩
      have hpl : pj < g.i.length := by omega
      have hql : qj < g.o.length := by omega
      have hw1 : IntKind.i64.wrap ((p : Int) + (j : Int)) = (pj : Int) := by rw [wrap_id (by omega) (by omega)]; omega
      have hw2 : IntKind.i64.wrap ((q : Int) + (j : Int)) = (qj : Int) := by rw [wrap_id (by omega) (by omega)]; omega
      obtain ⟨xa, hxa⟩ : ∃ xa, xa = ofL g.i (pj : Int) := ⟨_, rfl⟩
      obtain ⟨xb, hxb⟩ : ∃ xb, xb = ofL g.o (qj : Int) := ⟨_, rfl⟩
      have SX := Lib.hid fun (W : World) (v : Value) ys (h : Sep W [OR pairE v ys, BxA (w.heap.size + 1) #[.int .i64 0, .slice none 0 0, .slice none 0 0, .slice none 0 0] 29, BxA w.heap.size #[.int .i64 m, .slice ea g.es.length ec, .slice (some ⟨ib, io, none⟩) g.i.length ic, .slice (some ⟨ob, oo, none⟩) g.o.length oc] 29, KeepA w]) =>
        show W.cell? ⟨w.heap.size, 2, none⟩ = some (.slice (some ⟨ib, io, none⟩) g.i.length ic) ∧ W.cell? ⟨w.heap.size, 3, none⟩ = some (.slice (some ⟨ob, oo, none⟩) g.o.length oc) ∧ W.cell? ⟨ib, io + pj, none⟩ = some (.int .i64 xa) ∧ W.cell? ⟨ob, oo + qj, none⟩ = some (.int .i64 xb) from
          ⟨(bq4 h.tl.tl.hd).2.2.1, (bq4 h.tl.tl.hd).2.2.2.1, by rw [hxa]; exact cell_of_ints (HVI.out _ h.tl.tl.tl.hd) hpl, by rw [hxb]; exact cell_of_ints (HVO.out _ h.tl.tl.tl.hd) hql⟩
      have htk : (tracePs g k).take (j + 1) = (tracePs g k).take j ++ [(xa, xb)] := by rw [hxa, hxb, hpj, hqj, hpq.1, hpq.2]; exact trace_take HI1.out HO1.out hlt
      have HTK := Lib.hid htk
      have HLT := Lib.hid hlt
      have hsd := HSX.out.dr
      have X0 := Lib.hid (SX.out _ _ _ hsd)
      have HSD := Lib.hid hsd
      have HLN := Lib.hid (show ((tracePs g k).take j).length = j from by rw [List.length_take, trace_len HI1.out HO1.out]; omega)
      clear htk hsd hpj hqj hxa hxb hpq hb1 hb2 hb3 hb4 hkeep
      go_upto_region 6 with fail
      refine AnyL.start (fun w' => w'.cell? ⟨w.heap.size, 2, none⟩ = some (.slice (some ⟨ib, io, none⟩) g.i.length ic) ∧ w'.cell? ⟨w.heap.size, 3, none⟩ = some (.slice (some ⟨ob, oo, none⟩) g.o.length oc) ∧ w'.cell? ⟨ib, io + pj, none⟩ = some (.int .i64 xa) ∧ w'.cell? ⟨ob, oo + qj, none⟩ = some (.int .i64 xb)) (fun _ => True) 99 (by kernel_rfl) ?_
      refine AnyL.take (i := 0) (v := ?vx13) (by rfl) (by kernel_rfl) (by kernel_rfl) (by kernel_rfl) rfl (by exact fun _ _ _ h => h) (by rfl) ?hyx13 (by exact ⟨X0.out, fun _ => trivial⟩) ?restx13
      case hyx13 => intro W hSW; (try dsimp only at hSW); first | (go_simp; done) | (go_simp; with_reducible rfl)
      try simp only [Act.put, List.setIfInBounds_toArray, List.set_cons_zero, List.set_cons_succ]
      refine AnyL.take (i := 1) (v := ?vx14) (by rfl) (by kernel_rfl) (by kernel_rfl) (by kernel_rfl) rfl (by exact fun _ _ _ h => h) (by rfl) ?hyx14 (by exact ⟨X0.out, fun _ => trivial⟩) ?restx14
      case hyx14 => intro W hSW; (try dsimp only at hSW); first | (go_simp; done) | (go_simp; with_reducible rfl)
      try simp only [Act.put, List.setIfInBounds_toArray, List.set_cons_zero, List.set_cons_succ]
      refine AnyL.take (i := 2) (v := ?vx15) (by rfl) (by kernel_rfl) (by kernel_rfl) (by kernel_rfl) rfl (by exact fun _ _ _ h => h) (by rfl) ?hyx15 (by exact ⟨X0.out, fun _ => trivial⟩) ?restx15
      case hyx15 => intro W hSW; (try dsimp only at hSW); first | (go_simp; done) | (go_simp; with_reducible rfl)
      try simp only [Act.put, List.setIfInBounds_toArray, List.set_cons_zero, List.set_cons_succ]
      refine AnyL.take (i := 3) (v := ?vx16) (by rfl) (by kernel_rfl) (by kernel_rfl) (by kernel_rfl) rfl (by exact fun _ _ _ h => h) (by rfl) ?hyx16 (by exact ⟨X0.out, fun _ => trivial⟩) ?restx16
      case hyx16 => intro W hSW; (try dsimp only at hSW); first | (go_simp; done) | (go_simp; with_reducible rfl)
      try simp only [Act.put, List.setIfInBounds_toArray, List.set_cons_zero, List.set_cons_succ]
      refine AnyL.take (i := 4) (v := ?vx17) (by rfl) (by kernel_rfl) (by kernel_rfl) (by kernel_rfl) rfl (by exact fun _ _ _ h => h) (by rfl) ?hyx17 (by exact ⟨X0.out, fun _ => trivial⟩) ?restx17
      case hyx17 => intro W hSW; (try dsimp only at hSW); first | (go_simp; done) | (go_simp; with_reducible rfl)
      try simp only [Act.put, List.setIfInBounds_toArray, List.set_cons_zero, List.set_cons_succ]
      refine AnyL.take (i := 5) (v := ?vx18) (by rfl) (by kernel_rfl) (by kernel_rfl) (by kernel_rfl) rfl (by exact fun _ _ _ h => h) (by rfl) ?hyx18 (by exact ⟨X0.out, fun _ => trivial⟩) ?restx18
      case hyx18 => intro W hSW; (try dsimp only at hSW); first | (go_simp; done) | (go_simp; with_reducible rfl)
      try simp only [Act.put, List.setIfInBounds_toArray, List.set_cons_zero, List.set_cons_succ]
      refine AnyL.take (i := 6) (v := ?vx19) (by rfl) (by kernel_rfl) (by kernel_rfl) (by kernel_rfl) rfl (by exact fun _ _ _ h => h) (by rfl) ?hyx19 (by exact ⟨X0.out, fun _ => trivial⟩) ?restx19
      case hyx19 => intro W hSW; (try dsimp only at hSW); first | (go_simp; done) | (go_simp; with_reducible rfl)
      try simp only [Act.put, List.setIfInBounds_toArray, List.set_cons_zero, List.set_cons_succ]
      refine AnyL.take (i := 7) (v := ?vx20) (by rfl) (by kernel_rfl) (by kernel_rfl) (by kernel_rfl) rfl (by exact fun _ _ _ h => h) (by rfl) ?hyx20 (by exact ⟨X0.out, fun _ => trivial⟩) ?restx20
      case hyx20 => intro W hSW; (try dsimp only at hSW); first | (go_simp; done) | (go_simp; with_reducible rfl)
      try simp only [Act.put, List.setIfInBounds_toArray, List.set_cons_zero, List.set_cons_succ]
      refine AnyL.take (i := 8) (v := ?vx21) (by rfl) (by kernel_rfl) (by kernel_rfl) (by kernel_rfl) rfl (by exact fun _ _ _ h => h) (by rfl) ?hyx21 (by exact ⟨X0.out, fun _ => trivial⟩) ?restx21
      case hyx21 => intro W hSW; (try dsimp only at hSW); first | (go_simp; done) | (go_simp; with_reducible rfl)
      try simp only [Act.put, List.setIfInBounds_toArray, List.set_cons_zero, List.set_cons_succ]
      refine AnyL.take (i := 9) (v := ?vx22) (by rfl) (by kernel_rfl) (by kernel_rfl) (by kernel_rfl) rfl (by exact fun _ _ _ h => h) (by rfl) ?hyx22 (by exact ⟨X0.out, fun _ => trivial⟩) ?restx22
      case hyx22 => intro W hSW; (try dsimp only at hSW); first | (go_simp; done) | (go_simp; with_reducible rfl)
      try simp only [Act.put, List.setIfInBounds_toArray, List.set_cons_zero, List.set_cons_succ]
      refine AnyL.take (i := 10) (v := ?vx23) (by rfl) (by kernel_rfl) (by kernel_rfl) (by kernel_rfl) rfl (by exact fun _ _ _ h => h) (by rfl) ?hyx23 (by exact ⟨X0.out, fun _ => trivial⟩) ?restx23
      case hyx23 => intro W hSW; (try dsimp only at hSW); first | (go_simp; done) | (go_simp; with_reducible rfl)
      try simp only [Act.put, List.setIfInBounds_toArray, List.set_cons_zero, List.set_cons_succ]
      refine AnyL.take (i := 11) (v := ?vx24) (by rfl) (by kernel_rfl) (by kernel_rfl) (by kernel_rfl) rfl (by exact fun _ _ _ h => h) (by rfl) ?hyx24 (by exact ⟨X0.out, fun _ => trivial⟩) ?restx24
      case hyx24 => intro W hSW; (try dsimp only at hSW); first | (go_simp; done) | (go_simp; with_reducible rfl)
      try simp only [Act.put, List.setIfInBounds_toArray, List.set_cons_zero, List.set_cons_succ]
      refine AnyL.take (i := 12) (v := ?vx25) (by rfl) (by kernel_rfl) (by kernel_rfl) (by kernel_rfl) rfl (by exact fun _ _ _ h => h) (by rfl) ?hyx25 (by exact ⟨X0.out, fun _ => trivial⟩) ?restx25
      case hyx25 => intro W hSW; (try dsimp only at hSW); first | (go_simp; done) | (go_simp; with_reducible rfl)
      try simp only [Act.put, List.setIfInBounds_toArray, List.set_cons_zero, List.set_cons_succ]
      refine AnyL.take (i := 13) (v := ?vx26) (by rfl) (by kernel_rfl) (by kernel_rfl) (by kernel_rfl) rfl (by exact fun _ _ _ h => h) (by rfl) ?hyx26 (by exact ⟨X0.out, fun _ => trivial⟩) ?restx26
      case hyx26 => intro W hSW; (try dsimp only at hSW); first | (go_simp; done) | (go_simp; with_reducible rfl)
      try simp only [Act.put, List.setIfInBounds_toArray, List.set_cons_zero, List.set_cons_succ]
      refine AnyL.take (i := 14) (v := ?vx27) (by rfl) (by kernel_rfl) (by kernel_rfl) (by kernel_rfl) rfl (by exact fun _ _ _ h => h) (by rfl) ?hyx27 (by exact ⟨X0.out, fun _ => trivial⟩) ?restx27
      case hyx27 => intro W hSW; (try dsimp only at hSW); first | (go_simp; done) | (go_simp; with_reducible rfl)
      try simp only [Act.put, List.setIfInBounds_toArray, List.set_cons_zero, List.set_cons_succ]
      refine AnyL.take (i := 15) (v := ?vx28) (by rfl) (by kernel_rfl) (by kernel_rfl) (by kernel_rfl) rfl (by exact fun _ _ _ h => h) (by rfl) ?hyx28 (by exact ⟨X0.out, fun _ => trivial⟩) ?restx28
      case hyx28 => intro W hSW; (try dsimp only at hSW); first | (go_simp; done) | (go_simp; with_reducible rfl)
      try simp only [Act.put, List.setIfInBounds_toArray, List.set_cons_zero, List.set_cons_succ]
      refine AnyL.step (i := 16) (by kernel_rfl) (by rfl) (fun K hK => ?_)
      go_simp
      refine hK.out _ _ (by exact SX.out _ _ _ (HSD.out.al _)) (by exact fun _ => trivial) ?_
      clear hK K
      try simp only [Act.put, List.setIfInBounds_toArray, List.set_cons_zero, List.set_cons_succ]
      refine AnyL.step (i := 17) (by kernel_rfl) (by rfl) (fun K hK => ?_)
      refine step_app_RG (E := pairE) (y := (xa, xb)) (v := .slice a j c) info_pair rfl (by decide) Try.underlying79 (pair_one _ _) rfl (.tmp 25) (.tmp 41) rfl rfl rfl rfl rfl HSD.out (by rw [HLN.out]; have := HI1.out; have := HI2.out; omega) ?_
      intro g1 c1 w5 h5
      rw [HLN.out] at h5
      rw [HLN.out]
      have X5 := Lib.hid (SX.out _ _ _ h5)
      have HS6 := Lib.hid h5
      clear h5
      refine hK.out _ _ (by exact X5.out) (by exact fun _ => trivial) ?_
      clear hK K
      try simp only [Act.put, List.setIfInBounds_toArray, List.set_cons_zero, List.set_cons_succ]
      refine AnyL.take (i := 18) (v := ?vx29) (by rfl) (by kernel_rfl) (by kernel_rfl) (by kernel_rfl) rfl (by exact fun _ _ _ h => h) (by rfl) ?hyx29 (by exact ⟨X5.out, fun _ => trivial⟩) ?restx29
      case hyx29 => intro W hSW; (try dsimp only at hSW); first | (go_simp; done) | (go_simp; with_reducible rfl)
      try simp only [Act.put, List.setIfInBounds_toArray, List.set_cons_zero, List.set_cons_succ]
      refine AnyL.done (by kernel_rfl) ?_ _
      have hkb : k ≤ 12 := by have := HI1.out; have := HI2.out; omega
      have hjk : j < k := HLT.out
      go_wp2_with fail
      go_roundw
      case rel => exact ⟨j + 1, _, _, by have := HLT.out; omega, by go_num, rfl, by have := HS6.out; rw [← HTK.out] at this; exact this⟩
      case measure => have := HLT.out; simp [intOf]; omega
    · have hjk : j = k := by omega
      subst hjk
      have hs := HSX.out
      rw [List.take_of_length_le (by rw [trace_len HI1.out HO1.out]; exact Nat.le_refl _)] at hs
      obtain ⟨y0, y1, y2, y3, _⟩ := bq4 hs.tl.tl.hd
      have HCT := Lib.hid (HO.out wr (show w.grownBy wr none from hs.tl.tl.tl.hd))
      have HSY := Lib.hid hs
      clear hs HSX hlt
      go_upto_region 9 with (
        go_at_call 61
        with_reducible refine HCT.out.mono ?_
        rintro e w3 ⟨u0, xs, u1, u2, rfl, hxs, hsg⟩
        have HXS := Lib.hid hxs
        obtain ⟨s0, r0, rfl⟩ := OE.shape hsg.hd
        obtain ⟨s1, r1, rfl, hr1⟩ := own_room hsg.tl.hd
        obtain ⟨s2, r2, rfl, hr2⟩ := own_room hsg.tl.tl.hd
        have HR := Lib.hid (And.intro hr1 hr2)
        have HS2 := Lib.hid ((HSY.out.graft3 hsg OE_own OI_own OI_own).box #[.int .i64 m, .slice s0 xs.length r0, .slice s1 g.i.length r1, .slice s2 g.o.length r2] 29)
        clear hsg hxs hr1 hr2)
      have hs2 := HS2.out
      clear HS2 HSY HCT y0 y1 y2 y3
      generalize w3.alloc (.cells #[.int .i64 m, .slice s0 xs.length r0, .slice s1 g.i.length r1, .slice s2 g.o.length r2] 29) = w7 at *
      obtain ⟨a0, a1, a2, a3, b0, b1, b2, b3⟩ := bq4 hs2.hd
      have hsd := hs2.dr
      obtain ⟨y0, y1, y2, y3, z0, z1, z2, z3⟩ := bq4 hsd.hd
      have X0 := Lib.hid (And.intro y2 y3)
      have hse := hsd.setB 2 (.slice s1 p p)
      obtain ⟨k0, k1, k2, k3, l0, l1, l2, l3⟩ := bq4 hse.hd
      have HSE := Lib.hid ((hs2.setB 2 (.slice s1 p p)).setB 3 (.slice s2 q q)).dr
      have hbr := HR.out
      have hpq := HPQ.out; have hb1 := HI1.out; have hb2 := HO1.out
      have hp0 : (0 : Int) ≤ (p : Int) := by omega
      have hq0 : (0 : Int) ≤ (q : Int) := by omega
      have hp1 : (p : Int) ≤ (r1 : Int) := by omega
      have hq1 : (q : Int) ≤ (r2 : Int) := by omega
      clear hs2 hsd hse hbr hpq hb1 hb2
      refine AnyL.start (fun _ => True) (fun w' => w'.cell? ⟨w3.heap.size, 2, none⟩ = some (.slice s1 g.i.length r1) ∧ w'.cell? ⟨w3.heap.size, 3, none⟩ = some (.slice s2 g.o.length r2)) 11 (by kernel_rfl) ?_
      refine AnyL.take (i := 0) (v := ?vx30) (by rfl) (by kernel_rfl) (by kernel_rfl) (by kernel_rfl) rfl (by exact fun _ _ _ h => h) (by rfl) ?hyx30 (by exact ⟨trivial, fun _ => X0.out⟩) ?restx30
      case hyx30 => intro W hSW; (try dsimp only at hSW); first | (go_simp; done) | (go_simp; with_reducible rfl)
      try simp only [Act.put, List.setIfInBounds_toArray, List.set_cons_zero, List.set_cons_succ]
      refine AnyL.takeA (i := 1) (v := ?vx31) (by rfl) (by kernel_rfl) (by kernel_rfl) (by kernel_rfl) rfl (by rfl) (by kernel_rfl) (by kernel_rfl) (by exact fun _ _ _ h => h) (by rfl) ?hyx31 (by exact ⟨trivial, fun _ => X0.out⟩) ?restx31
      case hyx31 => intro W hSW; (try dsimp only at hSW); first | (go_simp; done) | (go_simp; with_reducible rfl)
      try simp only [Act.put, List.setIfInBounds_toArray, List.set_cons_zero, List.set_cons_succ]
      refine AnyL.take (i := 2) (v := ?vx32) (by rfl) (by kernel_rfl) (by kernel_rfl) (by kernel_rfl) rfl (by exact fun _ _ _ h => h) (by rfl) ?hyx32 (by exact ⟨trivial, fun _ => X0.out⟩) ?restx32
      case hyx32 => intro W hSW; (try dsimp only at hSW); first | (go_simp; done) | (go_simp; with_reducible rfl)
      try simp only [Act.put, List.setIfInBounds_toArray, List.set_cons_zero, List.set_cons_succ]
      refine AnyL.take (i := 3) (v := ?vx33) (by rfl) (by kernel_rfl) (by kernel_rfl) (by kernel_rfl) rfl (by exact fun _ _ _ h => h) (by rfl) ?hyx33 (by exact ⟨trivial, fun _ => X0.out⟩) ?restx33
      case hyx33 => intro W hSW; (try dsimp only at hSW); first | (go_simp; done) | (go_simp; with_reducible rfl)
      try simp only [Act.put, List.setIfInBounds_toArray, List.set_cons_zero, List.set_cons_succ]
      refine AnyL.take (i := 4) (v := ?vx34) (by rfl) (by kernel_rfl) (by kernel_rfl) (by kernel_rfl) rfl (by exact fun _ _ _ h => h) (by rfl) ?hyx34 (by exact ⟨trivial, fun _ => X0.out⟩) ?restx34
      case hyx34 => intro W hSW; (try dsimp only at hSW); first | (go_simp; done) | (go_simp; with_reducible rfl)
      try simp only [Act.put, List.setIfInBounds_toArray, List.set_cons_zero, List.set_cons_succ]
      refine AnyL.take (i := 5) (v := ?vx35) (by rfl) (by kernel_rfl) (by kernel_rfl) (by kernel_rfl) rfl (by exact fun _ _ _ h => h) (by rfl) ?hyx35 (by exact ⟨trivial, fun _ => X0.out⟩) ?restx35
      case hyx35 => intro W hSW; (try dsimp only at hSW); first | (go_simp; done) | (go_simp; with_reducible rfl)
      try simp only [Act.put, List.setIfInBounds_toArray, List.set_cons_zero, List.set_cons_succ]
      refine AnyL.takeA (i := 6) (v := ?vx36) (by rfl) (by kernel_rfl) (by kernel_rfl) (by kernel_rfl) rfl (by rfl) (by kernel_rfl) (by kernel_rfl) (by exact fun _ _ _ h => h) (by rfl) ?hyx36 (by exact ⟨trivial, fun _ => X0.out⟩) ?restx36
      case hyx36 => intro W hSW; (try dsimp only at hSW); first | (go_simp; done) | (go_simp; with_reducible rfl)
      try simp only [Act.put, List.setIfInBounds_toArray, List.set_cons_zero, List.set_cons_succ]
      refine AnyL.take (i := 7) (v := ?vx37) (by rfl) (by kernel_rfl) (by kernel_rfl) (by kernel_rfl) rfl (by exact fun _ _ _ h => h) (by rfl) ?hyx37 (by exact ⟨trivial, fun _ => X0.out⟩) ?restx37
      case hyx37 => intro W hSW; (try dsimp only at hSW); first | (go_simp; done) | (go_simp; with_reducible rfl)
      try simp only [Act.put, List.setIfInBounds_toArray, List.set_cons_zero, List.set_cons_succ]
      refine AnyL.take (i := 8) (v := ?vx38) (by rfl) (by kernel_rfl) (by kernel_rfl) (by kernel_rfl) rfl (by exact fun _ _ _ h => h) (by rfl) ?hyx38 (by exact ⟨trivial, fun _ => X0.out⟩) ?restx38
      case hyx38 => intro W hSW; (try dsimp only at hSW); first | (go_simp; done) | (go_simp; with_reducible rfl)
      try simp only [Act.put, List.setIfInBounds_toArray, List.set_cons_zero, List.set_cons_succ]
      refine AnyL.take (i := 9) (v := ?vx39) (by rfl) (by kernel_rfl) (by kernel_rfl) (by kernel_rfl) rfl (by exact fun _ _ _ h => h) (by rfl) ?hyx39 (by exact ⟨trivial, fun _ => X0.out⟩) ?restx39
      case hyx39 => intro W hSW; (try dsimp only at hSW); first | (go_simp; done) | (go_simp; with_reducible rfl)
      try simp only [Act.put, List.setIfInBounds_toArray, List.set_cons_zero, List.set_cons_succ]
      refine AnyL.take (i := 10) (v := ?vx40) (by rfl) (by kernel_rfl) (by kernel_rfl) (by kernel_rfl) rfl (by exact fun _ _ _ h => h) (by rfl) ?hyx40 (by exact ⟨trivial, fun _ => X0.out⟩) ?restx40
      case hyx40 => intro W hSW; (try dsimp only at hSW); first | (go_simp; done) | (go_simp; with_reducible rfl)
      try simp only [Act.put, List.setIfInBounds_toArray, List.set_cons_zero, List.set_cons_succ]
      refine AnyL.step (i := 11) (by kernel_rfl) (by rfl) (fun K hK => ?_)
      go_simp
      refine hK.out _ _ (by exact trivial) (by exact fun h => noTF (by kernel_rfl) h) ?_
      clear hK K
      try simp only [Act.put, List.setIfInBounds_toArray, List.set_cons_zero, List.set_cons_succ]
      refine AnyL.take (i := 12) (v := ?vx41) (by rfl) (by kernel_rfl) (by kernel_rfl) (by kernel_rfl) rfl (by exact fun _ _ _ h => h) (by rfl) ?hyx41 (by exact ⟨trivial, fun h => noTF (by kernel_rfl) h⟩) ?restx41
      case hyx41 => intro W hSW; (try dsimp only at hSW); first | (go_simp; done) | (go_simp; with_reducible rfl)
      try simp only [Act.put, List.setIfInBounds_toArray, List.set_cons_zero, List.set_cons_succ]
      refine AnyL.step (i := 13) (by kernel_rfl) (by rfl) (fun K hK => ?_)
      go_simp
      refine hK.out _ _ (by exact trivial) (by exact fun h => noTF (by kernel_rfl) h) ?_
      clear hK K
      try simp only [Act.put, List.setIfInBounds_toArray, List.set_cons_zero, List.set_cons_succ]
      refine AnyL.done (by kernel_rfl) ?_ _
      have hs9 := HSE.out
      generalize ((w7.setCell ⟨w3.heap.size, 2, none⟩ (.slice s1 p p)).setCell ⟨w3.heap.size, 3, none⟩ (.slice s2 q q)).drew = w9 at *
      clear HSE y0 y1 y2 y3 z0 z1 z2 z3 k0 k1 k2 k3 l0 l1 l2 l3 a0 a1 a2 a3 b0 b1 b2 b3 X0
      obtain ⟨y0, y1, y2, y3, _⟩ := bq4 hs9.hd
      have he9 := OE.read hs9.tl.hd
      rw [HXS.out] at he9
      have hpk : p = g.i.length - j := HPQ.out.1
      have hqk : q = g.o.length - j := HPQ.out.2
      have hi9 : IntsV w9 (.slice s1 p p) (traceIn g j).i := by
        show IntsV w9 (.slice s1 p p) (g.i.take (g.i.length - j))
        rw [← hpk]
        exact ints_take' (OwnInts.read (show OwnInts 0 w9 _ _ from hs9.tl.tl.hd)) (by omega)
      have ho9 : IntsV w9 (.slice s2 q q) (traceIn g j).o := by
        show IntsV w9 (.slice s2 q q) (g.o.take (g.o.length - j))
        rw [← hqk]
        exact ints_take' (OwnInts.read (show OwnInts 0 w9 _ _ from hs9.tl.tl.tl.hd)) (by omega)
      have hgl := glue_any _ _ _ (traceIn g j) m _ (tracePs g j) w9 he9 hi9 ho9 (OwnR.read hs9.tl.tl.tl.tl.hd) HNM.out HOK.out.m1 HOK.out.e HOK.out.i HOK.out.o HOK.out.le HOK.out.w HOK.out.p HOK.out.l
      rw [show (traceIn g j).n = m from HNM.out] at hgl
      have HCG := Lib.hid hgl
      have HSB := Lib.hid hs9
      clear hs9 he9 hi9 ho9 hgl hpk hqk
      unfold GluedG at *
      generalize glueG (classOf m (tracePs g j)) (traceIn g j) = G at *
      unfold grV at *
      have hfd : ∀ (a b c d e : Value) (W : World), (Instr.field 83 (.agg #[a, b, c, d, e]) 0).run Try.prog W = .ok (.agg #[a, b, c, d]) W := fun _ _ _ _ _ _ => by kernel_rfl
      go_wp2_with (
        go_at_call 62
        with_reducible refine HCG.out.mono ?_
        rintro e wc ⟨u0, xs', u1, u2, t, rfl, hxs, hsg⟩
        have HXF := Lib.hid hxs
        obtain ⟨t0, v0, rfl⟩ := OE.shape hsg.hd
        obtain ⟨t1, v1, rfl⟩ := own_shape hsg.tl.hd
        obtain ⟨t2, v2, rfl⟩ := own_shape hsg.tl.tl.hd
        have hs1 := (HSB.out.tl.tl.tl.tl.tl.graft3 hsg OE_own OI_own OI_own).s4
        obtain ⟨k0, k1, k2, k3, k4, k5, k6, k7⟩ := bq4 hs1.hd
        have hs2 := (((hs1.setB 0 (.int .i64 G.n)).setB 1 (.slice t0 xs'.length v0)).setB 2 (.slice t1 G.i.length v1)).setB 3 (.slice t2 G.o.length v2)
        obtain ⟨l0, l1, l2, l3, _⟩ := bq4 hs2.hd
        have HSF := Lib.hid (hs2.tl.under (fun h => h.under (fun h => h.under (fun h => h.tl) (by simp +contextual)) (by simp +contextual)) (by simp +contextual))
        clear hsg hs1 hs2 hxs)
      refine bodyPost_ret_by (v := .agg #[.int .i64 G.n, .slice t0 xs'.length v0, .slice t1 G.i.length v1, .slice t2 G.o.length v2]) ?_ rfl ⟨_, xs', _, _, rfl, HXF.out, HSF.out⟩
      simp [results, go_sem, *]
end Go.Proofs.Ytlpgjnjhhgjkmaa

/-
  The trace, checked, in the program. Conditions: lists are small.
-/
namespace Go.Proofs.Ytlpgjnjhhgjkmaa
open Go.RowKit
set_option linter.unusedVariables false
set_option maxRecDepth 100000

set_option maxHeartbeats 2000000 in
theorem iTraceGraph_any (ev iv ov : Value) (g : Gr) (k : Int) (w : World) (he : RdE edgeE w ev g.es) (hi : IntsV w iv g.i) (ho : IntsV w ov g.o) (l0 : g.es.length ≤ 2000000) (l1 : g.i.length ≤ 2000000) (l2 : g.o.length ≤ 2000000) :
    Calls Try.prog 10 #[grV g.n ev iv ov, .int .i64 k] w (TraceR g k w) := by
  have HV := Lib.hid fun W (h : w.grownBy W none) => isGraph_any ev iv ov g W (he.carry h) (hi.carry h) (ho.carry h) l0 l1 l2
  have HT := Lib.hid fun (m kk : Nat) W (h : w.grownBy W none) (hg : grB g = true) (hm : g.n = m) h1 h2 => traceGraph_any ev iv ov g m kk W (he.carry h) (hi.carry h) (ho.carry h) hg hm h1 h2
  have HIN := Lib.hid fun (x : Int) (h : x = min (g.i.length : Int) (g.o.length : Int)) W => show Calls Try.prog 35 #[.int .i64 k, .int .i64 0, .int .i64 x] W fun e w' => e = .returned (.bool (decide (0 ≤ k ∧ k ≤ min (g.i.length : Int) (g.o.length : Int)))) ∧ W = w' from by
    rw [h]; exact within_any k 0 (min (g.i.length : Int) (g.o.length : Int)) W
  unfold TraceR
  unfold grV at *
  obtain ⟨ea, ec, rfl⟩ := he.shape
  obtain ⟨ia, ic, rfl⟩ := hi.shape
  obtain ⟨oa, oc, rfl⟩ := ho.shape
  clear he hi ho l0 l1 l2
  have hs0 := ((Sep.start w).box #[.int .i64 g.n, .slice ea g.es.length ec, .slice ia g.i.length ic, .slice oa g.o.length oc] 29).box #[.int .i64 0, .slice none 0 0, .slice none 0 0, .slice none 0 0] 29
  have e1 : (w.alloc (.cells #[.int .i64 g.n, .slice ea g.es.length ec, .slice ia g.i.length ic, .slice oa g.o.length oc] 29)).heap.size = w.heap.size + 1 := by simp
  rw [e1] at hs0
  obtain ⟨x0, x1, x2, x3, _⟩ := bq4 hs0.tl.hd
  have HC := Lib.hid (HV.out _ (show w.grownBy _ none from hs0.tl.tl.hd))
  have HS0 := Lib.hid hs0
  clear hs0 e1 HV
  by_cases hb : trcB g k = true
  · have hb' := hb
    unfold trcB at hb'
    rw [Bool.and_eq_true, decide_eq_true_iff] at hb'
    obtain ⟨hg, h0, h1⟩ := hb'
    obtain ⟨m, hm, _⟩ := grB_n hg
    obtain ⟨kk, rfl⟩ := Int.eq_ofNat_of_zero_le h0
    have HTT := Lib.hid fun W h => HT.out m kk W h hg hm (by omega) (by omega)
    have hG : trcG g (kk : Int) = glueG (classOf m (tracePs g kk)) (traceIn g kk) := by
      unfold trcG
      rw [if_pos hb, hm, Int.toNat_natCast, Int.toNat_natCast]
    rw [hb, hG]
    unfold GluedG grV at HTT
    have HGB := Lib.hid (trace_grB hg hm (k := kk) (by omega) (by omega))
    generalize glueG (classOf m (tracePs g kk)) (traceIn g kk) = G at *
    rw [hg] at HC
    rw [decide_eq_true ⟨h0, h1⟩] at HIN
    clear hg h0 h1 hb hG HT hm
    go_enter Try.func10, Try.ntmps10
    go_wp2_with (first
      | (go_at_call 34
         with_reducible refine HC.out.mono ?_
         rintro e w3 ⟨rfl, hgr⟩
         have hs3 := HS0.out.grown hgr
         obtain ⟨y0, y1, y2, y3, _⟩ := bq4 hs3.tl.hd
         have HCT := Lib.hid (HTT.out _ (show w.grownBy w3 none from hs3.tl.tl.hd))
         have HS3 := Lib.hid hs3
         clear hgr hs3)
      | (go_at_call 35; have hq := HIN.out (g.o.length : Int) (by omega); with_reducible refine (hq _).mono ?_; rintro e w4 ⟨rfl, rfl⟩)
      | (go_at_call 35; have hq := HIN.out (g.i.length : Int) (by omega); with_reducible refine (hq _).mono ?_; rintro e w4 ⟨rfl, rfl⟩)
      | (go_at_call 37
         with_reducible refine HCT.out.mono ?_
         rintro e wc ⟨u0, xs', u1, u2, rfl, hxs, hsg⟩
         have HXF := Lib.hid hxs
         obtain ⟨t0, v0, rfl⟩ := OE.shape hsg.hd
         obtain ⟨t1, v1, rfl⟩ := own_shape hsg.tl.hd
         obtain ⟨t2, v2, rfl⟩ := own_shape hsg.tl.tl.hd
         have hre := OE.read hsg.hd
         rw [hxs] at hre
         have HVY := Lib.hid (validGraph_yes _ _ _ G wc hre (OwnInts.read (show OwnInts 0 wc _ _ from hsg.tl.hd)) (OwnInts.read (show OwnInts 0 wc _ _ from hsg.tl.tl.hd)) HGB.out)
         have HSG := Lib.hid (HS3.out.graft3 hsg OE_own OI_own OI_own)
         unfold grV at HVY
         clear hsg hre hxs)
      | (go_at_call 36
         with_reducible refine HVY.out.mono ?_
         rintro e wd ⟨rfl, hgd⟩
         have hs1 := (HSG.out.grown hgd).s4
         obtain ⟨k0, k1, k2, k3, k4, k5, k6, k7⟩ := bq4 hs1.hd
         have hs2 := (((hs1.setB 0 (.int .i64 G.n)).setB 1 (.slice t0 xs'.length v0)).setB 2 (.slice t1 G.i.length v1)).setB 3 (.slice t2 G.o.length v2)
         obtain ⟨l0, l1, l2, l3, _⟩ := bq4 hs2.hd
         have HSF := Lib.hid (hs2.tl.under (fun h => h.under (fun h => h.under (fun h => h.tl) (by simp +contextual)) (by simp +contextual)) (by simp +contextual))
         clear hgd hs1 hs2))
    all_goals (
      refine bodyPost_ret_by (v := .tuple #[.agg #[.int .i64 G.n, .slice t0 xs'.length v0, .slice t1 G.i.length v1, .slice t2 G.o.length v2], .bool true]) ?_ rfl ⟨_, xs', _, _, rfl, HXF.out, HSF.out⟩
      simp [results, go_sem, *])
  · have hb' : trcB g k = false := by simpa using hb
    have hG : trcG g k = gr0 := by unfold trcG; rw [if_neg hb]
    rw [hb', hG]
    clear hb' hG HT
    cases hg : grB g
    · rw [hg] at HC
      clear hg hb
      go_enter Try.func10, Try.ntmps10
      go_wp2_with (
        go_at_call 34
        with_reducible refine HC.out.mono ?_
        rintro e w3 ⟨rfl, hgr⟩
        have hs3 := HS0.out.grown hgr
        obtain ⟨y0, y1, y2, y3, _⟩ := bq4 hs3.tl.hd
        obtain ⟨k0, k1, k2, k3, k4, k5, k6, k7⟩ := bq4 hs3.hd
        have hs2 := (((hs3.setB 0 (.int .i64 0)).setB 1 (.slice none 0 0)).setB 2 (.slice none 0 0)).setB 3 (.slice none 0 0)
        obtain ⟨l0, l1, l2, l3, _⟩ := bq4 hs2.hd
        have HSF := Lib.hid hs2.tl.tl.nilG
        clear hgr hs3 hs2)
      refine bodyPost_ret_by (v := .tuple #[.agg #[.int .i64 0, .slice none 0 0, .slice none 0 0, .slice none 0 0], .bool false]) ?_ rfl ⟨nilS, [], nilS, nilS, rfl, rfl, HSF.out⟩
      simp [results, go_sem, *]
    · rw [hg] at HC
      rw [decide_eq_false (fun h => hb (by unfold trcB; rw [hg, decide_eq_true h]; rfl))] at HIN
      clear hg hb
      go_enter Try.func10, Try.ntmps10
      go_wp2_with (first
        | (go_at_call 34
           with_reducible refine HC.out.mono ?_
           rintro e w3 ⟨rfl, hgr⟩
           have hs3 := HS0.out.grown hgr
           obtain ⟨y0, y1, y2, y3, _⟩ := bq4 hs3.tl.hd
           obtain ⟨k0, k1, k2, k3, k4, k5, k6, k7⟩ := bq4 hs3.hd
           have hs2 := (((hs3.setB 0 (.int .i64 0)).setB 1 (.slice none 0 0)).setB 2 (.slice none 0 0)).setB 3 (.slice none 0 0)
           obtain ⟨l0, l1, l2, l3, _⟩ := bq4 hs2.hd
           have HSF := Lib.hid hs2.tl.tl.nilG
           clear hgr hs3 hs2)
        | (go_at_call 35; have hq := HIN.out (g.o.length : Int) (by omega); with_reducible refine (hq _).mono ?_; rintro e w4 ⟨rfl, rfl⟩)
        | (go_at_call 35; have hq := HIN.out (g.i.length : Int) (by omega); with_reducible refine (hq _).mono ?_; rintro e w4 ⟨rfl, rfl⟩))
      all_goals (
        refine bodyPost_ret_by (v := .tuple #[.agg #[.int .i64 0, .slice none 0 0, .slice none 0 0, .slice none 0 0], .bool false]) ?_ rfl ⟨nilS, [], nilS, nilS, rfl, rfl, HSF.out⟩
        simp [results, go_sem, *])
end Go.Proofs.Ytlpgjnjhhgjkmaa

/-
  One graph as one part of memory; what the exact laws ask of it. Conditions: lists are small.
-/
namespace Go.Proofs.Ytlpgjnjhhgjkmaa
open Go.RowKit
set_option linter.unusedVariables false
set_option maxRecDepth 100000

/-- A graph that is the call's own. -/
def OX3 (ev : Value) (xs : List XE) (iv : Value) (is : List Int) (ov : Value) (os : List Int) : Asrt := Bag [OE ev xs, OI iv is, OI ov os]
/-- A graph that can be read. -/
def RdX (w : World) (g : Gr) (ev iv ov : Value) : Prop := RdE edgeE w ev g.es ∧ IntsV w iv g.i ∧ IntsV w ov g.o
theorem OX3_own {ev : Value} {xs : List XE} {iv : Value} {is : List Int} {ov : Value} {os : List Int} : ∀ k, (OX3 ev xs iv is ov os).sees k → (OX3 ev xs iv is ov os).foot k := by
  rintro k ⟨A, hA, hk⟩
  refine ⟨A, hA, ?_⟩
  simp only [List.mem_cons, List.not_mem_nil, or_false] at hA
  rcases hA with rfl | rfl | rfl
  · exact OE_own k hk
  · exact hk
  · exact hk
theorem OX3.read {w : World} {g : Gr} {ev : Value} {xs : List XE} {iv ov : Value} (h : (OX3 ev xs iv g.i ov g.o).holds w) (hx : eds xs = g.es) : RdX w g ev iv ov := by
  have hs : Sep w [OE ev xs, OI iv g.i, OI ov g.o] := h
  have he := OE.read hs.hd
  rw [hx] at he
  exact ⟨he, OwnInts.read (show OwnInts 0 w iv g.i from hs.tl.hd), OwnInts.read (show OwnInts 0 w ov g.o from hs.tl.tl.hd)⟩
/-- What hands back a graph of its own, told by the slices. -/
def Gives3 (K : Gr) (w : World) (out : Value → Value) (e : Ending) (w' : World) : Prop :=
  ∃ a c p q r s xs, e = .returned (out (.agg #[.int .i64 K.n, .slice a K.es.length c, .slice p K.i.length q, .slice r K.o.length s])) ∧ eds xs = K.es ∧
    Sep w' [OX3 (.slice a K.es.length c) xs (.slice p K.i.length q) K.i (.slice r K.o.length s) K.o, KeepA w]
theorem gives3_of {K : Gr} {w w' : World} {out : Value → Value} {e : Ending} {u0 : Value} {xs : List XE} {u1 u2 : Value} (he : e = .returned (out (grV K.n u0 u1 u2))) (hx : eds xs = K.es) (hs : Sep w' [OE u0 xs, OI u1 K.i, OI u2 K.o, KeepA w]) : Gives3 K w out e w' := by
  obtain ⟨a, c, rfl⟩ := OE.shape hs.hd
  obtain ⟨p, q, rfl⟩ := own_shape (show OwnInts 0 w' u1 K.i from hs.tl.hd)
  obtain ⟨r, s, rfl⟩ := own_shape (show OwnInts 0 w' u2 K.o from hs.tl.tl.hd)
  have hl : xs.length = K.es.length := by rw [← hx, eds_len]
  rw [hl] at hs he
  exact ⟨a, c, p, q, r, s, xs, he, hx, Sep.bag (l := [_, _, _]) hs⟩
theorem toGraph_sh (g : Gr) (ev iv ov : Value) (w : World) (he : RdE argEdE w ev g.es) (hi : IntsV w iv g.i) (ho : IntsV w ov g.o) (ht : totG g ≤ 1048576) :
    Calls Try.prog 9 #[grV g.n ev iv ov] w (Gives3 g w id) := by
  have hsm := Sm.of ht
  refine (toGraph_any ev iv ov g w he hi ho (by have := hsm.es; omega) (by have := hsm.i; omega) (by have := hsm.o; omega) (fun e he => by have := hsm.ed e he; omega)).mono ?_
  rintro e w' ⟨u0, xs, u1, u2, rfl, hx, hs⟩
  exact gives3_of rfl hx hs
theorem eqGraph_sh (g : Gr) (w : World) (u0 u1 u2 v0 v1 v2 : Value) (h : RdX w g u0 u1 u2) (k : RdX w g v0 v1 v2) (ht : totG g ≤ 1048576) :
    Calls Try.prog 11 #[grV g.n u0 u1 u2, grV g.n v0 v1 v2] w fun e w' => e = .returned (.bool true) ∧ w.grownBy w' none := by
  have hsm := Sm.of ht
  exact eqGraph_same u0 u1 u2 v0 v1 v2 g w h.1 h.2.1 h.2.2 k.1 k.2.1 k.2.2 (by have := hsm.es; omega) (by have := hsm.i; omega) (by have := hsm.o; omega) (fun e he => by have := hsm.ed e he; omega)
/-- How far a graph counts. -/
def wX (g : Gr) : Nat := wEs g.es + g.i.length + g.o.length
/-- A graph whose numbers are marks from k on. -/
def mkX3 (k : Int) (g : Gr) : Gr := ⟨g.n, mkEs k g.es, cntI (k + wEs g.es) g.i.length, cntI (k + wEs g.es + g.i.length) g.o.length⟩
theorem markGraph_sh (u0 u1 u2 : Value) (xs : List XE) (g : Gr) (k : Int) (w : World) (l : List Asrt) (hs : Sep w (OX3 u0 xs u1 g.i u2 g.o :: l)) (hx : eds xs = g.es) (hl : totG g ≤ 1048576) (h0 : 0 ≤ k) (h1 : k ≤ 1000000) :
    Calls Try.prog 12 #[grV g.n u0 u1 u2, .int .i64 k] w fun e w' => e = .returned (.int .i64 (k + wX g)) ∧ Sep w' (OX3 u0 (mkXs k xs) u1 (mkX3 k g).i u2 (mkX3 k g).o :: l) ∧ eds (mkXs k xs) = (mkX3 k g).es := by
  refine (markGraph_any u0 u1 u2 xs g k w l (Sep.unbag hs) hx hl h0 h1).mono ?_
  rintro e w' ⟨rfl, hsg⟩
  refine ⟨by unfold wX; rw [show (k + wEs g.es + g.i.length + g.o.length : Int) = k + ((wEs g.es + g.i.length + g.o.length : Nat) : Int) by omega], Sep.bag (l := [_, _, _]) hsg, ?_⟩
  rw [eds_mk, hx]
  rfl
theorem heldGraph_sh (u0 u1 u2 : Value) (g : Gr) (k : Int) (w : World) (h : RdX w (mkX3 k g) u0 u1 u2) (hl : totG g ≤ 1048576) (h0 : 0 ≤ k) (h1 : k ≤ 1000000) :
    Calls Try.prog 13 #[grV g.n u0 u1 u2, .int .i64 k] w fun e w' => e = .returned (.int .i64 (k + wX g)) ∧ w.grownBy w' none := by
  refine (heldGraph_any u0 u1 u2 g k w h.1 h.2.1 h.2.2 hl h0 h1).mono ?_
  rintro e w' ⟨rfl, hg⟩
  exact ⟨by unfold wX; rw [show (k + wEs g.es + g.i.length + g.o.length : Int) = k + ((wEs g.es + g.i.length + g.o.length : Nat) : Int) by omega], hg⟩
/-- A valid graph is small. -/
theorem grB_small {g : Gr} (h : grB g = true) : totG g ≤ 1048576 := by
  obtain ⟨m, hm, hm1, hg1, hg2, hg3, _, hle, _⟩ := grB_n h
  have he : ∀ e ∈ g.es, totE e ≤ 4 := fun e he => by
    have := hle e he
    unfold totE
    omega
  have ht : ∀ es : List Ed, (∀ e ∈ es, totE e ≤ 4) → totEs es ≤ 4 * es.length := fun es => by
    induction es with
    | nil => intro _; simp [totEs]
    | cons e es ih => intro h; have := ih (fun x hx => h x (by simp [hx])); have := h e (by simp); simp only [totEs, List.length_cons]; omega
  have := ht g.es he
  unfold totG
  omega
end Go.Proofs.Ytlpgjnjhhgjkmaa

/-
  The walk of FnExactTraceGraph. Conditions: the slices' lengths are those of slices.
-/
namespace Go.Proofs.Ytlpgjnjhhgjkmaa
open Go.RowKit
set_option linter.unusedVariables false
set_option maxRecDepth 100000

theorem trc_small (g : Gr) (k : Int) : totG (trcG g k) ≤ 1048576 := by
  unfold trcG
  split
  · rename_i h
    unfold trcB at h
    rw [Bool.and_eq_true, decide_eq_true_iff] at h
    obtain ⟨hg, h0, h1⟩ := h
    obtain ⟨m, hm, _⟩ := grB_n hg
    have := trace_grB hg hm (k := k.toNat) (by omega) (by omega)
    rw [hm, Int.toNat_natCast]
    exact grB_small this
  · decide
theorem TraceR.sh {g : Gr} {k : Int} {w w' : World} {e : Ending} (h : TraceR g k w e w') : Gives3 (trcG g k) w (fun v => .tuple #[v, .bool (trcB g k)]) e w' := by
  obtain ⟨v0, xs, v1, v2, rfl, hx, hs⟩ := h
  exact gives3_of rfl hx hs
set_option maxHeartbeats 16000000 in
theorem fnTraceGraph_any (g : Gr) (ev iv ov : Value) (k : Int) (w : World) (he : RdE argEdE w ev g.es) (hi : IntsV w iv g.i) (ho : IntsV w ov g.o) (hok : okG g) :
    Calls Try.prog 3 #[grV g.n ev iv ov, .int .i64 k] w fun e w' => e = .returned (.bool true) ∧ w.grownBy w' none := by
  have HSZ := Lib.hid fun W (h : w.grownBy W none) => szGraph_any g.n ev iv ov g 1048576 W (he.carry h) (hi.carry h) (ho.carry h) (by decide) (by decide) hok
  have HTT := Lib.hid fun W (h : w.grownBy W none) => toGraph_sh g ev iv ov W (he.carry h) (hi.carry h) (ho.carry h)
  unfold grV at HSZ HTT
  unfold grV
  obtain ⟨a, c, rfl⟩ := he.shape
  obtain ⟨p, q, rfl⟩ := hi.shape
  obtain ⟨r, s, rfl⟩ := ho.shape
  clear he hi ho hok
  have HS0 := Lib.hid ((Sep.start w).box #[.int .i64 g.n, .slice a g.es.length c, .slice p g.i.length q, .slice r g.o.length s] 25)
  have HK0 := Lib.hid (show w.grownBy _ none from HS0.out.tl.hd)
  by_cases hsz : lft 1048576 (totG g) < 0
  · generalize lft 1048576 (totG g) = rr at *
    generalize g.es.length = n1 at *
    generalize g.i.length = n2 at *
    generalize g.o.length = n3 at *
    clear HTT
    go_enter Try.func3, Try.ntmps3
    go_wp2_with (
      go_at_call 7
      with_reducible refine (HSZ.out _ HK0.out).mono ?_
      rintro e w2 ⟨rfl, hg⟩
      have HK2 := Lib.hid (grownBy_trans HK0.out hg)
      clear hg)
    go_ret
    exact ⟨rfl, HK2.out⟩
  · have htot : totG g ≤ 1048576 := by unfold lft at hsz; by_cases h : (1048576 : Int) - totG g < 0 <;> simp [h] at hsz <;> omega
    have hsm := Sm.of htot
    have HTS := Lib.hid fun W (h : w.grownBy W none) => HTT.out W h htot
    have HES := Lib.hid fun W u0 u1 u2 v0 v1 v2 (h : RdX W g u0 u1 u2) (h' : RdX W g v0 v1 v2) => eqGraph_sh g W u0 u1 u2 v0 v1 v2 h h' htot
    have HMS := Lib.hid fun W u0 u1 u2 xs l (h : Sep W (OX3 u0 xs u1 g.i u2 g.o :: l)) (hx : eds xs = g.es) => (markGraph_sh u0 u1 u2 xs g 1 W l h hx htot (by decide) (by decide)).mono fun e w' (h : _ ∧ _) => show ∃ r : Int, e = .returned (.int .i64 r) ∧ 0 ≤ r ∧ Sep w' l from ⟨_, h.1, by omega, h.2.1.tl⟩
    obtain ⟨K, hK⟩ : ∃ K, trcG g k = K := ⟨_, rfl⟩
    obtain ⟨b, hb⟩ : ∃ b, trcB g k = b := ⟨_, rfl⟩
    have hks : totG K ≤ 1048576 := by rw [← hK]; exact trc_small g k
    have HSP := Lib.hid fun W u0 u1 u2 (h : RdX W g u0 u1 u2) => show Calls Try.prog 8 #[grV g.n u0 u1 u2, .int .i64 k] W fun e w' => ∃ a c p q r s xs, e = .returned (.tuple #[.agg #[.int .i64 K.n, .slice a K.es.length c, .slice p K.i.length q, .slice r K.o.length s], .bool b]) ∧ eds xs = K.es ∧ Sep w' [OX3 (.slice a K.es.length c) xs (.slice p K.i.length q) K.i (.slice r K.o.length s) K.o, KeepA W] from
      (sTraceGraph_any u0 u1 u2 g k W h.1 h.2.1 h.2.2 (by have := hsm.es; omega) (by have := hsm.i; omega) (by have := hsm.o; omega)).mono fun e w' h => by have := TraceR.sh h; rw [hK, hb] at this; exact this
    have HIM := Lib.hid fun W u0 u1 u2 (h : RdX W g u0 u1 u2) => show Calls Try.prog 10 #[grV g.n u0 u1 u2, .int .i64 k] W fun e w' => ∃ a c p q r s xs, e = .returned (.tuple #[.agg #[.int .i64 K.n, .slice a K.es.length c, .slice p K.i.length q, .slice r K.o.length s], .bool b]) ∧ eds xs = K.es ∧ Sep w' [OX3 (.slice a K.es.length c) xs (.slice p K.i.length q) K.i (.slice r K.o.length s) K.o, KeepA W] from
      (iTraceGraph_any u0 u1 u2 g k W h.1 h.2.1 h.2.2 (by have := hsm.es; omega) (by have := hsm.i; omega) (by have := hsm.o; omega)).mono fun e w' h => by have := TraceR.sh h; rw [hK, hb] at this; exact this
    have HEK := Lib.hid fun W u0 u1 u2 v0 v1 v2 (h : RdX W K u0 u1 u2) (h' : RdX W K v0 v1 v2) => eqGraph_sh K W u0 u1 u2 v0 v1 v2 h h' hks
    have HMK := Lib.hid fun W u0 u1 u2 xs l (h : Sep W (OX3 u0 xs u1 K.i u2 K.o :: l)) (hx : eds xs = K.es) => markGraph_sh u0 u1 u2 xs K 1 W l h hx hks (by decide) (by decide)
    have HHK := Lib.hid fun W u0 u1 u2 (h : RdX W (mkX3 1 K) u0 u1 u2) => heldGraph_sh u0 u1 u2 K 1 W h hks (by decide) (by decide)
    obtain ⟨m, hm⟩ : ∃ m : Int, m = 1 + (wX K : Int) := ⟨_, rfl⟩
    rw [← hm] at HMK HHK
    have hm0 : ¬ m < 0 := by omega
    have hmm : (m != m) = false := by simp
    have hnb : (b != b) = false := by simp
    generalize lft 1048576 (totG g) = rr at *
    unfold Gives3 id at HTS
    unfold grV at HES HMS HSP HIM HEK HMK HHK
    clear htot hsm hK hb hks hm HTT
    go_enter Try.func3, Try.ntmps3
    go_upto_region 10 with (first
      | (go_at_call 7
         with_reducible refine (HSZ.out _ HK0.out).mono ?_
         rintro e w2 ⟨rfl, hg⟩
         have hs2 := HS0.out.grown hg
         obtain ⟨x0, x1, x2, x3, _⟩ := bq4 hs2.hd
         have HS2 := Lib.hid hs2
         have HK2 := Lib.hid (show w.grownBy w2 none from hs2.tl.hd)
         clear hg hs2)
      | (go_at_call 9
         with_reducible refine (HTS.out _ HK2.out).mono ?_
         rintro e w3 ⟨a1, c1, p1, q1, r1, s1, xs1, rfl, hxs, hsg⟩
         have hs3 := HS2.out.graft1 hsg OX3_own
         have HS3 := Lib.hid hs3
         have HSP3 := Lib.hid (HSP.out _ _ _ _ (OX3.read hs3.hd hxs))
         clear x0 x1 x2 x3
         clear hsg hs3 hxs)
      | (go_at_call 8
         with_reducible refine HSP3.out.mono ?_
         rintro e w4 ⟨a0, c0, p0, q0, r0, s0, xs0, rfl, hxs, hsg⟩
         have HY0 := Lib.hid hxs
         have hs4 := ((HS3.out.graft1 hsg OX3_own).drop2).box #[.int .i64 K.n, .slice a0 K.es.length c0, .slice p0 K.i.length q0, .slice r0 K.o.length s0] 29
         obtain ⟨x0, x1, x2, x3, _⟩ := bq4 hs4.tl.tl.hd
         have HS4 := Lib.hid hs4
         have HK4 := Lib.hid (show w.grownBy _ none from hs4.tl.tl.tl.hd)
         clear hsg hs4 hxs)
      | (go_at_call 9
         with_reducible refine (HTS.out _ HK4.out).mono ?_
         rintro e w5 ⟨ab, cb, pb, qb, rb, sb, xsb, rfl, hxs, hsg⟩
         have HXS := Lib.hid hxs
         have hs5 := (HS4.out.graft1 hsg OX3_own).box #[.int .i64 g.n, .slice ab g.es.length cb, .slice pb g.i.length qb, .slice rb g.o.length sb] 29
         clear x0 x1 x2 x3
         obtain ⟨x0, x1, x2, x3, _⟩ := bq4 hs5.hd
         have HS5 := Lib.hid hs5
         have HIM5 := Lib.hid (HIM.out _ _ _ _ (OX3.read hs5.tl.hd hxs))
         clear hsg hs5 hxs)
      | (go_at_call 10
         with_reducible refine HIM5.out.mono ?_
         rintro e w6 ⟨aw, cw, pw, qw, rw, sw, xsw, rfl, hxs, hsg⟩
         have HY1 := Lib.hid hxs
         have hs6 := (HS5.out.graft1 hsg OX3_own).box #[.int .i64 K.n, .slice aw K.es.length cw, .slice pw K.i.length qw, .slice rw K.o.length sw] 29
         clear x0 x1 x2 x3
         obtain ⟨x0, x1, x2, x3, _⟩ := bq4 hs6.hd
         obtain ⟨y0, y1, y2, y3, _⟩ := bq4 hs6.tl.tl.tl.tl.hd
         have HS6 := Lib.hid hs6
         have HEQ6 := Lib.hid (HEK.out _ _ _ _ _ _ _ (OX3.read hs6.tl.hd hxs) (OX3.read hs6.tl.tl.tl.tl.tl.hd HY0.out))
         clear hsg hs6 hxs)
      | (go_at_call 11
         with_reducible refine HEQ6.out.mono ?_
         rintro e w7 ⟨rfl, hg⟩
         have hs7 := HS6.out.grown hg
         clear x0 x1 x2 x3
         clear y0 y1 y2 y3
         have HS7 := Lib.hid hs7
         clear hg hs7))
    have hs7 := HS7.out.dr
    obtain ⟨x0, x1, x2, x3, _⟩ := bq4 hs7.tl.tl.hd
    obtain ⟨y0, y1, y2, y3, _⟩ := bq4 hs7.tl.tl.tl.tl.tl.tl.hd
    have HSD7 := Lib.hid hs7
    have HKD7 := Lib.hid (show w.grownBy w7.drew none from hs7.tl.tl.tl.tl.tl.tl.tl.hd)
    clear hs7
    go_region_law (first
      | ((try go_simp)
         go_at_call 9
         with_reducible refine (HTS.out _ HKD7.out).mono ?_
         rintro e w8 ⟨a3, c3, p3, q3, r3, s3, xs3, rfl, hxs, hsg⟩
         have hs8 := HSD7.out.graft1 hsg OX3_own
         obtain ⟨z0, z1, z2, z3, _⟩ := bq4 hs8.tl.tl.tl.hd
         have HE8 := Lib.hid (HES.out _ _ _ _ _ _ _ (OX3.read hs8.tl.tl.tl.tl.hd HXS.out) (OX3.read hs8.hd hxs))
         have HS8 := Lib.hid hs8.tl
         clear hsg hs8 hxs)
      | ((try go_simp)
         go_at_call 11
         with_reducible refine HE8.out.mono ?_
         rintro e w9 ⟨rfl, hg⟩
         have hs9 := HS8.out.grown hg
         obtain ⟨v0, v1, v2, v3, _⟩ := bq4 hs9.tl.tl.hd
         have HS9 := Lib.hid (hs9.s4)
         have HMS9 := Lib.hid (HMS.out _ _ _ _ _ _ hs9.s4 HXS.out)
         clear hg hs9))
    all_goals
      clear x0 x1 x2 x3 y0 y1 y2 y3
      go_wp2_with (first
        | (go_at_call 12
           with_reducible refine HMS9.out.mono ?_
           rintro e w10 ⟨r10, rfl, hr10, hs10⟩
           have hr10' : ¬ r10 < 0 := by omega
           obtain ⟨x0, x1, x2, x3, _⟩ := bq4 hs10.hd
           obtain ⟨y0, y1, y2, y3, _⟩ := bq4 hs10.tl.tl.tl.hd
           have HS10 := Lib.hid hs10
           have HEQ10 := Lib.hid (HEK.out _ _ _ _ _ _ _ (OX3.read hs10.tl.hd HY1.out) (OX3.read hs10.tl.tl.tl.tl.hd HY0.out))
           clear hs10 hr10)
        | (go_at_call 11
           with_reducible refine HEQ10.out.mono ?_
           rintro e w11 ⟨rfl, hg⟩
           have hs11 := (HS10.out.grown hg).s2
           clear x0 x1 x2 x3
           clear y0 y1 y2 y3
           obtain ⟨x0, x1, x2, x3, _⟩ := bq4 hs11.tl.hd
           have HMG11 := Lib.hid (HMK.out _ _ _ _ _ _ hs11 HY1.out)
           clear hg hs11)
        | (go_at_call 12
           with_reducible refine HMG11.out.mono ?_
           rintro e w12 ⟨rfl, hs12, hxs⟩
           have HYM := Lib.hid hxs
           clear x0 x1 x2 x3
           obtain ⟨x0, x1, x2, x3, _⟩ := bq4 hs12.tl.hd
           have HS12 := Lib.hid hs12
           have HHG12 := Lib.hid (HHK.out _ _ _ _ (OX3.read hs12.hd hxs))
           clear hs12 hxs)
        | (go_at_call 13
           with_reducible refine HHG12.out.mono ?_
           rintro e w13 ⟨rfl, hg⟩
           have hs13 := HS12.out.grown hg
           clear x0 x1 x2 x3
           obtain ⟨x0, x1, x2, x3, _⟩ := bq4 hs13.tl.tl.tl.tl.tl.hd
           have HS13 := Lib.hid hs13
           have HK13 := Lib.hid (show w.grownBy w13 none from hs13.tl.tl.tl.tl.tl.tl.hd)
           clear hg hs13)
        | (go_at_call 9
           with_reducible refine (HTS.out _ HK13.out).mono ?_
           rintro e w14 ⟨a4, c4, p4, q4, r4, s4, xs4, rfl, hxs, hsg⟩
           have hs14 := HS13.out.graft1 hsg OX3_own
           clear x0 x1 x2 x3
           have HS14 := Lib.hid hs14
           have HIM14 := Lib.hid (HIM.out _ _ _ _ (OX3.read hs14.hd hxs))
           clear hsg hs14 hxs)
        | (go_at_call 10
           with_reducible refine HIM14.out.mono ?_
           rintro e w15 ⟨a5, c5, p5, q5, r5, s5, xs5, rfl, hxs, hsg⟩
           have hs15 := ((HS14.out.graft1 hsg OX3_own).drop2).box #[.int .i64 K.n, .slice a5 K.es.length c5, .slice p5 K.i.length q5, .slice r5 K.o.length s5] 29
           obtain ⟨x0, x1, x2, x3, _⟩ := bq4 hs15.hd
           obtain ⟨y0, y1, y2, y3, _⟩ := bq4 hs15.tl.tl.tl.tl.tl.hd
           have HS15 := Lib.hid hs15
           have HEQ15 := Lib.hid (HEK.out _ _ _ _ _ _ _ (OX3.read hs15.tl.hd hxs) (OX3.read hs15.tl.tl.tl.tl.tl.tl.hd HY0.out))
           clear hsg hs15 hxs)
        | (go_at_call 11
           with_reducible refine HEQ15.out.mono ?_
           rintro e w16 ⟨rfl, hg⟩
           have hs16 := HS15.out.grown hg
           clear x0 x1 x2 x3
           clear y0 y1 y2 y3
           obtain ⟨x0, x1, x2, x3, _⟩ := bq4 hs16.tl.tl.tl.hd
           have HHG16 := Lib.hid (HHK.out _ _ _ _ (OX3.read hs16.tl.tl.hd HYM.out))
           have HK16 := Lib.hid (show w.grownBy w16 none from hs16.tl.tl.tl.tl.tl.tl.tl.tl.hd)
           clear hg hs16)
        | (go_at_call 13
           with_reducible refine HHG16.out.mono ?_
           rintro e w17 ⟨rfl, hg⟩
           have HK17 := Lib.hid (grownBy_trans HK16.out hg)
           clear hg))
      go_ret
      exact ⟨rfl, HK17.out⟩
end Go.Proofs.Ytlpgjnjhhgjkmaa

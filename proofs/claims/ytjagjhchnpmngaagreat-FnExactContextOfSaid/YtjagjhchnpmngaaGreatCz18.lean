/-
 The graph of a leaf, in the program. Conditions: it is a leaf.
-/
import Derived.Test.YtjagjhchnpmngaaGreatCz06
import Derived.Test.YtjagjhchnpmngaaGreatCz05
import Derived.Test.YtjagjhchnpmngaaGreatCz04
import Derived.Test.YtjagjhchnpmngaaGreatCz03
import Derived.Test.YtjagjhchnpmngaaGreatCz02
import Derived.Test.YtjagjhchnpmngaaGreatCz01
import Derived.Test.YtjagjhchnpmngaaGreatCz00
import Derived.Test.YtjagjhchnpmngaaGreatCz17
set_option linter.unusedVariables false
set_option linter.unusedSimpArgs false
set_option maxRecDepth 100000
namespace Go.Proofs.YtjagjhchnpmngaaGreat
open Go.RowKit
theorem Sep.oneRT {α : Type} {w : World} {l : List Asrt} {E : Lay α} {y : α} {cs : Array Value} (h : Sep w l) (hc : cs.toList = E.cs y) (b : Nat) (hb : b = w.heap.size) : Sep (w.alloc (.cells cs E.ty)) (OR E (.slice (some ⟨b, 0, none⟩) 1 1) [y] :: l) := by
 subst hb
 refine h.new (grownBy_alloc _ _ none) ?_ fun k hk => ?_
 ·refine ⟨by simp [E.len], Or.inr ⟨w.heap.size, 1, cs, rfl, Nat.zero_le _, alloc_heap_new w _, Nat.le_refl _, by decide, ?_, ?_⟩⟩
  ·rw [← Array.length_toList, hc, E.len, Nat.one_mul]
  ·rw [hc]
   simp only [List.length_cons, List.length_nil, Nat.zero_add, Nat.one_mul, List.flatMap_cons, List.flatMap_nil, List.append_nil]
   exact List.take_of_length_le (by rw [E.len]; exact Nat.le_refl _)
 ·have : w.heap.size = k := by simpa [OR, Hits, Value.ownBlock] using hk
  omega
theorem Sep.twoIT {w : World} {l : List Asrt} (h : Sep w l) (x y : Int) (b : Nat) (hb : b = w.heap.size) : Sep (w.alloc (.cells #[.int .i64 x, .int .i64 y] 3)) (OI (.slice (some ⟨b, 0, none⟩) 2 2) [x, y] :: l) := by
 subst hb
 refine h.new (grownBy_alloc _ _ none) ?_ fun k hk => ?_
 ·exact ⟨rfl, Or.inr ⟨w.heap.size, 2, #[.int .i64 x, .int .i64 y], rfl, Nat.zero_le _, alloc_heap_new w _, Nat.le_refl _, by decide, rfl, rfl⟩⟩
 ·have : w.heap.size = k := by simpa [OI, Hits, Value.ownBlock] using hk
  omega
theorem leafGr_one (n : Nat) (s : ByteArray) (w : World) (hn : n ≤ 12) : Calls Tryz.prog 142 #[.agg #[.int .i64 1, .int .i64 n, .string s]] w (OwnG ⟨(n : Int), [], upL n, upL n⟩ w) := by
 have HC := qd fun W => identG_any n W hn
 unfold OwnG grV at *
 obtain ⟨v, hv⟩ : ∃ v : Int, v = (n : Int) := ⟨_, rfl⟩
 have hs0 := ((Sep.start w).boxAt w.heap.size rfl #[.int .i64 1, .int .i64 n, .string s] 145).boxAt (w.heap.size + 1) (by simp) #[.int .i64 0, .slice none 0 0, .slice none 0 0, .slice none 0 0] 38
 have HS0 := qd hs0
 obtain ⟨x0, x1, x2⟩ := bw3 hs0.tl.hd
 clear hs0
 clear hv
 go_enter Tryz.func142, Tryz.ntmps142
 go_wp2_with (
  go_at_call 152
  with_reducible refine (HC.out _).mono ?_
  rintro e w3 ⟨u0, xs, u1, u2, rfl, hx, hsg⟩
  obtain ⟨t0, v0, rfl⟩ := OE.shape hsg.hd
  obtain ⟨t1, v1, rfl⟩ := own_shape (show OwnInts 0 w3 u1 (upL n) from hsg.tl.hd)
  obtain ⟨t2, v2, rfl⟩ := own_shape (show OwnInts 0 w3 u2 (upL n) from hsg.tl.tl.hd)
  obtain ⟨q0, hq0⟩ : ∃ q, xs.length = q := ⟨_, rfl⟩
  obtain ⟨q1, hq1⟩ : ∃ q, (upL n).length = q := ⟨_, rfl⟩
  rw [hq0, hq1] at hsg
  rw [hq0, hq1]
  have hs1 := Sep.blk (A := [_, _, _]) (B := [_]) (HS0.out.graft3 hsg OE_own OI_own OI_own)
  obtain ⟨k0, k1, k2, k3, k4, k5, k6, k7⟩ := gq4 hs1.hd
  have hs2 := (((hs1.setB 0 (.int .i64 n)).setB 1 (.slice t0 q0 v0)).setB 2 (.slice t1 q1 v1)).setB 3 (.slice t2 q1 v2)
  obtain ⟨l0, l1, l2, l3, _⟩ := gq4 hs2.hd
  have HSF := qd (Sep.cutA (X := [_, _, _]) (A := [_]) hs2.tl)
  have HXF := qd hx
  clear hsg hs1 hs2 hx hq0 hq1 x0 x1 x2)
 refine bodyPost_ret_by (v := .agg #[.int .i64 n, .slice t0 q0 v0, .slice t1 q1 v1, .slice t2 q1 v2]) ?_ rfl ⟨_, xs, _, _, rfl, HXF.out, HSF.out⟩
 simp [results, go_sem, *]
set_option maxHeartbeats 2000000 in
theorem leafGr_two (v : Int) (s : ByteArray) (w : World) : Calls Tryz.prog 142 #[.agg #[.int .i64 2, .int .i64 v, .string s]] w (OwnG ⟨2, [], [0, 1], [1, 0]⟩ w) := by
 unfold OwnG grV
 have hs0 := ((Sep.start w).boxAt w.heap.size rfl #[.int .i64 2, .int .i64 v, .string s] 145).boxAt (w.heap.size + 1) (by simp) #[.int .i64 0, .slice none 0 0, .slice none 0 0, .slice none 0 0] 38
 have HS0 := qd hs0
 obtain ⟨x0, x1, x2⟩ := bw3 hs0.tl.hd
 clear hs0
 have hs1 := ((((Sep.start w).boxAt w.heap.size rfl #[.int .i64 2, .int .i64 v, .string s] 145).boxAt (w.heap.size + 1) (by simp) #[.int .i64 2, .slice none 0 0, .slice (some ⟨w.heap.size + 1 + 1, 0, none⟩) 2 2, .slice (some ⟨w.heap.size + 1 + 1 + 1, 0, none⟩) 2 2] 38).twoIT 0 1 (w.heap.size + 1 + 1) (by simp)).twoIT 1 0 (w.heap.size + 1 + 1 + 1) (by simp)
 obtain ⟨l0, l1, l2, l3, _⟩ := gq4 hs1.tl.tl.hd
 have HSF := qd (Sep.bag (l := [OR edgeE nilS []]) (Sep.nilR edgeE (Sep.cutA (X := [_, _]) (A := [_, _]) hs1).s2))
 clear hs1
 go_enter Tryz.func142, Tryz.ntmps142
 go_wp2_with fail
 refine bodyPost_ret_by (v := .agg #[.int .i64 2, .slice none 0 0, .slice (some ⟨w.heap.size + 1 + 1, 0, none⟩) 2 2, .slice (some ⟨w.heap.size + 1 + 1 + 1, 0, none⟩) 2 2]) ?_ rfl ⟨_, [], _, _, rfl, rfl, HSF.out⟩
 simp [results, go_sem, *]
set_option maxHeartbeats 4000000 in
theorem leafGr_gen (k v : Int) (s : ByteArray) (w : World) (hk : inB k 3 14 = true) : Calls Tryz.prog 142 #[.agg #[.int .i64 k, .int .i64 v, .string s]] w (OwnG (genG k v (edW k).1 (edW k).2) w) := by
 have HG := qd fun W => generatorWires_any k W hk
 have hsm := edW_small k
 rw [inB_iff] at hk
 have h1 : (k == 1) = false := by simp; omega
 have h2 : (k == 2) = false := by simp; omega
 obtain ⟨a, ha⟩ : ∃ a : Nat, (edW k).1 = a := ⟨_, rfl⟩
 obtain ⟨c, hc⟩ : ∃ c : Nat, (edW k).2 = c := ⟨_, rfl⟩
 rw [ha, hc] at HG hsm ⊢
 have HU := qd fun W => upTo_any a W (by omega)
 have HFR := qd fun W => from_any a c W (by omega) (by omega)
 have hwr : IntKind.i64.wrap ((a : Int) + (c : Int)) = (a : Int) + (c : Int) := wrap_id (by omega) (by omega)
 have HCI := qd fun tv W (ht : IntsV W tv (upL a)) => cloneT_any tv (upL a) W ht (by rw [upL_len]; omega)
 have HCO := qd fun tv W (ht : IntsV W tv (frL a c)) => cloneT_any tv (frL a c) W ht (by rw [frL_len]; omega)
 rw [upL_len] at HCI
 rw [frL_len] at HCO
 unfold OwnG grV
 clear ha hc hsm hk
 have hs0 := ((Sep.start w).boxAt w.heap.size rfl #[.int .i64 k, .int .i64 v, .string s] 145).boxAt (w.heap.size + 1) (by simp) #[.int .i64 0, .slice none 0 0, .slice none 0 0, .slice none 0 0] 38
 have HS0 := qd hs0
 obtain ⟨x0, x1, x2⟩ := bw3 hs0.tl.hd
 clear hs0
 go_enter Tryz.func142, Tryz.ntmps142
 go_upto_region 7 with (
  go_at_call 116
  with_reducible refine (HG.out _).mono ?_
  rintro e w3 ⟨rfl, hg⟩
  have HS3 := qd ((HS0.out.grown hg).boxAt w3.heap.size rfl #[.int .i64 a, .int .i64 c] 149)
  clear hg x0 x1 x2)
 generalize w3.alloc (.cells #[.int .i64 a, .int .i64 c] 149) = w4 at *
 generalize w3.heap.size = xw at *
 have HBM := qd fun (W1 : World) (L : List Asrt) (h : Sep W1 L) (h1 : BxA xw #[.int .i64 a, .int .i64 c] 149 ∈ L) => show W1.cell? ⟨xw, 0, none⟩ = some (.int .i64 a) ∧ W1.cell? ⟨xw, 1, none⟩ = some (.int .i64 c) from by
  obtain ⟨p0, p1, _⟩ := bw2 (show W1.heap[xw]? = some (.cells #[.int .i64 a, .int .i64 c] 149 (0, 0)) from Sep.all h _ h1)
  exact ⟨p0, p1⟩
 have HSD := qd HS3.out.dr
 have X0 := qd (HBM.out _ _ HSD.out (by simp))
 refine AnyL.start (fun W1 => W1.cell? ⟨xw, 0, none⟩ = some (.int .i64 a) ∧ W1.cell? ⟨xw, 1, none⟩ = some (.int .i64 c)) (fun _ => True) 99 (by kernel_rfl) ?_
 generalize w4.drew = w5 at *
 refine AnyL.tT 0 (by exact X0.out) ?_
 refine AnyL.tT 1 (by exact X0.out) ?_
 refine AnyL.tT 3 (by exact X0.out) ?_
 refine AnyL.tT 4 (by exact X0.out) ?_
 refine AnyL.tT 5 (by exact X0.out) ?_
 refine AnyL.tT 6 (by exact X0.out) ?_
 refine AnyL.step (i := 2) (by kernel_rfl) (by rfl) (fun K hK => ?_)
 go_simp
 go_at_call 77
 with_reducible refine (HU.out _).mono ?_
 rintro e w6 ⟨gi, ci, rfl, hsg⟩
 have HS6 := qd (HSD.out.graft1 hsg OI_own)
 clear hsg
 refine shutNx hK _ (by exact HBM.out _ _ HS6.out (by simp)) (by exact fun _ => trivial) ?_
 clear hK K
 refine AnyL.step (i := 7) (by kernel_rfl) (by rfl) (fun K hK => ?_)
 go_simp
 go_at_call 124
 with_reducible refine (HFR.out _).mono ?_
 rintro e w7 ⟨go_, co_, rfl, hsg⟩
 have HS7 := qd (HS6.out.graft1 hsg OI_own)
 clear hsg
 refine shutNx hK _ (by exact HBM.out _ _ HS7.out (by simp)) (by exact fun _ => trivial) ?_
 clear hK K
 refine AnyL.tT 8 (by exact HBM.out _ _ HS7.out (by simp)) ?_
 refine AnyL.tT 9 (by exact HBM.out _ _ HS7.out (by simp)) ?_
 refine AnyL.done (by kernel_rfl) ?_ _
 clear X0 HSD
 go_upto_region 8 with fail
 have HBN := qd fun (W1 : World) (L : List Asrt) (h : Sep W1 L) (h1 : BxA xw #[.int .i64 a, .int .i64 c] 149 ∈ L) (h2 : BxA w.heap.size #[.int .i64 k, .int .i64 v, .string s] 145 ∈ L) => show (W1.cell? ⟨xw, 0, none⟩ = some (.int .i64 a) ∧ W1.cell? ⟨xw, 1, none⟩ = some (.int .i64 c)) ∧ W1.cell? ⟨w.heap.size, 0, none⟩ = some (.int .i64 k) ∧ W1.cell? ⟨w.heap.size, 1, none⟩ = some (.int .i64 v) from by
  obtain ⟨p0, p1, _⟩ := bw3 (show W1.heap[w.heap.size]? = some (.cells #[.int .i64 k, .int .i64 v, .string s] 145 (0, 0)) from Sep.all h _ h2)
  exact ⟨HBM.out _ _ h h1, p0, p1⟩
 have HSE := qd HS7.out.dr
 have X1 := qd (HBN.out _ _ HSE.out (by simp) (by simp))
 refine AnyL.start (fun W1 => (W1.cell? ⟨xw, 0, none⟩ = some (.int .i64 a) ∧ W1.cell? ⟨xw, 1, none⟩ = some (.int .i64 c)) ∧ W1.cell? ⟨w.heap.size, 0, none⟩ = some (.int .i64 k) ∧ W1.cell? ⟨w.heap.size, 1, none⟩ = some (.int .i64 v)) (fun _ => True) 99 (by kernel_rfl) ?_
 generalize w7.drew = w8 at *
 refine AnyL.tT 0 (by exact X1.out) ?_
 refine AnyL.tT 1 (by exact X1.out) ?_
 refine AnyL.tT 2 (by exact X1.out) ?_
 refine AnyL.tT 3 (by exact X1.out) ?_
 refine AnyL.tT 4 (by exact X1.out) ?_
 refine AnyL.tT 5 (by exact X1.out) ?_
 refine AnyL.tT 6 (by exact X1.out) ?_
 refine AnyL.tT 7 (by exact X1.out) ?_
 refine AnyL.tT 8 (by exact X1.out) ?_
 refine AnyL.tT 9 (by exact X1.out) ?_
 refine AnyL.tT 10 (by exact X1.out) ?_
 refine AnyL.tT 11 (by exact X1.out) ?_
 refine AnyL.tT 13 (by exact X1.out) ?_
 refine AnyL.tT 15 (by exact X1.out) ?_
 refine AnyL.twoM (i := 12) (j := 14) (by kernel_rfl) (by rfl) (by rfl) (fun K hK => ?_) (fun K hK => ?_)
 ·go_simp
  have HSqz := qd (show Sep (w8.alloc (.cells #[.int .i64 k, .int .i64 v, .slice (some ⟨gi, 0, none⟩) a ci, .slice (some ⟨go_, 0, none⟩) c co_] 104)) _ from Sep.oneRT (E := edgeE) (y := ⟨⟨k, v, upL a, frL a c⟩, .slice (some ⟨gi, 0, none⟩) a ci, .slice (some ⟨go_, 0, none⟩) c co_⟩) (cs := #[.int .i64 k, .int .i64 v, .slice (some ⟨gi, 0, none⟩) a ci, .slice (some ⟨go_, 0, none⟩) c co_]) HSE.out rfl (w8.heap.size) rfl)
  refine shutNx hK (w8.alloc (.cells #[.int .i64 k, .int .i64 v, .slice (some ⟨gi, 0, none⟩) a ci, .slice (some ⟨go_, 0, none⟩) c co_] 104)) (by exact HBN.out _ _ HSqz.out (by simp) (by simp)) (by exact fun _ => trivial) ?_
  clear hK K
  generalize w8.alloc (.cells #[.int .i64 k, .int .i64 v, .slice (some ⟨gi, 0, none⟩) a ci, .slice (some ⟨go_, 0, none⟩) c co_] 104) = wqz at *
  generalize w8.heap.size = xe at *
  refine AnyL.step (i := 14) (by kernel_rfl) (by rfl) (fun K hK => ?_)
  go_simp
  have HCC := qd (HCI.out _ _ (show OwnInts 0 wqz _ (upL a) from HSqz.out.tl.tl.hd).read)
  go_at_call 123
  with_reducible refine HCC.out.mono ?_
  rintro e wqzc ⟨aCI, cCI, rfl, hsg⟩
  have HSqzc := qd (HSqz.out.graft1 hsg OI_own)
  clear hsg
  refine shutNx hK _ (by exact HBN.out _ _ HSqzc.out (by simp) (by simp)) (by exact fun _ => trivial) ?_
  clear hK K
  refine AnyL.step (i := 16) (by kernel_rfl) (by rfl) (fun K hK => ?_)
  go_simp
  have HCC := qd (HCO.out _ _ (show OwnInts 0 wqzc _ (frL a c) from HSqzc.out.tl.tl.hd).read)
  go_at_call 123
  with_reducible refine HCC.out.mono ?_
  rintro e wqzcc ⟨aCO, cCO, rfl, hsg⟩
  have HSqzcc := qd (HSqzc.out.graft1 hsg OI_own)
  clear hsg
  refine shutNx hK _ (by exact HBN.out _ _ HSqzcc.out (by simp) (by simp)) (by exact fun _ => trivial) ?_
  clear hK K
  refine AnyL.tT 17 (by exact HBN.out _ _ HSqzcc.out (by simp) (by simp)) ?_
  have hz := Sep.blk (A := [_, _, _, _, _, _]) (B := [_]) HSqzcc.out
  obtain ⟨y0, y1, y2, y3, ff0, ff1, ff2, ff3⟩ := gq4 hz.hd
  have hz2 := (((hz.setB 0 (.int .i64 ((a : Int) + c))).setB 1 (.slice (some ⟨xe, 0, none⟩) 1 1)).setB 2 (.slice aCI a cCI)).setB 3 (.slice aCO c cCO)
  have HZ9 := qd hz2
  clear hz hz2
  refine AnyL.step (i := 18) (by kernel_rfl) (by rfl) (fun K hK => ?_)
  go_simp
  refine shutNx hK ((((wqzcc.setCell ⟨w.heap.size + 1, 0, none⟩ (.int .i64 ((a : Int) + c))).setCell ⟨w.heap.size + 1, 1, none⟩ (.slice (some ⟨xe, 0, none⟩) 1 1)).setCell ⟨w.heap.size + 1, 2, none⟩ (.slice aCI a cCI)).setCell ⟨w.heap.size + 1, 3, none⟩ (.slice aCO c cCO)) (by exact HBN.out _ _ HZ9.out (by simp) (by simp)) (by exact fun _ => trivial) ?_
  clear hK K
  refine AnyL.done (by kernel_rfl) ?_ _
  generalize (((wqzcc.setCell ⟨w.heap.size + 1, 0, none⟩ (.int .i64 ((a : Int) + c))).setCell ⟨w.heap.size + 1, 1, none⟩ (.slice (some ⟨xe, 0, none⟩) 1 1)).setCell ⟨w.heap.size + 1, 2, none⟩ (.slice aCI a cCI)).setCell ⟨w.heap.size + 1, 3, none⟩ (.slice aCO c cCO) = w9 at *
  clear y0 y1 y2 y3 ff0 ff1 ff2 ff3
  obtain ⟨l0, l1, l2, l3, _⟩ := gq4 HZ9.out.hd
  have HSF := qd (Sep.bag (l := [_, _, _]) (Sep.cutA (X := [_, _, _, _, _]) (A := [_, _, _]) (Sep.blk (A := [_, _, _, _, _]) (B := [_]) (Sep.blk (A := [_, _, _, _, _]) (B := [_]) (Sep.blk (A := [_, _, _, _]) (B := [_]) (Sep.blk (A := [_, _]) (B := [_]) (Sep.blk (A := [_]) (B := [_]) (HZ9.out))))))))
  go_wp2_with fail
  refine bodyPost_ret_by (v := .agg #[.int .i64 ((a : Int) + c), .slice (some ⟨xe, 0, none⟩) 1 1, .slice aCI a cCI, .slice aCO c cCO]) ?_ rfl ⟨.slice (some ⟨xe, 0, none⟩) 1 1, [⟨⟨k, v, upL a, frL a c⟩, .slice (some ⟨gi, 0, none⟩) a ci, .slice (some ⟨go_, 0, none⟩) c co_⟩], .slice aCI a cCI, .slice aCO c cCO, by show _ = Ending.returned (.agg #[.int .i64 ((a + c : Nat) : Int), _, _, _]); rw [show ((a + c : Nat) : Int) = (a : Int) + c from by omega], rfl, HSF.out⟩
  simp [results, go_sem, *]
 ·go_simp
  have HCC := qd (HCI.out _ _ (show OwnInts 0 w8 _ (upL a) from HSE.out.tl.hd).read)
  go_at_call 123
  with_reducible refine HCC.out.mono ?_
  rintro e wqc ⟨aCI, cCI, rfl, hsg⟩
  have HSqc := qd (HSE.out.graft1 hsg OI_own)
  clear hsg
  refine shutNx hK _ (by exact HBN.out _ _ HSqc.out (by simp) (by simp)) (by exact fun _ => trivial) ?_
  clear hK K
  refine AnyL.twoM (i := 12) (j := 16) (by kernel_rfl) (by rfl) (by rfl) (fun K hK => ?_) (fun K hK => ?_)
  ·go_simp
   have HSqcz := qd (show Sep (wqc.alloc (.cells #[.int .i64 k, .int .i64 v, .slice (some ⟨gi, 0, none⟩) a ci, .slice (some ⟨go_, 0, none⟩) c co_] 104)) _ from Sep.oneRT (E := edgeE) (y := ⟨⟨k, v, upL a, frL a c⟩, .slice (some ⟨gi, 0, none⟩) a ci, .slice (some ⟨go_, 0, none⟩) c co_⟩) (cs := #[.int .i64 k, .int .i64 v, .slice (some ⟨gi, 0, none⟩) a ci, .slice (some ⟨go_, 0, none⟩) c co_]) HSqc.out rfl (wqc.heap.size) rfl)
   refine shutNx hK (wqc.alloc (.cells #[.int .i64 k, .int .i64 v, .slice (some ⟨gi, 0, none⟩) a ci, .slice (some ⟨go_, 0, none⟩) c co_] 104)) (by exact HBN.out _ _ HSqcz.out (by simp) (by simp)) (by exact fun _ => trivial) ?_
   clear hK K
   generalize wqc.alloc (.cells #[.int .i64 k, .int .i64 v, .slice (some ⟨gi, 0, none⟩) a ci, .slice (some ⟨go_, 0, none⟩) c co_] 104) = wqcz at *
   generalize wqc.heap.size = xe at *
   refine AnyL.step (i := 16) (by kernel_rfl) (by rfl) (fun K hK => ?_)
   go_simp
   have HCC := qd (HCO.out _ _ (show OwnInts 0 wqcz _ (frL a c) from HSqcz.out.tl.tl.hd).read)
   go_at_call 123
   with_reducible refine HCC.out.mono ?_
   rintro e wqczc ⟨aCO, cCO, rfl, hsg⟩
   have HSqczc := qd (HSqcz.out.graft1 hsg OI_own)
   clear hsg
   refine shutNx hK _ (by exact HBN.out _ _ HSqczc.out (by simp) (by simp)) (by exact fun _ => trivial) ?_
   clear hK K
   refine AnyL.tT 17 (by exact HBN.out _ _ HSqczc.out (by simp) (by simp)) ?_
   have hz := Sep.blk (A := [_, _, _, _, _, _]) (B := [_]) HSqczc.out
   obtain ⟨y0, y1, y2, y3, ff0, ff1, ff2, ff3⟩ := gq4 hz.hd
   have hz2 := (((hz.setB 0 (.int .i64 ((a : Int) + c))).setB 1 (.slice (some ⟨xe, 0, none⟩) 1 1)).setB 2 (.slice aCI a cCI)).setB 3 (.slice aCO c cCO)
   have HZ9 := qd hz2
   clear hz hz2
   refine AnyL.step (i := 18) (by kernel_rfl) (by rfl) (fun K hK => ?_)
   go_simp
   refine shutNx hK ((((wqczc.setCell ⟨w.heap.size + 1, 0, none⟩ (.int .i64 ((a : Int) + c))).setCell ⟨w.heap.size + 1, 1, none⟩ (.slice (some ⟨xe, 0, none⟩) 1 1)).setCell ⟨w.heap.size + 1, 2, none⟩ (.slice aCI a cCI)).setCell ⟨w.heap.size + 1, 3, none⟩ (.slice aCO c cCO)) (by exact HBN.out _ _ HZ9.out (by simp) (by simp)) (by exact fun _ => trivial) ?_
   clear hK K
   refine AnyL.done (by kernel_rfl) ?_ _
   generalize (((wqczc.setCell ⟨w.heap.size + 1, 0, none⟩ (.int .i64 ((a : Int) + c))).setCell ⟨w.heap.size + 1, 1, none⟩ (.slice (some ⟨xe, 0, none⟩) 1 1)).setCell ⟨w.heap.size + 1, 2, none⟩ (.slice aCI a cCI)).setCell ⟨w.heap.size + 1, 3, none⟩ (.slice aCO c cCO) = w9 at *
   clear y0 y1 y2 y3 ff0 ff1 ff2 ff3
   obtain ⟨l0, l1, l2, l3, _⟩ := gq4 HZ9.out.hd
   have HSF := qd (Sep.bag (l := [_, _, _]) (Sep.cutA (X := [_, _, _, _, _]) (A := [_, _, _]) (Sep.blk (A := [_, _, _, _, _]) (B := [_]) (Sep.blk (A := [_, _, _, _, _]) (B := [_]) (Sep.blk (A := [_, _, _, _]) (B := [_]) (Sep.blk (A := [_, _, _]) (B := [_]) (Sep.blk (A := [_]) (B := [_]) (HZ9.out))))))))
   go_wp2_with fail
   refine bodyPost_ret_by (v := .agg #[.int .i64 ((a : Int) + c), .slice (some ⟨xe, 0, none⟩) 1 1, .slice aCI a cCI, .slice aCO c cCO]) ?_ rfl ⟨.slice (some ⟨xe, 0, none⟩) 1 1, [⟨⟨k, v, upL a, frL a c⟩, .slice (some ⟨gi, 0, none⟩) a ci, .slice (some ⟨go_, 0, none⟩) c co_⟩], .slice aCI a cCI, .slice aCO c cCO, by show _ = Ending.returned (.agg #[.int .i64 ((a + c : Nat) : Int), _, _, _]); rw [show ((a + c : Nat) : Int) = (a : Int) + c from by omega], rfl, HSF.out⟩
   simp [results, go_sem, *]
  ·go_simp
   have HCC := qd (HCO.out _ _ (show OwnInts 0 wqc _ (frL a c) from HSqc.out.tl.hd).read)
   go_at_call 123
   with_reducible refine HCC.out.mono ?_
   rintro e wqcc ⟨aCO, cCO, rfl, hsg⟩
   have HSqcc := qd (HSqc.out.graft1 hsg OI_own)
   clear hsg
   refine shutNx hK _ (by exact HBN.out _ _ HSqcc.out (by simp) (by simp)) (by exact fun _ => trivial) ?_
   clear hK K
   refine AnyL.step (i := 12) (by kernel_rfl) (by rfl) (fun K hK => ?_)
   go_simp
   have HSqccz := qd (show Sep (wqcc.alloc (.cells #[.int .i64 k, .int .i64 v, .slice (some ⟨gi, 0, none⟩) a ci, .slice (some ⟨go_, 0, none⟩) c co_] 104)) _ from Sep.oneRT (E := edgeE) (y := ⟨⟨k, v, upL a, frL a c⟩, .slice (some ⟨gi, 0, none⟩) a ci, .slice (some ⟨go_, 0, none⟩) c co_⟩) (cs := #[.int .i64 k, .int .i64 v, .slice (some ⟨gi, 0, none⟩) a ci, .slice (some ⟨go_, 0, none⟩) c co_]) HSqcc.out rfl (wqcc.heap.size) rfl)
   refine shutNx hK (wqcc.alloc (.cells #[.int .i64 k, .int .i64 v, .slice (some ⟨gi, 0, none⟩) a ci, .slice (some ⟨go_, 0, none⟩) c co_] 104)) (by exact HBN.out _ _ HSqccz.out (by simp) (by simp)) (by exact fun _ => trivial) ?_
   clear hK K
   generalize wqcc.alloc (.cells #[.int .i64 k, .int .i64 v, .slice (some ⟨gi, 0, none⟩) a ci, .slice (some ⟨go_, 0, none⟩) c co_] 104) = wqccz at *
   generalize wqcc.heap.size = xe at *
   refine AnyL.tT 17 (by exact HBN.out _ _ HSqccz.out (by simp) (by simp)) ?_
   have hz := Sep.blk (A := [_, _, _, _, _, _]) (B := [_]) HSqccz.out
   obtain ⟨y0, y1, y2, y3, ff0, ff1, ff2, ff3⟩ := gq4 hz.hd
   have hz2 := (((hz.setB 0 (.int .i64 ((a : Int) + c))).setB 1 (.slice (some ⟨xe, 0, none⟩) 1 1)).setB 2 (.slice aCI a cCI)).setB 3 (.slice aCO c cCO)
   have HZ9 := qd hz2
   clear hz hz2
   refine AnyL.step (i := 18) (by kernel_rfl) (by rfl) (fun K hK => ?_)
   go_simp
   refine shutNx hK ((((wqccz.setCell ⟨w.heap.size + 1, 0, none⟩ (.int .i64 ((a : Int) + c))).setCell ⟨w.heap.size + 1, 1, none⟩ (.slice (some ⟨xe, 0, none⟩) 1 1)).setCell ⟨w.heap.size + 1, 2, none⟩ (.slice aCI a cCI)).setCell ⟨w.heap.size + 1, 3, none⟩ (.slice aCO c cCO)) (by exact HBN.out _ _ HZ9.out (by simp) (by simp)) (by exact fun _ => trivial) ?_
   clear hK K
   refine AnyL.done (by kernel_rfl) ?_ _
   generalize (((wqccz.setCell ⟨w.heap.size + 1, 0, none⟩ (.int .i64 ((a : Int) + c))).setCell ⟨w.heap.size + 1, 1, none⟩ (.slice (some ⟨xe, 0, none⟩) 1 1)).setCell ⟨w.heap.size + 1, 2, none⟩ (.slice aCI a cCI)).setCell ⟨w.heap.size + 1, 3, none⟩ (.slice aCO c cCO) = w9 at *
   clear y0 y1 y2 y3 ff0 ff1 ff2 ff3
   obtain ⟨l0, l1, l2, l3, _⟩ := gq4 HZ9.out.hd
   have HSF := qd (Sep.bag (l := [_, _, _]) (Sep.cutA (X := [_, _, _, _, _]) (A := [_, _, _]) (Sep.blk (A := [_, _, _, _, _]) (B := [_]) (Sep.blk (A := [_, _, _, _, _]) (B := [_]) (Sep.blk (A := [_, _, _, _]) (B := [_]) (Sep.blk (A := [_, _, _]) (B := [_]) (Sep.blk (A := [_, _]) (B := [_]) (HZ9.out))))))))
   go_wp2_with fail
   refine bodyPost_ret_by (v := .agg #[.int .i64 ((a : Int) + c), .slice (some ⟨xe, 0, none⟩) 1 1, .slice aCI a cCI, .slice aCO c cCO]) ?_ rfl ⟨.slice (some ⟨xe, 0, none⟩) 1 1, [⟨⟨k, v, upL a, frL a c⟩, .slice (some ⟨gi, 0, none⟩) a ci, .slice (some ⟨go_, 0, none⟩) c co_⟩], .slice aCI a cCI, .slice aCO c cCO, by show _ = Ending.returned (.agg #[.int .i64 ((a + c : Nat) : Int), _, _, _]); rw [show ((a + c : Nat) : Int) = (a : Int) + c from by omega], rfl, HSF.out⟩
   simp [results, go_sem, *]
theorem leafGraph_any (n : Nd) (w : World) (h : lfB n = true) : Calls Tryz.prog 142 #[.agg #[.int .i64 n.k, .int .i64 n.v, .string n.s]] w (OwnG (leafG n) w) := by
 have hb := h
 unfold lfB lfV at hb
 rw [Bool.and_eq_true] at hb
 have h2 := hb.2
 unfold leafG
 by_cases h1 : n.k = 1
 ·rw [if_pos h1] at h2 ⊢
  have h3 := of_decide_eq_true h2
  obtain ⟨x, hx⟩ : ∃ x : Nat, n.v = (x : Int) := ⟨n.v.toNat, by omega⟩
  rw [h1, hx]
  exact leafGr_one x n.s w (by omega)
 ·rw [if_neg h1] at h2 ⊢
  by_cases h4 : n.k = 2
  ·rw [if_pos h4, h4]
   exact leafGr_two n.v n.s w
  ·rw [if_neg h4, Bool.and_eq_true] at h2
   rw [if_neg h4]
   exact leafGr_gen n.k n.v n.s w h2.1
end Go.Proofs.YtjagjhchnpmngaaGreat

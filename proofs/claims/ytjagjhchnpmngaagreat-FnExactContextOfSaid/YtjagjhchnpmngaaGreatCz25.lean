/-
 Terms in the reference: their types, whether they are over a field. Conditions: lengths are small.
-/
import Derived.Test.YtjagjhchnpmngaaGreatCz06
import Derived.Test.YtjagjhchnpmngaaGreatCz05
import Derived.Test.YtjagjhchnpmngaaGreatCz04
import Derived.Test.YtjagjhchnpmngaaGreatCz03
import Derived.Test.YtjagjhchnpmngaaGreatCz02
import Derived.Test.YtjagjhchnpmngaaGreatCz01
import Derived.Test.YtjagjhchnpmngaaGreatCz00
import Derived.Test.YtjagjhchnpmngaaGreatCz23
import Derived.Test.YtjagjhchnpmngaaGreatCz20
import Derived.Test.YtjagjhchnpmngaaGreatCz24
import Derived.Test.YtjagjhchnpmngaaGreatCz21
import Derived.Test.YtjagjhchnpmngaaGreatCz08
import Derived.Test.YtjagjhchnpmngaaGreatCz22
set_option linter.unusedVariables false
set_option linter.unusedSimpArgs false
set_option maxRecDepth 100000
namespace Go.Proofs.YtjagjhchnpmngaaGreat
open Go.RowKit
theorem tmScan_any (nv : Value) (ns : List Nd) (w : World) (hn : RdR nodeE w nv ns) (hl : ns.length ≤ 2000000) :
 Calls Tryz.prog 125 #[.agg #[nv]] w (ScanR (tmB ns) ns w) := by
 have HT := qd fun W (hW : w.grownBy W none) => scan_any nv ns W (hn.carry hW) hl
 obtain ⟨na, nc, rfl⟩ := hn.shape
 obtain ⟨n, hnl⟩ : ∃ n, ns.length = n := ⟨_, rfl⟩
 rw [hnl] at HT hl ⊢
 generalize tmB ns = b at *
 have hs0 := ((Sep.start w).boxAt w.heap.size rfl #[.slice na n nc] 44).boxAt (w.heap.size + 1) (by simp) #[.slice none 0 0, .slice none 0 0, .slice none 0 0] 162
 have HS0 := qd hs0
 have HK0 := qd (show w.grownBy _ none from hs0.tl.tl.hd)
 have x0 := bs1 hs0.tl.hd
 unfold ScanR at *
 clear hs0 hn hl hnl
 go_enter Tryz.func125, Tryz.ntmps125
 go_wp2_with (
  go_at_call 145
  with_reducible refine (HT.out _ HK0.out).mono ?_
  rintro e w3 ⟨fa, fn, fc, ia, inn, ic, oa, on, oc, rfl, hq, hg⟩
  have hs1 := HS0.out.grown hg
  obtain ⟨y0, y1, y2, f0, f1, f2⟩ := bs3 hs1.hd
  have hsz := ((hs1.setB 0 (.slice fa fn fc)).setB 1 (.slice ia inn ic)).setB 2 (.slice oa on oc)
  obtain ⟨u0, u1, u2, _⟩ := bs3 hsz.hd
  have HKF := qd (show w.grownBy _ none from hsz.tl.tl.hd)
  have HQ := qd fun (hb : b = true) => (by
   have h4 := Sep.blk (A := [_, _, _]) (B := [_]) (HS0.out.graft3 (hq hb) OI_own OI_own OI_own)
   have h5 := ((h4.setB 0 (.slice fa fn fc)).setB 1 (.slice ia inn ic)).setB 2 (.slice oa on oc)
   exact Sep.cutA (X := [_, _, _]) (A := [_]) h5.tl : Sep (((w3.setCell ⟨w.heap.size + 1, 0, none⟩ (.slice fa fn fc)).setCell ⟨w.heap.size + 1, 1, none⟩ (.slice ia inn ic)).setCell ⟨w.heap.size + 1, 2, none⟩ (.slice oa on oc)) [OI (.slice fa fn fc) (scF ns ns.length), OI (.slice ia inn ic) (scI ns ns.length), OI (.slice oa on oc) (scO ns ns.length), KeepA w])
  clear hs1 hsz hg hq x0)
 generalize ((w3.setCell ⟨w.heap.size + 1, 0, none⟩ (.slice fa fn fc)).setCell ⟨w.heap.size + 1, 1, none⟩ (.slice ia inn ic)).setCell ⟨w.heap.size + 1, 2, none⟩ (.slice oa on oc) = w4 at *
 refine bodyPost_ret_by (v := .tuple #[.agg #[.slice fa fn fc, .slice ia inn ic, .slice oa on oc], .bool b]) ?_ rfl ⟨_, _, _, _, _, _, _, _, _, rfl, HQ.out, HKF.out⟩
 simp [results, go_sem, *]
theorem own_lenT {B : Nat} {w : World} {a : Option Addr} {n c : Nat} {zs : List Int} (h : OwnInts B w (.slice a n c) zs) : n = zs.length := by
 obtain ⟨a', c', e⟩ := own_shape h
 injection e
theorem top_last {ns : List Nd} {n1 : Nat} (h : tmB ns = true) (hn : n1 + 1 = ns.length) : (topA ns n1).ty = tmT ns := by
 obtain ⟨_, t, _, _, hp⟩ := tmB_tree h
 have e1 : topA ns n1 = t := topA_eq (R := []) (by rw [hn]; exact hp)
 rw [e1]
 unfold tmT
 rw [hp]
set_option maxHeartbeats 2000000 in
theorem tmType_any (nv : Value) (ns : List Nd) (w : World) (hn : RdR nodeE w nv ns) (hl : ns.length ≤ 2000000) (hb : tmB ns = true) :
 Calls Tryz.prog 98 #[.agg #[nv]] w fun e w' => e = .returned (.tuple #[.int .i64 (tmT ns).1, .int .i64 (tmT ns).2, .bool true]) ∧ w.grownBy w' none := by
 have HT := qd fun W (hW : w.grownBy W none) => tmScan_any nv ns W (hn.carry hW) hl
 obtain ⟨na, nc, rfl⟩ := hn.shape
 obtain ⟨⟨hl1, hl2⟩, _⟩ := tmB_tree hb
 obtain ⟨n, hnl⟩ : ∃ n, ns.length = n := ⟨_, rfl⟩
 have HNL := qd hnl
 rw [hb] at HT
 rw [hnl] at HT hl hl1 hl2 ⊢
 obtain ⟨n1, hn1⟩ : ∃ x, x + 1 = n := ⟨n - 1, by omega⟩
 have hty := top_last hb (n1 := n1) (by rw [hnl]; exact hn1)
 have HIv := qd (show (scI ns n).getD n1 0 = (tmT ns).1 from by rw [scI_at (by omega), hty])
 have HOv := qd (show (scO ns n).getD n1 0 = (tmT ns).2 from by rw [scO_at (by omega), hty])
 obtain ⟨p, hp⟩ : ∃ x, (tmT ns).1 = x := ⟨_, rfl⟩
 obtain ⟨q, hq⟩ : ∃ x, (tmT ns).2 = x := ⟨_, rfl⟩
 rw [hp] at HIv ⊢
 rw [hq] at HOv ⊢
 have hwi : IntKind.i64.wrap ((n : Int) - 1) = (n1 : Int) := by rw [wrap_id (by omega) (by omega)]; omega
 have hbi : (n1 : Int) < (n : Int) := by omega
 have HN1 := qd (show n1 < n from by omega)
 have HNP := qd (show 0 < n from by omega)
 have hs0 := (Sep.start w).boxAt w.heap.size rfl #[.slice na n nc] 44
 have HS0 := qd hs0
 have HK0 := qd (show w.grownBy _ none from hs0.tl.hd)
 have x0 := bs1 hs0.hd
 unfold ScanR at HT
 clear hs0 hn hl hnl hn1 hty hp hq hb
 go_enter Tryz.func98, Tryz.ntmps98
 go_upto_region 5 with (
  go_at_call 125
  with_reducible refine (HT.out _ HK0.out).mono ?_
  rintro e w3 ⟨fa, fn, fc, ia, inn, ic, oa, on, oc, rfl, hq, hg⟩
  have hs3 := HS0.out.graft3 (hq rfl) OI_own OI_own OI_own
  rw [HNL.out] at hs3
  have HS4 := qd (hs3.boxAt w3.heap.size rfl #[.slice fa fn fc, .slice ia inn ic, .slice oa on oc] 162)
  clear x0
  have x0 := bs1 HS4.out.tl.tl.tl.tl.hd
  clear hs3 hq hg)
 have e1 := own_lenT (show OwnInts 0 _ (.slice fa fn fc) (scF ns n) from HS4.out.tl.hd)
 have e2 := own_lenT (show OwnInts 0 _ (.slice ia inn ic) (scI ns n) from HS4.out.tl.tl.hd)
 have e3 := own_lenT (show OwnInts 0 _ (.slice oa on oc) (scO ns n) from HS4.out.tl.tl.tl.hd)
 rw [scF_len] at e1
 rw [scI_len] at e2
 rw [scO_len] at e3
 have e1 := e1.symm; have e2 := e2.symm; have e3 := e3.symm
 subst e1 e2 e3
 obtain ⟨ig, hig⟩ := own_someT (show OwnInts 0 _ (.slice ia n ic) (scI ns n) from HS4.out.tl.tl.hd) (by rw [scI_len]; exact HNP.out)
 obtain ⟨og, hog⟩ := own_someT (show OwnInts 0 _ (.slice oa n oc) (scO ns n) from HS4.out.tl.tl.tl.hd) (by rw [scO_len]; exact HNP.out)
 subst hig hog
 generalize w3.alloc (.cells #[.slice fa n fc, .slice (some ⟨ig, 0, none⟩) n ic, .slice (some ⟨og, 0, none⟩) n oc] 162) = w4 at *
 generalize w3.heap.size = xb at *
 clear x0
 have HSD := qd HS4.out.dr
 have c := bs3 HSD.out.hd
 have n2 := own_atT (show OwnInts 0 _ _ (scI ns n) from HSD.out.tl.tl.hd) (scI_len ns n).symm HN1.out
 have n3 := own_atT (show OwnInts 0 _ _ (scO ns n) from HSD.out.tl.tl.tl.hd) (scO_len ns n).symm HN1.out
 rw [HIv.out] at n2
 rw [HOv.out] at n3
 have X0 := qd (show (w4.drew.cell? ⟨xb, 1, none⟩ = some (.slice (some ⟨ig, 0, none⟩) n ic) ∧ w4.drew.cell? ⟨xb, 2, none⟩ = some (.slice (some ⟨og, 0, none⟩) n oc)) ∧ w4.drew.cell? ⟨ig, n1, none⟩ = some (.int .i64 p) ∧ w4.drew.cell? ⟨og, n1, none⟩ = some (.int .i64 q) from ⟨⟨c.2.1, c.2.2.1⟩, n2, n3⟩)
 have HKF := qd (show w.grownBy w4.drew none from HSD.out.tl.tl.tl.tl.tl.hd)
 clear c n2 n3
 refine AnyL.start (fun W1 => (W1.cell? ⟨xb, 1, none⟩ = some (.slice (some ⟨ig, 0, none⟩) n ic) ∧ W1.cell? ⟨xb, 2, none⟩ = some (.slice (some ⟨og, 0, none⟩) n oc)) ∧ W1.cell? ⟨ig, n1, none⟩ = some (.int .i64 p) ∧ W1.cell? ⟨og, n1, none⟩ = some (.int .i64 q)) (fun _ => True) 99 (by kernel_rfl) ?_
 generalize w4.drew = w5 at *
 refine AnyL.tT 0 (by exact X0.out) ?_
 refine AnyL.tT 1 (by exact X0.out) ?_
 refine AnyL.tT 2 (by exact X0.out) ?_
 refine AnyL.tT 3 (by exact X0.out) ?_
 refine AnyL.tT 4 (by exact X0.out) ?_
 refine AnyL.tT 5 (by exact X0.out) ?_
 refine AnyL.tT 6 (by exact X0.out) ?_
 refine AnyL.tT 7 (by exact X0.out) ?_
 refine AnyL.tT 8 (by exact X0.out) ?_
 refine AnyL.tT 9 (by exact X0.out) ?_
 refine AnyL.tT 10 (by exact X0.out) ?_
 refine AnyL.tT 11 (by exact X0.out) ?_
 refine AnyL.tT 12 (by exact X0.out) ?_
 refine AnyL.done (by kernel_rfl) ?_ _
 go_wp2_with fail
 refine bodyPost_ret_by (v := .tuple #[.int .i64 p, .int .i64 q, .bool true]) ?_ rfl ⟨rfl, HKF.out⟩
 simp [results, go_sem, *]
def zgV : Value := .agg #[.int .i64 0, .slice none 0 0, .slice none 0 0, .slice none 0 0]
set_option maxHeartbeats 2000000 in
theorem hgIf_any (ev iv ov : Value) (g : Gr) (w : World) (he : RdE edgeE w ev g.es) (hi : IntsV w iv g.i) (ho : IntsV w ov g.o) (l0 : g.es.length ≤ 2000000) (l1 : g.i.length ≤ 2000000) (l2 : g.o.length ≤ 2000000) :
 Calls Tryz.prog 31 #[grV g.n ev iv ov] w fun e w' => e = .returned (.tuple #[if grB g = true then grV g.n ev iv ov else zgV, .bool (grB g)]) ∧ w.grownBy w' none := by
 have HV := qd fun W (hW : w.grownBy W none) => hgValid_any ev iv ov g W (he.carry hW) (hi.carry hW) (ho.carry hW) l0 l1 l2
 obtain ⟨b, hb⟩ : ∃ b, grB g = b := ⟨_, rfl⟩
 rw [hb] at HV ⊢
 obtain ⟨ea, ec, rfl⟩ := he.shape
 obtain ⟨ia, ic, rfl⟩ := hi.shape
 obtain ⟨oa, oc, rfl⟩ := ho.shape
 unfold grV at *
 clear he hi ho hb l0 l1 l2
 generalize g.n = n at *
 generalize g.es.length = ne at *
 generalize g.i.length = ni at *
 generalize g.o.length = no at *
 have HS0 := qd (((Sep.start w).boxAt w.heap.size rfl #[.int .i64 n, .slice ea ne ec, .slice ia ni ic, .slice oa no oc] 38).boxAt (w.heap.size + 1) (by simp) #[.int .i64 0, .slice none 0 0, .slice none 0 0, .slice none 0 0] 38)
 obtain ⟨x0, x1, x2, x3, _⟩ := gq4 HS0.out.tl.hd
 have HK0 := qd (show w.grownBy _ none from HS0.out.tl.tl.hd)
 unfold zgV
 cases b
 ·go_enter Tryz.func31, Tryz.ntmps31
  go_wp2_with (
   go_at_call 52
   with_reducible refine (HV.out _ HK0.out).mono ?_
   rintro e w3 ⟨rfl, hg⟩
   have hs1 := HS0.out.grown hg
   obtain ⟨y0, y1, y2, y3, f0, f1, f2, f3⟩ := gq4 hs1.hd
   obtain ⟨q0, q1, q2, q3, _⟩ := gq4 hs1.tl.hd
   have hsz := (((hs1.setB 0 (.int .i64 0)).setB 1 (.slice none 0 0)).setB 2 (.slice none 0 0)).setB 3 (.slice none 0 0)
   obtain ⟨z0, z1, z2, z3, _⟩ := gq4 hsz.hd
   have HKF := qd (show w.grownBy _ none from hsz.tl.tl.hd)
   clear hs1 hsz hg x0 x1 x2 x3)
  refine bodyPost_ret_by (v := .tuple #[.agg #[.int .i64 0, .slice none 0 0, .slice none 0 0, .slice none 0 0], .bool false]) ?_ rfl ⟨rfl, HKF.out⟩
  simp [results, go_sem, *]
 ·go_enter Tryz.func31, Tryz.ntmps31
  go_wp2_with (
   go_at_call 52
   with_reducible refine (HV.out _ HK0.out).mono ?_
   rintro e w3 ⟨rfl, hg⟩
   have hs1 := HS0.out.grown hg
   obtain ⟨y0, y1, y2, y3, f0, f1, f2, f3⟩ := gq4 hs1.hd
   obtain ⟨q0, q1, q2, q3, _⟩ := gq4 hs1.tl.hd
   have hsz := (((hs1.setB 0 (.int .i64 n)).setB 1 (.slice ea ne ec)).setB 2 (.slice ia ni ic)).setB 3 (.slice oa no oc)
   obtain ⟨z0, z1, z2, z3, _⟩ := gq4 hsz.hd
   have HKF := qd (show w.grownBy _ none from hsz.tl.tl.hd)
   clear hs1 hsz hg x0 x1 x2 x3)
  refine bodyPost_ret_by (v := .tuple #[.agg #[.int .i64 n, .slice ea ne ec, .slice ia ni ic, .slice oa no oc], .bool true]) ?_ rfl ⟨rfl, HKF.out⟩
  simp [results, go_sem, *]
theorem tmTop_any (nv : Value) (ns : List Nd) (w : World) (hn : RdR nodeE w nv ns) (h1 : 1 ≤ ns.length) (h2 : ns.length ≤ 2000000) :
 Calls Tryz.prog 129 #[.agg #[nv]] w fun e w' => e = .returned (.int .i64 (ns.getD (ns.length - 1) nd0).k) ∧ w.grownBy w' none := by
 obtain ⟨na, nc, rfl⟩ := hn.shape
 have HN := qd hn
 obtain ⟨m, hml⟩ : ∃ m, ns.length = m := ⟨_, rfl⟩
 have HML := qd hml
 rw [hml] at HN h1 h2 ⊢
 obtain ⟨n, hnm⟩ : ∃ n, m - 1 = n := ⟨_, rfl⟩
 rw [hnm]
 have hs0 := (Sep.start w).boxAt w.heap.size rfl #[.slice na m nc] 44
 have hk0 := (show w.grownBy _ none from hs0.tl.hd)
 obtain ⟨nb, no, rfl, _, q0, q1, q2⟩ := (HN.out.carry hk0).node rfl rfl (i := n) (by rw [hml]; omega)
 have x0 := bs1 hs0.hd
 have HK0 := qd hk0
 generalize ns.getD n nd0 = y at *
 obtain ⟨k, v, s⟩ := y
 simp only at q0 q1 q2 ⊢
 have hwi : IntKind.i64.wrap ((m : Int) - 1) = (n : Int) := by rw [wrap_id (by omega) (by omega)]; omega
 have hbi : (n : Int) < (m : Int) := by omega
 have hbn : n < m := by omega
 clear hs0 hk0 hml hn h1 hnm
 go_enter Tryz.func129, Tryz.ntmps129
 go_wp2_with fail
 go_ret
 exact ⟨rfl, HK0.out⟩
theorem bs1f {w : World} {k : Nat} {x : Value} {t : TypeId} (h : w.heap[k]? = some (.cells #[x] t (0, 0))) : w.cell? ⟨k, 0, none⟩ = some x ∧ w.frozen? ⟨k, 0, none⟩ = false := ⟨cell_of_row w k 0 _ _ _ h, frozen_of_row w k 0 _ _ h⟩
theorem node_oneT (ys : List Nd) : ∀ y ∈ ys, ∀ u ∈ nodeE.cs y, u.oneCell' = true := by
 intro y _ u hu
 simp only [nodeE, nodeC, List.mem_cons, List.not_mem_nil, or_false] at hu
 rcases hu with rfl | rfl | rfl <;> rfl
theorem info_node : (Tryz.prog.info? nodeE.ty).map (fun i => (i.zero, i.size, i.bytes)) = some (some (.agg #[.int .i64 0, .int .i64 0, .string noS]), nodeE.sz, 32) := by kernel_rfl
theorem tmOwn_any (nv : Value) (ns : List Nd) (w : World) (hn : RdR nodeE w nv ns) (hl : ns.length ≤ 2000000) :
 Calls Tryz.prog 147 #[nv] w fun e w' => ∃ a c, e = .returned (.agg #[.slice a ns.length c]) ∧ Sep w' [OR nodeE (.slice a ns.length c) ns, KeepA w] := by
 obtain ⟨na, nc, rfl⟩ := hn.shape
 have HN := qd hn
 have HL := qd hl
 have hs0 := (Sep.start w).boxAt w.heap.size rfl #[.slice none 0 0] 44
 have HS1 := qd (show Sep ((w.alloc (.cells #[.slice none 0 0] 44)).alloc (.cells #[] 145)) _ from Sep.emptyRT nodeE hs0 (w.heap.size + 1) (by simp))
 clear hs0 hn hl
 obtain ⟨n, hnl⟩ : ∃ n, ns.length = n := ⟨_, rfl⟩
 have HNL := qd hnl
 rw [hnl]
 rw [hnl] at HN HL
 clear hnl
 have HR := qd (HN.out.carry (show w.grownBy _ none from HS1.out.tl.tl.hd))
 go_enter Tryz.func147, Tryz.ntmps147
 go_wp2_with (
  at_builtin
  go_loud (
  refine app_RsG (E := nodeE) info_node rfl (by decide) Tryz.underlying42 (node_oneT ns) rfl (.tmp 3) (.tmp 4) rfl rfl rfl HS1.out HR.out (by rw [HNL.out]; have := HL.out; simp; omega) ?_
  intro v1 w1 h1
  rw [List.nil_append] at h1
  obtain ⟨ga, gc, rfl⟩ := OwnR.shape (show OwnR nodeE 0 _ v1 ns from h1.hd)
  rw [HNL.out] at h1
  rw [HNL.out]
  have h2 := Sep.blk (A := [_]) (B := [_]) h1
  have f0 := (bs1f h2.hd).1
  have f1 := (bs1f h2.hd).2
  have h3 := h2.setB 0 (.slice ga n gc)
  have f2 := (bs1f h3.hd).1
  have HSF := qd h3.tl
  clear h1 h2 h3))
 refine bodyPost_ret_by (v := .agg #[.slice ga n gc]) ?_ rfl ⟨_, _, rfl, HSF.out⟩
 simp [results, go_sem, *]
noncomputable def rlB (s : ByteArray) (x y : List Nd) : Bool := (tmB x && tmB y) && (decide (tmT x = tmT y) && (nameB s && (okT x && okT y)))
theorem wires_neq (a b c d : Int) (w : World) : (binOp .neq 149 (.agg #[.int .i64 a, .int .i64 b]) (.agg #[.int .i64 c, .int .i64 d])).run Tryz.prog w = .ok (.bool (!(a == c && b == d))) w := by
 by_cases h1 : a = c <;> by_cases h2 : b = d <;> simp [go_sem, *]
def ruleV (s : ByteArray) (xv yv : Value) : Value := .agg #[.string s, xv, yv]
theorem made_bool {b : Bool} {K : Gr} {w : World} {e : Ending} {w' : World} (h : MadeR b K w e w') : ∃ v, e = .returned (.tuple #[v, .bool b]) ∧ w.grownBy w' none := by
 obtain ⟨u0, xs, u1, u2, he, hx, hs⟩ := h
 exact ⟨_, he, hs.tl.tl.tl.hd⟩
set_option maxHeartbeats 4000000 in
theorem isRule_any (s : ByteArray) (x y : List Nd) (xv yv : Value) (w : World) (hx : RdR nodeE w xv x) (hy : RdR nodeE w yv y) (hxl : x.length ≤ 2000000) (hyl : y.length ≤ 2000000) (hs : s.size ≤ 1000000000000) :
 Calls Tryz.prog 67 #[ruleV s xv yv] w fun e w' => e = .returned (.bool (rlB s x y)) ∧ w.grownBy w' none := by
 have HTX := qd fun W (hW : w.grownBy W none) => twires_any xv x W (hx.carry hW) hxl
 have HTY := qd fun W (hW : w.grownBy W none) => twires_any yv y W (hy.carry hW) hyl
 have HNM := qd fun W => isName_any s W hs
 have HGX := qd fun (hb : tmB x = true) W (hW : w.grownBy W none) => show Calls Tryz.prog 109 #[.agg #[xv]] W (fun e w' => ∃ v, e = .returned (.tuple #[v, .bool (okT x)]) ∧ W.grownBy w' none) from by
  obtain ⟨⟨b1, b2⟩, t, hok, hno, hp⟩ := tmB_tree hb
  obtain ⟨e1, e2, _⟩ := tree_eq hp
  rw [e1]
  exact (graphOf_any xv x t W (hx.carry hW) hp b1 b2).mono fun e w' h => made_bool h
 have HGY := qd fun (hb : tmB y = true) W (hW : w.grownBy W none) => show Calls Tryz.prog 109 #[.agg #[yv]] W (fun e w' => ∃ v, e = .returned (.tuple #[v, .bool (okT y)]) ∧ W.grownBy w' none) from by
  obtain ⟨⟨b1, b2⟩, t, hok, hno, hp⟩ := tmB_tree hb
  obtain ⟨e1, e2, _⟩ := tree_eq hp
  rw [e1]
  exact (graphOf_any yv y t W (hy.carry hW) hp b1 b2).mono fun e w' h => made_bool h
 obtain ⟨xa, xc, rfl⟩ := hx.shape
 obtain ⟨ya, yc, rfl⟩ := hy.shape
 generalize x.length = n at *
 generalize y.length = m at *
 obtain ⟨⟨pa, pb⟩, hp⟩ : ∃ q, tmT x = q := ⟨_, rfl⟩
 obtain ⟨⟨qa, qb⟩, hq⟩ : ∃ q, tmT y = q := ⟨_, rfl⟩
 have HRL := qd (show rlB s x y = ((tmB x && tmB y) && (decide ((pa, pb) = (qa, qb)) && (nameB s && (okT x && okT y)))) from by unfold rlB; rw [hp, hq])
 rw [hp] at HTX
 rw [hq] at HTY
 unfold ruleV
 unfold TyR at HTX HTY
 generalize rlB s x y = rb at *
 have hwn := wires_neq
 clear hp hq hx hy hxl hyl hs
 have HS0 := qd ((Sep.start w).boxAt w.heap.size rfl #[.string s, .slice xa n xc, .slice ya m yc] 46)
 have HK0 := qd (show w.grownBy _ none from HS0.out.tl.hd)
 obtain ⟨x0, x1, x2⟩ := bw3 HS0.out.hd
 cases h1 : tmB x
 ·rw [h1] at HTX
  obtain rfl : rb = false := by rw [HRL.out, h1]; simp
  clear h1
  go_enter Tryz.func67, Tryz.ntmps67
  go_wp2_with (first
   |(go_at_call 107
     with_reducible refine (HTX.out _ HK0.out).mono ?_
     rintro e w3 ⟨⟨⟨ta, tb⟩, rfl, ht⟩, hg⟩
     have HTA := qd ht
     have HS1 := qd (Sep.blk (A := [_]) (B := [_]) ((HS0.out.grown hg).boxAt w3.heap.size rfl #[.int .i64 ta, .int .i64 tb] 149))
     clear hg ht x0 x1 x2
     obtain ⟨x0, x1, x2⟩ := bw3 HS1.out.hd
     have HK1 := qd (show w.grownBy _ none from HS1.out.tl.tl.hd))
   |(go_at_call 107
     with_reducible refine (HTY.out _ HK1.out).mono ?_
     rintro e w4 ⟨⟨⟨tc, td⟩, rfl, ht⟩, hg⟩
     have HTB := qd ht
     have HS2 := qd (Sep.blk (A := [_]) (B := [_]) ((HS1.out.grown hg).boxAt w4.heap.size rfl #[.int .i64 tc, .int .i64 td] 149))
     clear hg ht x0 x1 x2
     obtain ⟨x0, x1, x2⟩ := bw3 HS2.out.hd
     have HK2 := qd (show w.grownBy _ none from HS2.out.tl.tl.tl.hd)))
  go_ret
  exact ⟨rfl, HK2.out⟩
 ·cases h2 : tmB y
  ·rw [h1] at HTX
   rw [h2] at HTY
   obtain rfl : rb = false := by rw [HRL.out, h2]; simp
   clear h1 h2
   go_enter Tryz.func67, Tryz.ntmps67
   go_wp2_with (first
    |(go_at_call 107
      with_reducible refine (HTX.out _ HK0.out).mono ?_
      rintro e w3 ⟨⟨⟨ta, tb⟩, rfl, ht⟩, hg⟩
      have HTA := qd ht
      have HS1 := qd (Sep.blk (A := [_]) (B := [_]) ((HS0.out.grown hg).boxAt w3.heap.size rfl #[.int .i64 ta, .int .i64 tb] 149))
      clear hg ht x0 x1 x2
      obtain ⟨x0, x1, x2⟩ := bw3 HS1.out.hd
      have HK1 := qd (show w.grownBy _ none from HS1.out.tl.tl.hd))
    |(go_at_call 107
      with_reducible refine (HTY.out _ HK1.out).mono ?_
      rintro e w4 ⟨⟨⟨tc, td⟩, rfl, ht⟩, hg⟩
      have HTB := qd ht
      have HS2 := qd (Sep.blk (A := [_]) (B := [_]) ((HS1.out.grown hg).boxAt w4.heap.size rfl #[.int .i64 tc, .int .i64 td] 149))
      clear hg ht x0 x1 x2
      obtain ⟨x0, x1, x2⟩ := bw3 HS2.out.hd
      have HK2 := qd (show w.grownBy _ none from HS2.out.tl.tl.tl.hd)))
   go_ret
   exact ⟨rfl, HK2.out⟩
  ·rw [h1] at HTX
   rw [h2] at HTY
   have HGX2 := qd (HGX.out h1)
   have HGY2 := qd (HGY.out h2)
   rw [h1, h2] at HRL
   clear h1 h2 HGX HGY
   by_cases h3 : (pa, pb) = (qa, qb)
   ·obtain ⟨e1, e2⟩ : pa = qa ∧ pb = qb := by injection h3 with e1 e2; exact ⟨e1, e2⟩
    subst e1 e2
    have HEQ := qd (show (pa == pa && pb == pb) = true from by simp)
    rw [decide_eq_true rfl] at HRL
    clear h3
    cases h4 : nameB s
    ·rw [h4] at HNM
     obtain rfl : rb = false := by rw [HRL.out, h4]; simp
     clear h4
     go_enter Tryz.func67, Tryz.ntmps67
     go_upto_region 3 with (first
      |(go_at_call 107
        with_reducible refine (HTX.out _ HK0.out).mono ?_
        rintro e w3 ⟨⟨⟨ta, tb⟩, rfl, ht⟩, hg⟩
        have HTA := qd ht
        have HS1 := qd (Sep.blk (A := [_]) (B := [_]) ((HS0.out.grown hg).boxAt w3.heap.size rfl #[.int .i64 ta, .int .i64 tb] 149))
        clear hg ht x0 x1 x2
        obtain ⟨x0, x1, x2⟩ := bw3 HS1.out.hd
        have HK1 := qd (show w.grownBy _ none from HS1.out.tl.tl.hd))
      |(go_at_call 107
        with_reducible refine (HTY.out _ HK1.out).mono ?_
        rintro e w4 ⟨⟨⟨tc, td⟩, rfl, ht⟩, hg⟩
        have HTB := qd ht
        have HS2 := qd (Sep.blk (A := [_]) (B := [_]) ((HS1.out.grown hg).boxAt w4.heap.size rfl #[.int .i64 tc, .int .i64 td] 149))
        clear hg ht x0 x1 x2
        obtain ⟨x0, x1, x2⟩ := bw3 HS2.out.hd
        have HK2 := qd (show w.grownBy _ none from HS2.out.tl.tl.tl.hd)))
     obtain ⟨e1, e2⟩ : ta = pa ∧ tb = pb := by have h := HTA.out; simpa using h
     obtain ⟨e3, e4⟩ : tc = _ ∧ td = _ := by have h := HTB.out; simpa using h
     subst e1 e2 e3 e4
     obtain ⟨t0, t1, _⟩ := bw2 HS2.out.tl.hd
     obtain ⟨t2, t3, _⟩ := bw2 HS2.out.tl.tl.hd
     have heq := HEQ.out
     go_wp2_with (first
      |(go_at_call 108
        with_reducible refine (HNM.out _).mono ?_
        rintro e w5 ⟨rfl, hg⟩
        have HS3 := qd (HS2.out.grown hg)
        clear hg x0 x1 x2
        obtain ⟨x0, x1, x2⟩ := bw3 HS3.out.hd
        have HK3 := qd (show w.grownBy _ none from HS3.out.tl.tl.tl.hd)))
     go_ret
     exact ⟨rfl, HK3.out⟩
    ·rw [h4] at HNM HRL
     clear h4
     generalize okT x = o1 at *
     generalize okT y = o2 at *
     have HRB := qd (show rb = (o1 && o2) from by rw [HRL.out]; simp)
     cases o1
     ·go_enter Tryz.func67, Tryz.ntmps67
      go_upto_region 3 with (first
       |(go_at_call 107
         with_reducible refine (HTX.out _ HK0.out).mono ?_
         rintro e w3 ⟨⟨⟨ta, tb⟩, rfl, ht⟩, hg⟩
         have HTA := qd ht
         have HS1 := qd (Sep.blk (A := [_]) (B := [_]) ((HS0.out.grown hg).boxAt w3.heap.size rfl #[.int .i64 ta, .int .i64 tb] 149))
         clear hg ht x0 x1 x2
         obtain ⟨x0, x1, x2⟩ := bw3 HS1.out.hd
         have HK1 := qd (show w.grownBy _ none from HS1.out.tl.tl.hd))
       |(go_at_call 107
         with_reducible refine (HTY.out _ HK1.out).mono ?_
         rintro e w4 ⟨⟨⟨tc, td⟩, rfl, ht⟩, hg⟩
         have HTB := qd ht
         have HS2 := qd (Sep.blk (A := [_]) (B := [_]) ((HS1.out.grown hg).boxAt w4.heap.size rfl #[.int .i64 tc, .int .i64 td] 149))
         clear hg ht x0 x1 x2
         obtain ⟨x0, x1, x2⟩ := bw3 HS2.out.hd
         have HK2 := qd (show w.grownBy _ none from HS2.out.tl.tl.tl.hd)))
      obtain ⟨e1, e2⟩ : ta = pa ∧ tb = pb := by have h := HTA.out; simpa using h
      obtain ⟨e3, e4⟩ : tc = _ ∧ td = _ := by have h := HTB.out; simpa using h
      subst e1 e2 e3 e4
      obtain ⟨t0, t1, _⟩ := bw2 HS2.out.tl.hd
      obtain ⟨t2, t3, _⟩ := bw2 HS2.out.tl.tl.hd
      have heq := HEQ.out
      go_wp2_with (first
       |(go_at_call 108
         with_reducible refine (HNM.out _).mono ?_
         rintro e w5 ⟨rfl, hg⟩
         have HS3 := qd (HS2.out.grown hg)
         clear hg x0 x1 x2
         obtain ⟨x0, x1, x2⟩ := bw3 HS3.out.hd
         have HK3 := qd (show w.grownBy _ none from HS3.out.tl.tl.tl.hd))
       |(go_at_call 109
         with_reducible refine (HGX2.out _ HK3.out).mono ?_
         rintro e w6 ⟨gv, rfl, hg⟩
         have HS4 := qd (HS3.out.grown hg)
         clear hg x0 x1 x2
         obtain ⟨x0, x1, x2⟩ := bw3 HS4.out.hd
         have HK4 := qd (show w.grownBy _ none from HS4.out.tl.tl.tl.hd))
       |(go_at_call 109
         with_reducible refine (HGY2.out _ HK4.out).mono ?_
         rintro e w7 ⟨gu, rfl, hg⟩
         have HK5 := qd (grownBy_trans HK4.out hg)
         clear hg))
      go_ret
      exact ⟨by rw [HRB.out]; rfl, HK5.out⟩
     ·go_enter Tryz.func67, Tryz.ntmps67
      go_upto_region 3 with (first
       |(go_at_call 107
         with_reducible refine (HTX.out _ HK0.out).mono ?_
         rintro e w3 ⟨⟨⟨ta, tb⟩, rfl, ht⟩, hg⟩
         have HTA := qd ht
         have HS1 := qd (Sep.blk (A := [_]) (B := [_]) ((HS0.out.grown hg).boxAt w3.heap.size rfl #[.int .i64 ta, .int .i64 tb] 149))
         clear hg ht x0 x1 x2
         obtain ⟨x0, x1, x2⟩ := bw3 HS1.out.hd
         have HK1 := qd (show w.grownBy _ none from HS1.out.tl.tl.hd))
       |(go_at_call 107
         with_reducible refine (HTY.out _ HK1.out).mono ?_
         rintro e w4 ⟨⟨⟨tc, td⟩, rfl, ht⟩, hg⟩
         have HTB := qd ht
         have HS2 := qd (Sep.blk (A := [_]) (B := [_]) ((HS1.out.grown hg).boxAt w4.heap.size rfl #[.int .i64 tc, .int .i64 td] 149))
         clear hg ht x0 x1 x2
         obtain ⟨x0, x1, x2⟩ := bw3 HS2.out.hd
         have HK2 := qd (show w.grownBy _ none from HS2.out.tl.tl.tl.hd)))
      obtain ⟨e1, e2⟩ : ta = pa ∧ tb = pb := by have h := HTA.out; simpa using h
      obtain ⟨e3, e4⟩ : tc = _ ∧ td = _ := by have h := HTB.out; simpa using h
      subst e1 e2 e3 e4
      obtain ⟨t0, t1, _⟩ := bw2 HS2.out.tl.hd
      obtain ⟨t2, t3, _⟩ := bw2 HS2.out.tl.tl.hd
      have heq := HEQ.out
      go_wp2_with (first
       |(go_at_call 108
         with_reducible refine (HNM.out _).mono ?_
         rintro e w5 ⟨rfl, hg⟩
         have HS3 := qd (HS2.out.grown hg)
         clear hg x0 x1 x2
         obtain ⟨x0, x1, x2⟩ := bw3 HS3.out.hd
         have HK3 := qd (show w.grownBy _ none from HS3.out.tl.tl.tl.hd))
       |(go_at_call 109
         with_reducible refine (HGX2.out _ HK3.out).mono ?_
         rintro e w6 ⟨gv, rfl, hg⟩
         have HS4 := qd (HS3.out.grown hg)
         clear hg x0 x1 x2
         obtain ⟨x0, x1, x2⟩ := bw3 HS4.out.hd
         have HK4 := qd (show w.grownBy _ none from HS4.out.tl.tl.tl.hd))
       |(go_at_call 109
         with_reducible refine (HGY2.out _ HK4.out).mono ?_
         rintro e w7 ⟨gu, rfl, hg⟩
         have HK5 := qd (grownBy_trans HK4.out hg)
         clear hg))
      go_ret
      exact ⟨by rw [HRB.out]; simp, HK5.out⟩
   ·obtain rfl : rb = false := by rw [HRL.out, decide_eq_false h3]; simp
    have HEQ := qd (show (pa == qa && pb == qb) = false from by rw [Bool.eq_false_iff]; intro h; rw [Bool.and_eq_true, beq_iff_eq, beq_iff_eq] at h; exact h3 (by rw [h.1, h.2]))
    clear h3
    go_enter Tryz.func67, Tryz.ntmps67
    go_upto_region 3 with (first
     |(go_at_call 107
       with_reducible refine (HTX.out _ HK0.out).mono ?_
       rintro e w3 ⟨⟨⟨ta, tb⟩, rfl, ht⟩, hg⟩
       have HTA := qd ht
       have HS1 := qd (Sep.blk (A := [_]) (B := [_]) ((HS0.out.grown hg).boxAt w3.heap.size rfl #[.int .i64 ta, .int .i64 tb] 149))
       clear hg ht x0 x1 x2
       obtain ⟨x0, x1, x2⟩ := bw3 HS1.out.hd
       have HK1 := qd (show w.grownBy _ none from HS1.out.tl.tl.hd))
     |(go_at_call 107
       with_reducible refine (HTY.out _ HK1.out).mono ?_
       rintro e w4 ⟨⟨⟨tc, td⟩, rfl, ht⟩, hg⟩
       have HTB := qd ht
       have HS2 := qd (Sep.blk (A := [_]) (B := [_]) ((HS1.out.grown hg).boxAt w4.heap.size rfl #[.int .i64 tc, .int .i64 td] 149))
       clear hg ht x0 x1 x2
       obtain ⟨x0, x1, x2⟩ := bw3 HS2.out.hd
       have HK2 := qd (show w.grownBy _ none from HS2.out.tl.tl.tl.hd)))
    obtain ⟨e1, e2⟩ : ta = pa ∧ tb = pb := by have h := HTA.out; simpa using h
    obtain ⟨e3, e4⟩ : tc = _ ∧ td = _ := by have h := HTB.out; simpa using h
    subst e1 e2 e3 e4
    obtain ⟨t0, t1, _⟩ := bw2 HS2.out.tl.hd
    obtain ⟨t2, t3, _⟩ := bw2 HS2.out.tl.tl.hd
    have heq := HEQ.out
    go_wp2_with fail
    go_ret
    exact ⟨rfl, HK2.out⟩
end Go.Proofs.YtjagjhchnpmngaaGreat

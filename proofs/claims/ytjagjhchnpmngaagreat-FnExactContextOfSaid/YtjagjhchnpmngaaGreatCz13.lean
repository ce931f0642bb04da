/-
 Is a graph monogamous, in the program. Conditions: lengths are small.
-/
import Derived.Test.YtjagjhchnpmngaaGreatCz05
import Derived.Test.YtjagjhchnpmngaaGreatCz04
import Derived.Test.YtjagjhchnpmngaaGreatCz03
import Derived.Test.YtjagjhchnpmngaaGreatCz02
import Derived.Test.YtjagjhchnpmngaaGreatCz01
import Derived.Test.YtjagjhchnpmngaaGreatCz12
import Derived.Test.YtjagjhchnpmngaaGreatCz11
import Derived.Test.YtjagjhchnpmngaaGreatCz06
import Derived.Test.YtjagjhchnpmngaaGreatCz00
set_option linter.unusedVariables false
set_option linter.unusedSimpArgs false
set_option maxRecDepth 100000
namespace Go.Proofs.YtjagjhchnpmngaaGreat
open Go.RowKit
theorem row_own {w : World} {l : List Asrt} (h : Sep w l) (a : Option Addr) (n c : Nat) (is : List Int) (b : Nat) (hb : b = w.heap.size) :
 Sep (w.alloc (.cells #[.slice a n c] 23)) (OR rowE (.slice (some ⟨b, 0, none⟩) 1 1) [⟨.slice a n c, is⟩] :: l) := by
 subst hb
 refine h.newR (grownBy_alloc w _ none) ?_
 refine ⟨rfl, Or.inr ⟨w.heap.size, 1, #[.slice a n c], rfl, Nat.le_refl _, ?_, Nat.le_refl _, ?_, rfl, rfl⟩⟩
 ·exact alloc_heap_new _ _
 ·decide
section
variable {α : Type} {E : Lay α} {ops : Array Oper} {rest : List Oper} {o : Oper} {a : Act} {Q : Exit → Act → World → Prop} {w : World} {v : Value} {xs : List α} {l : List Asrt} {y : α} {t : TypeId} {z : Value} {bytes b : Nat}
theorem app_RB (hinfo : (Tryz.prog.info? E.ty).map (fun i => (i.zero, i.size, i.bytes)) = some (some z, E.sz, bytes)) (hzs : z.cells.size = E.sz) (hby : bytes ≤ 10000) (ht : Tryz.prog.underlying t = some (.slice E.ty)) (hone : ∀ u ∈ E.cs y, u.oneCell' = true)
 (hgd : o.guard = none) (s x : Operand) (ho : o.op = .call { callee := .builtin .append, args := #[s, x], argTypes := #[t, t] })
 (hs : a.eval s = v) (hx : a.eval x = .slice (some ⟨b, 0, none⟩) 1 1) (hb : b = w.heap.size) {cs : Array Value} (hcs : cs.toList = E.cs y) (H : Sep w (OR E v xs :: l)) (hl : xs.length ≤ 10000000)
 (h : ∀ g cap w', Sep w' (OR E (.slice (some ⟨g, 0, none⟩) (xs.length + 1) cap) (xs ++ [y]) :: l) → wpList Tryz.prog ops Q rest (a.put o.dst (.slice (some ⟨g, 0, none⟩) (xs.length + 1) cap)) w') :
 wpList Tryz.prog ops Q (o :: rest) a (w.alloc (.cells cs E.ty)) := by
 subst hb
 exact app_R hinfo hzs hby ht hone hgd s x ho hs hx hcs H hl h
end
theorem joinL_snoc (xs : List RX) (x : RX) : joinL (xs ++ [x]) = joinL xs ++ x.zs := by unfold joinL; rw [List.flatMap_append]; simp
theorem RdL.of {w : World} {v : Value} {xs : List RX} (h : (OR rowE v xs).holds w) (hi : ∀ x ∈ xs, IntsV w x.v x.zs) : RdL w v xs := ⟨OwnR.read (show OwnR rowE 0 w v xs from h), hi⟩
theorem grB_n {g : Gr} (h : grB g = true) : ∃ m : Nat, g.n = m ∧ m ≤ 100 ∧ g.es.length ≤ 60 ∧ g.i.length ≤ 12 ∧ g.o.length ≤ 12 ∧ rngB g.n (wiresL g) = true ∧ (∀ e ∈ g.es, e.i.length ≤ 2 ∧ e.o.length ≤ 2) ∧ g.es.all edB = true := by
 have h0 := h
 rw [grB_spec] at h
 simp only [Bool.and_eq_true, decide_eq_true_iff] at h
 obtain ⟨h1, h2, h3, h4, h5, h6, h7, h8⟩ := h
 rw [inB_iff] at h1
 obtain ⟨m, hm⟩ := Int.eq_ofNat_of_zero_le h1.1
 refine ⟨m, hm, by omega, h2, h3, h4, ?_, edge_small h7, ?_⟩
 ·unfold grB at h0
  simp only [Bool.and_eq_true] at h0
  exact h0.1.2
 ·unfold grB at h0
  simp only [Bool.and_eq_true] at h0
  exact h0.1.1.2
set_option maxHeartbeats 4000000 in
theorem isMonogamous_any (ev iv ov : Value) (g : Gr) (w : World) (he : RdE edgeE w ev g.es) (hi : IntsV w iv g.i) (ho : IntsV w ov g.o) (l0 : g.es.length ≤ 2000000) (l1 : g.i.length ≤ 2000000) (l2 : g.o.length ≤ 2000000) :
 Calls Tryz.prog 66 #[grV g.n ev iv ov] w fun e w' => e = .returned (.bool (grB g && monB g)) ∧ w.grownBy w' none := by
 have HIG := qd fun W (h : w.grownBy W none) => isGraph_any ev iv ov g W (he.carry h) (hi.carry h) (ho.carry h) l0 l1 l2
 have HE := qd he; have HI := qd hi; have HO := qd ho
 unfold grV at *
 obtain ⟨ea, ec, rfl⟩ := he.shape
 obtain ⟨ia, ic, rfl⟩ := hi.shape
 obtain ⟨oa, oc, rfl⟩ := ho.shape
 clear he hi ho l0 l1 l2
 have HS0 := qd ((Sep.start w).box #[.int .i64 g.n, .slice ea g.es.length ec, .slice ia g.i.length ic, .slice oa g.o.length oc] 38)
 have HK0 := qd (show w.grownBy _ none from HS0.out.tl.hd)
 cases hb : grB g
 ·rw [hb] at HIG
  rw [Bool.false_and]
  clear hb
  generalize g.es.length = m0 at *
  generalize g.i.length = m1 at *
  generalize g.o.length = m2 at *
  generalize g.n = n at *
  go_enter Tryz.func66, Tryz.ntmps66
  go_wp2_with (
   go_at_call 42
   with_reducible refine (HIG.out _ HK0.out).mono ?_
   rintro e w2 ⟨rfl, hg⟩
   have HK2 := qd (grownBy_trans HK0.out hg)
   clear hg)
  go_ret
  exact ⟨rfl, HK2.out⟩
 ·rw [hb] at HIG
  rw [Bool.true_and]
  obtain ⟨m, hm, hm1, hg1, hg2, hg3, hg4, hg5, _⟩ := grB_n hb
  clear hb
  obtain ⟨gn, es, is, os⟩ := g
  rw [show monB ⟨gn, es, is, os⟩ = (permB (is ++ outE es) gn && permB (os ++ inE es) gn) from rfl]
  simp only at *
  subst hm
  have HLE := qd hg5
  have HES := qd hg1
  have hlo : ∀ k, (outE (es.take k)).length ≤ 120 := by
   intro k
   have h1 := outE_le es k
   have h2 := flat_small (fun e => e.o) es (fun e he => (hg5 e he).2)
   unfold outE at h1 ⊢
   omega
  have hli : ∀ k, (inE (es.take k)).length ≤ 120 := by
   intro k
   have h1 := inE_le es k
   have h2 := flat_small (fun e => e.i) es (fun e he => (hg5 e he).1)
   unfold inE at h1 ⊢
   omega
  have HLO := qd hlo; have HLI := qd hli
  have HMM := qd (show m ≤ 1000000 by omega)
  have HIS := qd hg2; have HOS := qd hg3
  generalize hes : es.length = m0 at *
  have HM0 := qd hes
  clear hg4 hg5 hlo hli hm1 hes
  generalize hil : is.length = m1 at *
  generalize hol : os.length = m2 at *
  have HIL := qd hil; have HOL := qd hol
  clear hil hol
  go_enter Tryz.func66, Tryz.ntmps66
  go_upto_region 3 with (
   go_at_call 42
   with_reducible refine (HIG.out _ HK0.out).mono ?_
   rintro e w2 ⟨rfl, hg⟩
   have hs2 := HS0.out.grown hg
   obtain ⟨x0, x1, x2, x3, _⟩ := bq4 hs2.hd
   have HS2 := qd hs2
   clear hg hs2)
  go_cut [3, 4] from 10 to 15 (fun xv yv wx => ∃ (b1 b2 : Nat), xv = .slice (some ⟨b1, 0, none⟩) 1 1 ∧ yv = .slice (some ⟨b2, 0, none⟩) 1 1 ∧ Sep wx [OR rowE (.slice (some ⟨b1, 0, none⟩) 1 1) [⟨.slice ia m1 ic, is⟩], OR rowE (.slice (some ⟨b2, 0, none⟩) 1 1) [⟨.slice oa m2 oc, os⟩], BxA w.heap.size #[.int .i64 m, .slice ea m0 ec, .slice ia m1 ic, .slice oa m2 oc] 38, KeepA w])
  case first =>
   have y2 := fun o => (bq4 (HS2.out.al o).hd).2.2.1
   have y3 := fun o => (bq4 (HS2.out.al o).hd).2.2.2.1
   have HA := qd (row_own (row_own HS2.out ia m1 ic is w2.heap.size rfl) oa m2 oc os (w2.heap.size + 1) (by simp)).s2.dr
   have HB := qd (row_own (row_own HS2.out oa m2 oc os w2.heap.size rfl) ia m1 ic is (w2.heap.size + 1) (by simp)).dr
   go_region
   all_goals
    go_wp2_with fail
    go_meet
   . exact ⟨_, _, rfl, rfl, HA.out⟩
   . exact ⟨_, _, rfl, rfl, HB.out⟩
  case rest =>
   obtain ⟨b1, b2, rfl, rfl, hs⟩ := hcut
   have HS3 := qd hs
   obtain ⟨x0, x1, x2, x3, _⟩ := bq4 hs.tl.tl.hd
   clear hs HS2 HIG
   go_wp2_with fail
   go_loopw [3, 4, 6, 19] (fun xv yv _ i wr => ∃ (k : Nat) (xs ys : List RX), k ≤ m0 ∧ i = .int .i64 k ∧ xs.length = k + 1 ∧ ys.length = k + 1 ∧ joinL xs = is ++ outE (es.take k) ∧ joinL ys = os ++ inE (es.take k) ∧ (∀ x ∈ xs, IntsV w x.v x.zs) ∧ (∀ x ∈ ys, IntsV w x.v x.zs) ∧
    Sep wr [OR rowE xv xs, OR rowE yv ys, BxA w.heap.size #[.int .i64 m, .slice ea m0 ec, .slice ia m1 ic, .slice oa m2 oc] 38, KeepA w]) (fun _ _ _ i _ => m0 - (intOf i).toNat)
   case atStart => exact ⟨0, [⟨.slice ia m1 ic, is⟩], [⟨.slice oa m2 oc, os⟩], by omega, rfl, rfl, rfl, by simp [joinL, outE], by simp [joinL, inE], by simpa using HI.out, by simpa using HO.out, HS3.out⟩
   case round =>
    obtain ⟨k, xs, ys, hk, rfl, hxl, hyl, hxj, hyj, hxi, hyi, hs⟩ := hrel
    have HSX := qd hs; have HXL := qd hxl; have HYL := qd hyl; have HXJ := qd hxj; have HYJ := qd hyj; have HXI := qd hxi; have HYI := qd hyi
    obtain ⟨p1, p2, he1⟩ := OwnR.shape (show OwnR rowE 0 wr u3 xs from hs.hd)
    obtain ⟨q1, q2, he2⟩ := OwnR.shape (show OwnR rowE 0 wr u4 ys from hs.tl.hd)
    rw [hxl] at he1
    rw [hyl] at he2
    subst he1 he2
    obtain ⟨x0, x1, x2, x3, _⟩ := bq4 hs.tl.tl.hd
    clear hs HS3 hxl hyl hxj hyj hxi hyi
    by_cases hlt : k < m0
    ·have hke : k < es.length := by rw [HM0.out]; exact hlt
     obtain ⟨eb, eo, u1, u2, rfl, hat⟩ := HE.out.atK rfl rfl hke
     obtain ⟨⟨q0, q1', q2', q3⟩, hi, ho⟩ := hat wr HSX.out.tl.tl.tl.hd
     obtain ⟨_, hi0, ho0⟩ := hat w (grownBy_refl _ _)
     have HTO := qd (outE_take es k hke); have HTI := qd (inE_take es k hke)
     generalize es.getD k e0 = y at *
     obtain ⟨yk, yv, yi, yo⟩ := y
     simp only at q0 q1' q2' q3 hi ho hi0 ho0
     have HI0 := qd hi0; have HO0 := qd ho0
     obtain ⟨s1, r1, rfl⟩ := hi.shape
     obtain ⟨s2, r2, rfl⟩ := ho.shape
     have hb := (HSX.out.box #[.int .i64 yk, .int .i64 yv, .slice s1 yi.length r1, .slice s2 yo.length r2] 104).s2
     have HSB := qd hb
     clear hi ho hi0 ho0 hat hke hb
     go_wp2_with (first
      |(refine app_RB (E := rowE) (y := ⟨.slice s2 yo.length r2, yo⟩) info_row rfl (by decide) Tryz.underlying117 (by intro u hu; simp [rowE] at hu; subst hu; rfl) rfl (.tmp 23) (.tmp 26) rfl rfl rfl (by simp) rfl HSB.out (by rw [HXL.out]; omega) ?_
        intro g c w4 h4
        rw [HXL.out] at h4 ⊢
        obtain ⟨z0, z1, z2, z3, _⟩ := bq4 h4.tl.hd
        have HS4 := qd h4.s3
        clear h4)
      |(refine app_RB (E := rowE) (y := ⟨.slice s1 yi.length r1, yi⟩) info_row rfl (by decide) Tryz.underlying117 (by intro u hu; simp [rowE] at hu; subst hu; rfl) rfl (.tmp 28) (.tmp 31) rfl rfl rfl rfl rfl HS4.out (by rw [HYL.out]; omega) ?_
        intro g2 c2 w5 h5
        rw [HYL.out] at h5 ⊢
        have HS5 := qd (h5.s2.under (fun h => h.under Sep.tl (by simp +contextual)) (by simp +contextual))
        clear h5))
     go_roundw
     case rel => exact ⟨k + 1, xs ++ [⟨.slice s2 yo.length r2, yo⟩], ys ++ [⟨.slice s1 yi.length r1, yi⟩], by omega, by go_num, by rw [List.length_append, HXL.out]; rfl, by rw [List.length_append, HYL.out]; rfl, by rw [joinL_snoc, HXJ.out, HTO.out, List.append_assoc], by rw [joinL_snoc, HYJ.out, HTI.out, List.append_assoc], by
      intro x hx
      rcases List.mem_append.1 hx with hx | hx
      ·exact HXI.out x hx
      ·rw [List.mem_singleton.1 hx]; exact HO0.out, by
      intro x hx
      rcases List.mem_append.1 hx with hx | hx
      ·exact HYI.out x hx
      ·rw [List.mem_singleton.1 hx]; exact HI0.out, HS5.out⟩
     case measure => simp [intOf]; omega
    ·have hkm : k = m0 := by omega
     subst hkm
     have htk : es.take k = es := List.take_of_length_le (by rw [HM0.out]; exact Nat.le_refl _)
     rw [htk] at HXJ HYJ
     have hkp : w.grownBy wr none := HSX.out.tl.tl.tl.hd
     have hjl : (joinL xs).length ≤ 1000000 := by rw [HXJ.out, List.length_append]; have := HLO.out k; rw [htk] at this; have := HIS.out; have := HIL.out; omega
     have hjl2 : (joinL ys).length ≤ 1000000 := by rw [HYJ.out, List.length_append]; have := HLI.out k; rw [htk] at this; have := HOS.out; have := HOL.out; omega
     have HOA := qd fun W (h : wr.grownBy W none) => occursOnce_any _ xs m W ((RdL.of HSX.out.hd (fun x hx => (HXI.out x hx).carry hkp)).carry h) HMM.out (by rw [HXL.out]; omega) hjl
     have HOB := qd fun W (h : wr.grownBy W none) => occursOnce_any _ ys m W ((RdL.of HSX.out.tl.hd (fun x hx => (HYI.out x hx).carry hkp)).carry h) HMM.out (by rw [HYL.out]; omega) hjl2
     rw [HXJ.out] at HOA
     rw [HYJ.out] at HOB
     have hKW := qd hkp
     have HBX := qd (show Sep wr [BxA w.heap.size #[.int .i64 m, .slice ea k ec, .slice ia m1 ic, .slice oa m2 oc] 38, KeepA w] from HSX.out.tl.tl)
     clear hlt htk hkp hjl hjl2
     cases hb1 : permB (is ++ outE es) m
     ·rw [hb1] at HOA
      have HB1 := qd hb1
      clear hb1
      go_wp2_with (
       go_at_call 106
       with_reducible refine (HOA.out _ (grownBy_refl _ _)).mono ?_
       rintro e w6 ⟨rfl, hg⟩
       have HK6 := qd (grownBy_trans hKW.out hg)
       clear hg)
      go_ret
      exact ⟨by rw [HB1.out]; rfl, HK6.out⟩
     ·rw [hb1] at HOA
      have HB1 := qd hb1
      clear hb1
      obtain ⟨b2, hb2⟩ : ∃ b, b = permB (os ++ inE es) m := ⟨_, rfl⟩
      rw [← hb2] at HOB
      have HB2 := qd hb2
      clear hb2
      go_wp2_with (first
       |(go_at_call 106
         with_reducible refine (HOA.out _ (grownBy_refl _ _)).mono ?_
         rintro e w6 ⟨rfl, hg⟩
         have HG6 := qd hg
         obtain ⟨z0, z1, z2, z3, _⟩ := bq4 (HBX.out.grown hg).hd
         have HK6 := qd (grownBy_trans hKW.out hg)
         clear hg)
       |(go_at_call 106
         with_reducible refine (HOB.out _ HG6.out).mono ?_
         rintro e w7 ⟨rfl, hg⟩
         have HK7 := qd (grownBy_trans HK6.out hg)
         clear hg))
      go_ret
      exact ⟨by rw [HB1.out, ← HB2.out]; rfl, HK7.out⟩
theorem ofL_up {n : Nat} {x : Int} (h0 : 0 ≤ x) (h1 : x < n) : ofL (upL n) x = x := by
 obtain ⟨k, rfl⟩ := Int.eq_ofNat_of_zero_le h0
 unfold ofL upL
 rw [Int.toNat_natCast, List.getD_eq_getElem?_getD, List.getElem?_map, List.getElem?_range (by omega)]
 rfl
theorem map_up {n : Nat} {l : List Int} (h : ∀ x ∈ l, 0 ≤ x ∧ x < (n : Int)) : l.map (ofL (upL n)) = l := by
 conv => rhs; rw [← List.map_id l]
 exact List.map_congr_left fun x hx => ofL_up (h x hx).1 (h x hx).2
theorem mapE_up {g : Gr} {n : Nat} (h : ∀ x ∈ wiresL g, 0 ≤ x ∧ x < (n : Int)) : g.es.map (mapE (upL n)) = g.es := by
 conv => rhs; rw [← List.map_id g.es]
 refine List.map_congr_left fun e he => ?_
 obtain ⟨gn, es, is, os⟩ := g
 unfold mapE
 rw [map_up (fun x hx => h x ((wires_edge he).1 hx)), map_up (fun x hx => h x ((wires_edge he).2 hx))]
 rfl
def OwnG (g : Gr) (w : World) (e : Ending) (w' : World) : Prop :=
 ∃ u0 xs u1 u2, e = .returned (grV g.n u0 u1 u2) ∧ eds xs = g.es ∧ Sep w' [OE u0 xs, OI u1 g.i, OI u2 g.o, KeepA w]
set_option maxHeartbeats 2000000 in
theorem hgOwn_any (ev iv ov : Value) (g : Gr) (w : World) (he : RdE edgeE w ev g.es) (hi : IntsV w iv g.i) (ho : IntsV w ov g.o) (hg : grB g = true) :
 Calls Tryz.prog 59 #[grV g.n ev iv ov] w (OwnG g w) := by
 obtain ⟨m, hm, hm1, hg1, hg2, hg3, hg4, hg5, _⟩ := grB_n hg
 have hr : ∀ x ∈ wiresL g, 0 ≤ x ∧ x < (m : Int) := fun x hx => by rw [← hm]; exact rngB_iff.1 hg4 x hx
 have HM := qd fun tv W (h : w.grownBy W none) (ht : IntsV W tv (upL m)) => hgMap_any ev iv ov tv g g.n (upL m) W (he.carry h) (hi.carry h) (ho.carry h) ht (by omega) (by omega) (by omega) (fun e h => by have := hg5 e h; omega) (by rw [upL_len]; exact hr)
 rw [mapE_up hr, map_up (fun x hx => hr x (by unfold wiresL; simp [hx])), map_up (fun x hx => hr x (by unfold wiresL; simp [hx]))] at HM
 obtain ⟨i0, hbi, hz0, hz1, hz2⟩ := info_parts info_int
 have HBI := qd hbi; have HZ0 := qd hz0; have HZ1 := qd hz1; have HZ2 := qd hz2
 clear hbi hz0 hz1 hz2
 unfold grV at *
 obtain ⟨ea, ec, rfl⟩ := he.shape
 obtain ⟨ia, ic, rfl⟩ := hi.shape
 obtain ⟨oa, oc, rfl⟩ := ho.shape
 clear he hi ho hg hr hg1 hg2 hg3 hg4 hg5
 unfold OwnG grV
 rw [hm]
 rw [hm] at HM
 generalize g.es.length = m0 at *
 generalize g.i.length = n1 at *
 generalize g.o.length = n2 at *
 have HMM := qd hm1
 clear hm
 have hs0 := ((Sep.start w).box #[.int .i64 m, .slice ea m0 ec, .slice ia n1 ic, .slice oa n2 oc] 38).box #[.int .i64 0, .slice none 0 0, .slice none 0 0, .slice none 0 0] 38
 have e1 : (w.alloc (.cells #[.int .i64 m, .slice ea m0 ec, .slice ia n1 ic, .slice oa n2 oc] 38)).heap.size = w.heap.size + 1 := by simp
 rw [e1] at hs0
 obtain ⟨x0, x1, x2, x3, _⟩ := bq4 hs0.tl.hd
 have HS0 := qd hs0
 clear hs0 e1
 go_enter Tryz.func59, Tryz.ntmps59
 go_wp2_with (
  at_make
  refine wpList_make_full _ rfl _ _ 23 rfl _ 3 i0 (.int .i64 0) 1 Tryz.underlying23 HBI.out HZ0.out HZ1.out _ _ _ _ m rfl rfl rfl rfl (by rw [HZ2.out]; omega) (by unfold maxLen; omega) (Nat.le_refl _) ?_
  intro w1 hown' hgr'
  have hs1 := HS0.out.newI (zs := List.replicate m 0) hgr' (by rw [madeCells_int] at hown'; unfold OwnInts; rw [List.length_replicate]; exact hown')
  rw [show ((w.alloc (.cells #[.int .i64 m, .slice ea m0 ec, .slice ia n1 ic, .slice oa n2 oc] 38)).alloc (.cells #[.int .i64 0, .slice none 0 0, .slice none 0 0, .slice none 0 0] 38)).heap.size = w.heap.size + 1 + 1 by simp] at hs1
  have HS1 := qd hs1
  clear hs1 hown' hgr')
 go_loopw [4, 10] (fun _ i wr => ∃ k : Nat, k ≤ m ∧ i = .int .i64 k ∧ Sep wr [OI (.slice (some ⟨w.heap.size + 1 + 1, 0, none⟩) m m) (upL k ++ List.replicate (m - k) 0), BxA (w.heap.size + 1) #[.int .i64 0, .slice none 0 0, .slice none 0 0, .slice none 0 0] 38, BxA w.heap.size #[.int .i64 m, .slice ea m0 ec, .slice ia n1 ic, .slice oa n2 oc] 38, KeepA w]) (fun _ i _ => m - (intOf i).toNat)
 case atStart => exact ⟨0, by omega, rfl, by simpa [upL] using HS1.out⟩
 case round =>
  obtain ⟨k, hk, rfl, hs⟩ := hrel
  have HSX := qd hs
  clear hs HS1 x0 x1 x2 x3
  by_cases hlt : k < m
  ·have hll : m = (upL k ++ List.replicate (m - k) (0 : Int)).length := by rw [List.length_append, upL_len, List.length_replicate]; omega
   have hf := HSX.out.hd.free hll k
   obtain ⟨q, hc0⟩ := HSX.out.hd.cellQ hll (j := k) hlt
   have hset := HSX.out.setI hll k (k : Int)
   rw [up_set hlt] at hset
   have HSET := qd hset
   clear hll hset
   go_wp2
   go_roundw
   case rel => exact ⟨k + 1, by omega, by go_num, HSET.out⟩
   case measure => simp [intOf]; omega
  ·have hkn : k = m := by omega
   subst hkn
   have hs := HSX.out
   rw [Nat.sub_self, List.replicate_zero, List.append_nil] at hs
   obtain ⟨x0, x1, x2, x3, _⟩ := bq4 hs.tl.tl.hd
   have HC := qd (HM.out _ wr hs.tl.tl.tl.hd (OwnInts.read (show OwnInts 0 wr _ _ from hs.hd)))
   have HSY := qd hs
   clear hlt hs
   go_wp2_with (
    go_at_call 90
    with_reducible refine HC.out.mono ?_
    rintro e w3 ⟨u0, xs, u1, u2, rfl, hxs, hsg⟩
    have HXS := qd hxs
    obtain ⟨s0, r0, rfl⟩ := OE.shape hsg.hd
    obtain ⟨s1, r1, rfl⟩ := own_shape hsg.tl.hd
    obtain ⟨s2, r2, rfl⟩ := own_shape hsg.tl.tl.hd
    have hs1 := (HSY.out.graft3 hsg OE_own OI_own OI_own).s5
    obtain ⟨y0, y1, y2, y3, z0, z1, z2, z3⟩ := bq4 hs1.hd
    have hs2 := (((hs1.setB 0 (.int .i64 k)).setB 1 (.slice s0 xs.length r0)).setB 2 (.slice s1 g.i.length r1)).setB 3 (.slice s2 g.o.length r2)
    obtain ⟨k0, k1, k2, k3, _⟩ := bq4 hs2.hd
    have HSF := qd (hs2.tl.under (fun h => h.under (fun h => h.under (fun h => h.tl.tl) (by simp +contextual)) (by simp +contextual)) (by simp +contextual))
    clear hsg hs1 hs2 hxs)
   refine bodyPost_ret_by (v := .agg #[.int .i64 k, .slice s0 xs.length r0, .slice s1 g.i.length r1, .slice s2 g.o.length r2]) ?_ rfl ⟨_, xs, _, _, rfl, HXS.out, HSF.out⟩
   simp [results, go_sem, *]
set_option maxHeartbeats 2000000 in
theorem gcopy_any (ev iv ov : Value) (g : Gr) (w : World) (he : RdE edgeE w ev g.es) (hi : IntsV w iv g.i) (ho : IntsV w ov g.o) (hg : grB g = true) :
 Calls Tryz.prog 72 #[grV g.n ev iv ov] w (OwnG g w) := by
 obtain ⟨m, hm, hm1, hg1, hg2, hg3, hg4, hg5, _⟩ := grB_n hg
 have hr : ∀ x ∈ wiresL g, 0 ≤ x ∧ x < (m : Int) := fun x hx => by rw [← hm]; exact rngB_iff.1 hg4 x hx
 have HM := qd fun tv W (h : w.grownBy W none) (ht : IntsV W tv (upL m)) => moved_any ev iv ov tv g g.n (upL m) W (he.carry h) (hi.carry h) (ho.carry h) ht (by omega) (by omega) (by omega) (fun e h => by have := hg5 e h; omega) (by rw [upL_len]; exact hr)
 rw [mapE_up hr, map_up (fun x hx => hr x (by unfold wiresL; simp [hx])), map_up (fun x hx => hr x (by unfold wiresL; simp [hx]))] at HM
 have HU := qd fun W => upTo_any m W (by omega)
 unfold grV at *
 obtain ⟨ea, ec, rfl⟩ := he.shape
 obtain ⟨ia, ic, rfl⟩ := hi.shape
 obtain ⟨oa, oc, rfl⟩ := ho.shape
 clear he hi ho hg hr hg1 hg2 hg3 hg4 hg5
 unfold OwnG grV
 rw [hm]
 rw [hm] at HM
 generalize g.es.length = m0 at *
 generalize g.i.length = n1 at *
 generalize g.o.length = n2 at *
 have HMM := qd hm1
 clear hm
 have hs0 := ((Sep.start w).box #[.int .i64 m, .slice ea m0 ec, .slice ia n1 ic, .slice oa n2 oc] 38).box #[.int .i64 0, .slice none 0 0, .slice none 0 0, .slice none 0 0] 38
 have e1 : (w.alloc (.cells #[.int .i64 m, .slice ea m0 ec, .slice ia n1 ic, .slice oa n2 oc] 38)).heap.size = w.heap.size + 1 := by simp
 rw [e1] at hs0
 have HSD := qd hs0.dr
 have SX := qd fun (W : World) (l : List Asrt) (h : Sep W (BxA w.heap.size #[.int .i64 m, .slice ea m0 ec, .slice ia n1 ic, .slice oa n2 oc] 38 :: l)) => And.intro (bq4 h.hd).1 (And.intro (bq4 h.hd).2.1 (And.intro (bq4 h.hd).2.2.1 (bq4 h.hd).2.2.2.1))
 have X0 := qd (SX.out _ _ HSD.out.tl)
 clear hs0 e1
 go_enter Tryz.func72, Tryz.ntmps72
 go_upto_region 1 with fail
 refine AnyL.start (fun w' => w'.cell? ⟨w.heap.size, 0, none⟩ = some (.int .i64 m) ∧ w'.cell? ⟨w.heap.size, 1, none⟩ = some (.slice ea m0 ec) ∧ w'.cell? ⟨w.heap.size, 2, none⟩ = some (.slice ia n1 ic) ∧ w'.cell? ⟨w.heap.size, 3, none⟩ = some (.slice oa n2 oc)) (fun _ => True) 99 (by kernel_rfl) ?_
 refine AnyL.tT 0 (by exact X0.out) ?_
 refine AnyL.tT 1 (by exact X0.out) ?_
 refine AnyL.tT 2 (by exact X0.out) ?_
 refine AnyL.tT 3 (by exact X0.out) ?_
 refine AnyL.tT 4 (by exact X0.out) ?_
 refine AnyL.step (i := 5) (by kernel_rfl) (by rfl) (fun K hK => ?_)
 go_simp
 go_at_call 77
 with_reducible refine (HU.out _).mono ?_
 rintro e w2 ⟨tb, tc, rfl, hsg⟩
 have HS2 := qd (HSD.out.graft1 hsg OI_own)
 have X2 := qd (SX.out _ _ HS2.out.tl.tl)
 have HC := qd (HM.out _ w2 (show w.grownBy w2 none from HS2.out.tl.tl.tl.hd) (OwnInts.read (show OwnInts 0 w2 _ _ from HS2.out.hd)))
 clear hsg
 refine shutNx hK _ (by exact X2.out) (by exact fun _ => trivial) ?_
 clear hK K
 refine AnyL.step (i := 6) (by kernel_rfl) (by rfl) (fun K hK => ?_)
 go_simp
 go_at_call 83
 with_reducible refine HC.out.mono ?_
 rintro e w3 ⟨u0, xs, u1, u2, rfl, hxs, hsg⟩
 have HXS := qd hxs
 obtain ⟨s0, r0, rfl⟩ := OE.shape hsg.hd
 obtain ⟨s1, r1, rfl⟩ := own_shape hsg.tl.hd
 obtain ⟨s2, r2, rfl⟩ := own_shape hsg.tl.tl.hd
 have HSY := HS2
 have hs1 := (HSY.out.graft3 hsg OE_own OI_own OI_own).s5
 obtain ⟨y0, y1, y2, y3, z0, z1, z2, z3⟩ := bq4 hs1.hd
 have hs2 := (((hs1.setB 0 (.int .i64 m)).setB 1 (.slice s0 xs.length r0)).setB 2 (.slice s1 g.i.length r1)).setB 3 (.slice s2 g.o.length r2)
 obtain ⟨k0, k1, k2, k3, _⟩ := bq4 hs2.hd
 have X3 := qd (SX.out _ _ hs1.tl.tl.tl.tl.tl)
 have X4 := qd (SX.out _ _ hs2.tl.tl.tl.tl.tl)
 have HSF := qd (hs2.tl.under (fun h => h.under (fun h => h.under (fun h => h.tl.tl) (by simp +contextual)) (by simp +contextual)) (by simp +contextual))
 clear hsg hs1 hs2 hxs
 refine shutNx hK _ (by exact X3.out) (by exact fun _ => trivial) ?_
 clear hK K
 refine AnyL.step (i := 7) (by kernel_rfl) (by rfl) (fun K hK => ?_)
 go_simp
 refine shutNx hK _ (by exact X4.out) (by exact fun _ => trivial) ?_
 clear hK K
 refine AnyL.done (by kernel_rfl) ?_ _
 go_wp2_with fail
 refine bodyPost_ret_by (v := .agg #[.int .i64 m, .slice s0 xs.length r0, .slice s1 g.i.length r1, .slice s2 g.o.length r2]) ?_ rfl ⟨_, xs, _, _, rfl, HXS.out, HSF.out⟩
 simp [results, go_sem, *]
end Go.Proofs.YtjagjhchnpmngaaGreat

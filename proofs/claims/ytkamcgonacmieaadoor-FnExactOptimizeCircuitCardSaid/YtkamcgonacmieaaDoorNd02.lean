/-
  Circuits with some of the gates: plain law; the program's kept. Conditions: at most 1,000 gates and outputs; operands and outputs are gates.
-/
import Derived.Test.YtkamcgonacmieaaDoorNd01
import Derived.Test.YtkamcgonacmieaaDoorNa04
import Derived.Test.YtkamcgonacmieaaDoorNa03
import Derived.Test.YtkamcgonacmieaaDoorNa05
namespace Go.Proofs.YtkamcgonacmieaaDoor
open Go.RowKit
set_option linter.unusedVariables false
set_option maxRecDepth 100000

theorem Sep.q6 {w : World} {A C D E F G : Asrt} {l : List Asrt} (h : Sep w (A :: C :: D :: E :: F :: G :: l)) : Sep w (G :: A :: C :: D :: E :: F :: l) := (h.under Sep.s5 (by simp +contextual)).s2
theorem Sep.q7 {w : World} {A C D E F G H : Asrt} {l : List Asrt} (h : Sep w (A :: C :: D :: E :: F :: G :: H :: l)) : Sep w (H :: A :: C :: D :: E :: F :: G :: l) := (h.under Sep.q6 (by simp +contextual)).s2
/-- The places of the first k of a list. -/
def posTo (n : Nat) (L : List Int) : Nat → List Int
  | 0 => List.replicate n 0
  | k + 1 => (posTo n L k).set (L.getD k 0).toNat k
theorem posTo_len (n : Nat) (L : List Int) (k : Nat) : (posTo n L k).length = n := by
  induction k with
  | zero => simp [posTo]
  | succ k ih => simp [posTo, ih]
def posL (n : Nat) (L : List Int) : Int → Int := ofL (posTo n L L.length)
def keepC (c : Circ) (L : List Int) : Circ := ⟨c.n, L.map fun k => withL (posL c.gs.length L) (at3 c.gs k), c.os.map (posL c.gs.length L)⟩
theorem mark_rng (bs : List Bool) : ∀ k, ∀ x ∈ markTo bs k, 0 ≤ x ∧ x < k := by
  intro k
  induction k with
  | zero => intro x hx; cases hx
  | succ k ih =>
    intro x hx
    unfold markTo at hx
    split at hx
    · rcases List.mem_append.1 hx with h | h
      · have := ih x h; omega
      · rw [List.mem_singleton] at h
        omega
    · have := ih x hx; omega
theorem kept1_any (x : Nat) (v : Value) (b : Nat) (zs : List Int) (w : World) (hb : w.cell? ⟨b, 0, none⟩ = some v) (hv : IntsV w v zs) (hx : x < zs.length) :
    Calls Tryd.prog 203 #[.int .i64 x, .pointer (some ⟨b, 0, none⟩)] w fun e w' => e = .returned (.int .i64 (ofL zs x)) ∧ w.grownBy w' none := by
  obtain ⟨a, c, rfl⟩ := hv.shape
  obtain ⟨b2, o, rfl⟩ := IntsV.addr hv (by omega)
  have hc := hv.cellN hx
  have ho : ofL zs (x : Int) = zs.getD x 0 := by unfold ofL; rw [Int.toNat_natCast]
  rw [ho]
  generalize zs.getD x 0 = y at *
  clear ho hv
  generalize zs.length = m at *
  go_enter Tryd.func203, Tryd.ntmps203
  go_wp2
  go_ret
  exact ⟨rfl, grownBy_refl _ _⟩
theorem kept_fn (v : Value) (b : Nat) (zs : List Int) (w : World) (hb : w.cell? ⟨b, 0, none⟩ = some v) (hv : IntsV w v zs) :
    OfFn 203 #[.pointer (some ⟨b, 0, none⟩)] (fun x => 0 ≤ x ∧ x < zs.length) (ofL zs) w := by
  intro W x hx hg
  have hp := World.block_lt_of_cell? w _ hb
  obtain ⟨i, rfl⟩ := Int.eq_ofNat_of_zero_le hx.1
  exact kept1_any i v b zs W ((World.cell?_of_block (a := ⟨b, 0, none⟩) (hg.block _ hp (by simp))).trans hb) (hv.carry hg) (by omega)
section
variable {α : Type} {E : Lay α} {ops : Array Oper} {o : Oper} {a : Act} {Q : Exit → Act → World → Prop} {K : Act → World → Prop} {Ex : Prop} {w : World} {v : Value} {xs : List α} {l : List Asrt} {y : α} {t : TypeId} {z : Value} {bytes q : Nat}
/-- 'out = append(out, y)' as a step of a region that draws. -/
theorem step_app_RG (hinfo : (Tryd.prog.info? E.ty).map (fun i => (i.zero, i.size, i.bytes)) = some (some z, E.sz, bytes)) (hzs : z.cells.size = E.sz) (hby : bytes ≤ 10000) (ht : Tryd.prog.underlying t = some (.slice E.ty)) (hone : ∀ u ∈ E.cs y, u.oneCell' = true)
    (hgd : o.guard = none) (s x : Operand) (ho : o.op = .call { callee := .builtin .append, args := #[s, x], argTypes := #[t, t] })
    (hs : a.eval s = v) (hx : a.eval x = .slice (some ⟨q, 0, none⟩) 1 1) (hq : q = w.heap.size) {cs : Array Value} (hcs : cs.toList = E.cs y) (H : Sep w (OR E v xs :: l)) (hl : xs.length ≤ 10000000)
    (h : ∀ g cap w', Sep w' (OR E (.slice (some ⟨g, 0, none⟩) (xs.length + 1) cap) (xs ++ [y]) :: l) → K (a.put o.dst (.slice (some ⟨g, 0, none⟩) (xs.length + 1) cap)) w') :
    if Region.wanted o (yielded ops a.tmps) = true then Oper.wp Tryd.prog o a (w.alloc (.cells cs E.ty)) K Q else Ex := by
  subst hq
  rw [if_pos (by simp [Region.wanted, hgd])]
  exact wp_app_R hinfo hzs hby ht hone s x ho hs hx hcs H hl h
end
set_option maxHeartbeats 8000000 in
theorem kept_any (n : Int) (gv ov bv : Value) (gs : List Gt) (os : List Int) (bs : List Bool) (w : World) (hg : RdR gateE w gv gs) (ho : IntsV w ov os) (hb : RdR boolE w bv bs) (hbl : bs.length = gs.length) (hl : gs.length ≤ 1000) (hl2 : os.length ≤ 1000)
    (hops : ∀ g ∈ gs, ∀ x ∈ opsL g, 0 ≤ x ∧ x < gs.length) (hos : ∀ x ∈ os, 0 ≤ x ∧ x < gs.length) :
    Calls Tryd.prog 130 #[.agg #[.int .i64 n, gv, ov], bv] w fun e w' => ∃ a1 c1 a2 c2, e = .returned (cirV n (.slice a1 (markL bs).length c1) (.slice a2 os.length c2)) ∧
      Sep w' [OR gateE (.slice a1 (markL bs).length c1) (keepC ⟨n, gs, os⟩ (markL bs)).gs, OI (.slice a2 os.length c2) (keepC ⟨n, gs, os⟩ (markL bs)).os, KeepA w] := by
  have HMK := Lib.hid fun W (h : w.grownBy W none) => marked_any bv bs W (hb.carry h) (by omega)
  have HZ := Lib.hid fun W => zeros_full gs.length W (by omega)
  have hmr := mark_rng bs bs.length
  have hml := markTo_len bs bs.length
  rw [show markTo bs bs.length = markL bs from rfl, hbl] at hmr hml
  have HG := Lib.hid hg
  have HMP := Lib.hid fun W u zs (h : w.grownBy W none) (hu : IntsV W u zs) (hzl : zs.length = gs.length) => mapped_any u ov zs os W hu (ho.carry h) (by omega) (fun x hx => by rw [hzl]; exact hos x hx)
  obtain ⟨ga, gc, rfl⟩ := hg.shape
  obtain ⟨oa, oc, rfl⟩ := ho.shape
  obtain ⟨ba, bc, rfl⟩ := hb.shape
  unfold keepC
  simp only
  generalize markL bs = L at *
  have HMR := Lib.hid hmr
  have HOPS := Lib.hid hops
  have HHL := Lib.hid hml
  clear hg ho hb hops hos hmr
  generalize hm : gs.length = m at *
  generalize hm2 : os.length = m2 at *
  have HM := Lib.hid hm; have HM2 := Lib.hid hm2
  generalize hll : L.length = ln at *
  have HLL := Lib.hid hll
  rw [hbl] at *
  clear hm hm2 hbl hll
  obtain ⟨F, hF⟩ : ∃ F, F = posL m L := ⟨_, rfl⟩
  have HF := Lib.hid (show F = ofL (posTo m L ln) by rw [hF]; unfold posL; rw [HLL.out])
  rw [← hF]
  clear hF
  have hs0 := ((Sep.start w).box #[.int .i64 n, .slice ga m gc, .slice oa m2 oc] 29).box #[.int .i64 0, .slice none 0 0, .slice none 0 0] 29
  have e1 : (w.alloc (.cells #[.int .i64 n, .slice ga m gc, .slice oa m2 oc] 29)).heap.size = w.heap.size + 1 := by simp
  rw [e1] at hs0
  have HS0 := Lib.hid hs0
  have HK0 := Lib.hid (show w.grownBy _ none from hs0.tl.tl.hd)
  clear hs0 e1
  go_enter Tryd.func130, Tryd.ntmps130
  go_wp2_with (first
    | (go_at_call 199
       with_reducible refine (HMK.out _ HK0.out).mono ?_
       rintro e w2 ⟨la, lc, rfl, hsg⟩
       have hs2 := HS0.out.graft1 hsg OI_own
       have HS2 := Lib.hid hs2
       obtain ⟨x0, x1, x2, _⟩ := bx3 hs2.tl.tl.hd
       clear hsg hs2)
    | (go_at_call 200
       with_reducible refine (HZ.out _).mono ?_
       rintro e w3 ⟨zg, zc, rfl, hsg⟩
       have hs3 := (HS2.out.graft1 hsg OI_own).box #[.slice (some ⟨zg, 0, none⟩) m zc] 23
       have HS3 := Lib.hid hs3
       clear hsg hs3))
  generalize w3.heap.size = tb at *
  go_loopw [7, 8, 20] (fun _ _ i wr => ∃ k : Nat, k ≤ ln ∧ i = .int .i64 k ∧ Sep wr [BxA tb #[.slice (some ⟨zg, 0, none⟩) m zc] 23, OI (.slice (some ⟨zg, 0, none⟩) m zc) (posTo m L k), OI (.slice la ln lc) L, BxA (w.heap.size + 1) #[.int .i64 0, .slice none 0 0, .slice none 0 0] 29, BxA w.heap.size #[.int .i64 n, .slice ga m gc, .slice oa m2 oc] 29, KeepA w]) (fun _ _ i _ => ln - (intOf i).toNat)
  case atStart => exact ⟨0, by omega, rfl, HS3.out⟩
  case round =>
    obtain ⟨k, hk, rfl, hs⟩ := hrel
    have HSX := Lib.hid hs
    obtain ⟨t0, -⟩ := bx1 hs.hd
    clear hs HS3 x0 x1 x2
    by_cases hlt : k < ln
    · have hkl : k < L.length := by rw [HLL.out]; exact hlt
      obtain ⟨lg, rfl⟩ := OI_adr HSX.out.tl.tl.hd (by omega)
      have hc0 := HSX.out.tl.tl.hd.cell HLL.out.symm hkl
      have hgd : L.getD k 0 = L[k] := by rw [List.getD_eq_getElem?_getD, List.getElem?_eq_getElem hkl]; rfl
      rw [← hgd] at hc0
      have hxr := HMR.out (L.getD k 0) (getD_mem' hkl)
      have hst : posTo m L (k + 1) = (posTo m L k).set (L.getD k 0).toNat k := rfl
      have hpl : m = (posTo m L k).length := (posTo_len _ _ _).symm
      generalize L.getD k 0 = x at *
      obtain ⟨nx, rfl⟩ := Int.eq_ofNat_of_zero_le hxr.1
      have hnx : nx < m := by omega
      rw [Int.toNat_natCast] at hst
      have hf := HSX.out.tl.hd.free hpl nx
      obtain ⟨q, hq⟩ := HSX.out.tl.hd.cellQ hpl (j := nx) hnx
      have hset := HSX.out.s2.setI hpl nx k
      rw [← hst] at hset
      have HSET := Lib.hid hset.s2
      clear hset hst hpl hkl hgd
      go_wp2
      go_roundw
      case rel => exact ⟨k + 1, by omega, by go_num, HSET.out⟩
      case measure => simp [intOf]; omega
    · have hkm : k = ln := by omega
      subst hkm
      clear hlt
      have HPL := Lib.hid (posTo_len m L k)
      generalize posTo m L k = P at *
      have HOF := Lib.hid fun W (h : IntsV W (.slice (some ⟨zg, 0, none⟩) m zc) P) (hb : W.cell? ⟨tb, 0, none⟩ = some (.slice (some ⟨zg, 0, none⟩) m zc)) => kept_fn _ tb P W hb h
      go_upto_region 8 with fail
      go_cut [9] from 30 to 36 (fun t9 wx => ∃ (ob : Nat) (a2 : Option Addr) (c2 : Nat), t9 = .pointer (some ⟨ob, 0, none⟩) ∧ Sep wx [BxA ob #[.int .i64 n, .slice none 0 0, .slice a2 m2 c2] 29, OI (.slice a2 m2 c2) (os.map (ofL P)), BxA tb #[.slice (some ⟨zg, 0, none⟩) m zc] 23, OI (.slice (some ⟨zg, 0, none⟩) m zc) P, OI (.slice la k lc) L, BxA (w.heap.size + 1) #[.int .i64 0, .slice none 0 0, .slice none 0 0] 29, BxA w.heap.size #[.int .i64 n, .slice ga m gc, .slice oa m2 oc] 29, KeepA w])
      case first =>
        have hs := HSX.out
        clear HSX t0
        have SX := Lib.hid fun (W : World) (l : List Asrt) (h : Sep W (BxA tb #[.slice (some ⟨zg, 0, none⟩) m zc] 23 :: OI (.slice (some ⟨zg, 0, none⟩) m zc) P :: OI (.slice la k lc) L :: BxA (w.heap.size + 1) #[.int .i64 0, .slice none 0 0, .slice none 0 0] 29 :: BxA w.heap.size #[.int .i64 n, .slice ga m gc, .slice oa m2 oc] 29 :: l)) => And.intro (bx3 h.tl.tl.tl.tl.hd).1 (And.intro (bx3 h.tl.tl.tl.tl.hd).2.2.1 (bx1 h.hd).1)
        have HS4 := Lib.hid hs.dr
        have HS4b := Lib.hid (hs.box #[.int .i64 0, .slice none 0 0, .slice none 0 0] 29).dr
        have X0 := Lib.hid (SX.out _ _ hs.dr)
        have Y0 := Lib.hid fun ob => SX.out _ _ (hs.al ob).dr
        have HK4 := Lib.hid (show w.grownBy wr.drew none from hs.dr.tl.tl.tl.tl.tl.hd)
        have HK4b := Lib.hid fun ob => (show w.grownBy (wr.alloc ob).drew none from (hs.al ob).dr.tl.tl.tl.tl.tl.hd)
        have HI4 := Lib.hid hs.dr.tl.hd.read
        have HI4b := Lib.hid fun ob => (hs.al ob).dr.tl.hd.read
        clear hs
        go_region_held3 (fun w' => w'.cell? ⟨w.heap.size, 0, none⟩ = some (.int .i64 n) ∧ w'.cell? ⟨w.heap.size, 2, none⟩ = some (.slice oa m2 oc) ∧ w'.cell? ⟨tb, 0, none⟩ = some (.slice (some ⟨zg, 0, none⟩) m zc))
          (first | with_reducible exact X0.out | with_reducible exact Y0.out _ | with_reducible exact X5.out | with_reducible exact Y5.out _ | with_reducible exact V5.out | with_reducible exact V6.out | with_reducible exact V7.out | (trace_state; fail))
          (first
            | (go_at_call 201
               with_reducible refine (HMP.out _ _ _ HK4.out HI4.out HPL.out).mono ?_
               rintro e w5 ⟨a2, c2, rfl, hsg⟩
               have hsn := HS4.out.graft1 hsg OI_own
               have X5 := Lib.hid (SX.out _ _ hsn.tl)
               have Y5 := Lib.hid fun ob => SX.out _ _ (hsn.tl.al ob)
               have HFa := Lib.hid (hsn.box #[.int .i64 n, .slice none 0 0, .slice a2 m2 c2] 29)
               clear hsn hsg)
            | (go_at_call 201
               with_reducible refine (HMP.out _ _ _ (HK4b.out _) (HI4b.out _) HPL.out).mono ?_
               rintro e w5 ⟨a2, c2, rfl, hsg⟩
               have hsn := HS4b.out.graft1 hsg OI_own
               have X5 := Lib.hid (SX.out _ _ hsn.tl.tl)
               obtain ⟨r0, r1, r2, r3, r4, r5⟩ := bx3 hsn.tl.hd
               have h1 := hsn.s2.setB 0 (.int .i64 n)
               have h2 := h1.setB 1 (.slice none 0 0)
               have h3 := h2.setB 2 (.slice a2 m2 c2)
               have V5 := Lib.hid (SX.out _ _ h1.tl.tl)
               have V6 := Lib.hid (SX.out _ _ h2.tl.tl)
               have V7 := Lib.hid (SX.out _ _ h3.tl.tl)
               have HFb := Lib.hid h3
               clear h1 h2 h3 hsn hsg))
        all_goals
          go_wp2_with fail
          go_meet
          refine ⟨_, a2, c2, rfl, ?_⟩
          first
            | exact HFa.out
            | exact HFb.out
      case rest =>
        obtain ⟨ob, a2, c2, rfl, hs⟩ := hcut
        have HS5 := Lib.hid (hs.nilR gateE).s2
        clear hs HSX t0
        go_wp2_with fail
        go_loopw [11, 39] (fun _ i wr => ∃ (j : Nat) (g1 : Option Addr) (d1 : Nat), j ≤ k ∧ i = .int .i64 j ∧ Sep wr [BxA ob #[.int .i64 n, .slice g1 j d1, .slice a2 m2 c2] 29, OR gateE (.slice g1 j d1) ((L.take j).map fun k => withL (ofL P) (at3 gs k)), OI (.slice a2 m2 c2) (os.map (ofL P)), BxA tb #[.slice (some ⟨zg, 0, none⟩) m zc] 23, OI (.slice (some ⟨zg, 0, none⟩) m zc) P, OI (.slice la k lc) L, BxA (w.heap.size + 1) #[.int .i64 0, .slice none 0 0, .slice none 0 0] 29, BxA w.heap.size #[.int .i64 n, .slice ga m gc, .slice oa m2 oc] 29, KeepA w]) (fun _ i _ => k - (intOf i).toNat)
        case atStart => exact ⟨0, none, 0, by omega, rfl, by simpa [nilS] using HS5.out⟩
        case round =>
          obtain ⟨j, g1, d1, hj, rfl, hs⟩ := hrel
          have HSX := Lib.hid hs
          clear hs HS5
          by_cases hlt : j < k
          · have hjl : j < L.length := by rw [HLL.out]; exact hlt
            obtain ⟨lg, rfl⟩ := OI_adr HSX.out.tl.tl.tl.tl.tl.hd (by omega)
            have hc0 := HSX.out.tl.tl.tl.tl.tl.hd.cell HLL.out.symm hjl
            have hgd : L.getD j 0 = L[j] := by rw [List.getD_eq_getElem?_getD, List.getElem?_eq_getElem hjl]; rfl
            rw [← hgd] at hc0
            have hxr := HMR.out (L.getD j 0) (getD_mem' hjl)
            have htk := takeS (zs := L) hjl
            have hst : (L.take (j + 1)).map (fun k => withL (ofL P) (at3 gs k)) = (L.take j).map (fun k => withL (ofL P) (at3 gs k)) ++ [withL (ofL P) (at3 gs (L.getD j 0))] := by
              rw [List.take_succ_eq_append_getElem hjl, List.map_append, hgd]
              rfl
            generalize L.getD j 0 = x at *
            obtain ⟨nx, rfl⟩ := Int.eq_ofNat_of_zero_le hxr.1
            have hnx : nx < gs.length := by rw [HM.out]; omega
            rw [at3_nat] at hst
            have hmem := getD_mem3 g0 hnx
            have hopx := HOPS.out _ hmem
            obtain ⟨b, o, rfl, hb, q0, q1, q2, q3⟩ := gate_at rfl rfl HG.out hnx
            have HWO := Lib.hid fun W (hx : IntsV W (.slice (some ⟨zg, 0, none⟩) m zc) P) (ht : W.cell? ⟨tb, 0, none⟩ = some (.slice (some ⟨zg, 0, none⟩) m zc)) =>
              withOperands_any 203 #[.pointer (some ⟨tb, 0, none⟩)] (enters_of Tryd.func203 (by kernel_rfl) rfl) (fun x => 0 ≤ x ∧ x < P.length) (ofL P) (gs.getD nx g0) W (HOF.out W hx ht) (fun x hx => by rw [HPL.out]; exact hopx x hx)
            have HML := Lib.hid (show ((L.take j).map fun k => withL (ofL P) (at3 gs k)).length = j by rw [List.length_map, List.length_take]; omega)
            have HST := Lib.hid hst
            generalize gs.getD nx g0 = gg at *
            generalize withL (ofL P) gg = y at *
            generalize (L.take j).map (fun k => withL (ofL P) (at3 gs k)) = GL at *
            unfold gtV at HWO
            have QC := Lib.hid fun W (h : w.grownBy W none) => And.intro ((World.cell?_of_block (a := ⟨b, o + nx * 4, none⟩) (h.block b hb (by simp))).trans q0) (And.intro ((World.cell?_of_block (a := ⟨b, o + nx * 4 + 1, none⟩) (h.block b hb (by simp))).trans q1) (And.intro ((World.cell?_of_block (a := ⟨b, o + nx * 4 + 2, none⟩) (h.block b hb (by simp))).trans q2) ((World.cell?_of_block (a := ⟨b, o + nx * 4 + 3, none⟩) (h.block b hb (by simp))).trans q3)))
            have hs4 := HSX.out.dr
            obtain ⟨k0, k1, k2, k3⟩ := QC.out _ hs4.tl.tl.tl.tl.tl.tl.tl.tl.hd
            obtain ⟨x0, x1, x2, _⟩ := bx3 hs4.hd
            obtain ⟨y0, y1, y2, _⟩ := bx3 hs4.tl.tl.tl.tl.tl.tl.tl.hd
            obtain ⟨t0, -⟩ := bx1 hs4.tl.tl.tl.hd
            have HT0 := Lib.hid t0
            have HI4 := Lib.hid hs4.tl.tl.tl.tl.hd.read
            have HS4 := Lib.hid hs4
            clear hs4 hst htk hjl hgd hmem hopx q0 q1 q2 q3
            go_upto_region 12 with fail
            go_region_law (first
              | (try go_simp
                 go_at_call 202
                 with_reducible refine (HWO.out _ HI4.out HT0.out).mono ?_
                 rintro e w5 ⟨rfl, hg5⟩
                 have hs5 := HS4.out.grown hg5
                 obtain ⟨v0, v1, v2, _⟩ := bx3 hs5.hd
                 have va := fun ob' => (bx3 (hs5.al ob').hd).2.1
                 have HS5 := Lib.hid hs5.s2
                 clear hg5 hs5)
              | (refine step_app_RG (E := gateE) info_gate rfl (by decide) Tryd.underlying27 (gate_one y) rfl (.tmp 44) (.tmp 52) rfl rfl rfl (by simp) rfl HS5.out (by rw [HML.out]; omega) ?_
                 intro g2 d2 w6 h6
                 rw [HML.out] at h6 ⊢
                 rw [← HST.out] at h6
                 have h7 := h6.s2
                 obtain ⟨u0, u1, u2, u3, u4, u5⟩ := bx3 h7.hd
                 have HS7 := Lib.hid (h7.setB 1 (.slice (some ⟨g2, 0, none⟩) (j + 1) d2))
                 clear h6 h7))
            all_goals
              go_wp2_with fail
              go_roundw
              case rel => exact ⟨j + 1, some ⟨g2, 0, none⟩, d2, by omega, by go_num, HS7.out⟩
              case measure => simp [intOf]; omega
          · have hjk : j = k := by omega
            subst hjk
            clear hlt
            have hs8 := HSX.out
            rw [List.take_of_length_le (by rw [HLL.out]; exact Nat.le_refl _)] at hs8
            obtain ⟨y0, y1, y2, _⟩ := bx3 hs8.hd
            have hs9 := hs8.q7
            obtain ⟨z0, z1, z2, z3, z4, z5⟩ := bx3 hs9.hd
            have hs10 := ((hs9.setB 0 (.int .i64 n)).setB 1 (.slice g1 j d1)).setB 2 (.slice a2 m2 c2)
            obtain ⟨u0, u1, u2, _⟩ := bx3 hs10.hd
            have HSF := Lib.hid (hs10.tl.tl.under (fun h => h.under (fun h => h.tl.tl.tl.tl) (by simp +contextual)) (by simp +contextual))
            clear hs8 hs9 hs10 HSX
            go_wp2
            refine bodyPost_ret_by (v := .agg #[.int .i64 n, .slice g1 j d1, .slice a2 m2 c2]) ?_ rfl ⟨g1, d1, a2, c2, rfl, by rw [HF.out]; exact HSF.out⟩
            simp [results, go_sem, *]
end Go.Proofs.YtkamcgonacmieaaDoor

/-
  A number put into a sorted list, in the reference. Conditions: lengths are small.
-/
namespace Go.Proofs.YtkamcgonacmieaaDoor
open Go.RowKit
set_option linter.unusedVariables false
set_option maxRecDepth 100000

def putL : List Int → Int → List Int
  | [], x => [x]
  | y :: ys, x => if y < x then y :: putL ys x else if y = x then y :: ys else x :: y :: ys
theorem put_at {x : Int} : ∀ (k : Nat) (zs : List Int), k ≤ zs.length → (∀ j, j < k → zs.getD j 0 < x) → (k < zs.length → ¬ zs.getD k 0 < x) →
    putL zs x = if k < zs.length ∧ zs.getD k 0 = x then zs else zs.take k ++ x :: zs.drop k := by
  intro k
  induction k with
  | zero =>
    intro zs _ _ h
    cases zs with
    | nil => simp [putL]
    | cons y ys =>
      have h1 : ¬ y < x := by simpa using h (by simp)
      unfold putL
      rw [if_neg h1]
      by_cases he : y = x <;> simp [he]
  | succ k ih =>
    intro zs hk hlt h
    cases zs with
    | nil => simp at hk
    | cons y ys =>
      have h0 : y < x := by simpa using hlt 0 (by omega)
      unfold putL
      rw [if_pos h0, ih ys (by simpa using hk) (fun j hj => by simpa using hlt (j + 1) (by omega)) (fun hl => by simpa using h (by simpa using hl))]
      by_cases he : k < ys.length ∧ ys.getD k 0 = x
      · rw [if_pos he, if_pos (by simpa using he)]
      · rw [if_neg he, if_neg (by simpa using he)]
        simp
theorem ints_take {w : World} {a : Option Addr} {n c : Nat} {zs : List Int} (h : IntsV w (.slice a n c) zs) {k : Nat} (hk : k ≤ zs.length) : IntsV w (.slice a k c) (zs.take k) := by
  obtain ⟨a', c', he, hr⟩ := h
  injection he with e1 e2 e3
  subst e1 e3
  refine ⟨a, c, by rw [List.length_take, Nat.min_eq_left hk], fun hz => ?_⟩
  obtain ⟨d, hd, hsp, hb, hc⟩ := hr (by intro e; rw [e] at hz; simp at hz)
  refine ⟨d, hd, hsp, hb, fun i hi => ?_⟩
  rw [List.getElem_take]
  exact hc i (by rw [List.length_take] at hi; omega)
theorem ints_drop {w : World} {b o n c c' : Nat} {zs : List Int} (h : IntsV w (.slice (some ⟨b, o, none⟩) n c) zs) {k : Nat} (hk : k < zs.length) : IntsV w (.slice (some ⟨b, o + k, none⟩) (zs.length - k) c') (zs.drop k) := by
  obtain ⟨a', c1, he, hr⟩ := h
  injection he with e1 e2 e3
  subst e1
  refine ⟨_, c', by rw [List.length_drop], fun _ => ?_⟩
  obtain ⟨d, hd, hsp, hb, hc⟩ := hr (by intro e; rw [e] at hk; simp at hk)
  injection hd with hd
  subst hd
  refine ⟨⟨b, o + k, none⟩, rfl, rfl, hb, fun i hi => ?_⟩
  rw [List.getElem_drop]
  have := hc (k + i) (by rw [List.length_drop] at hi; omega)
  show w.cell? ⟨b, o + k + i, none⟩ = _
  rw [Nat.add_assoc]
  exact this
theorem one_ints {w : World} {b : Nat} (x : Int) (hb : b = w.heap.size) : IntsV (w.alloc (.cells #[.int .i64 x] 3)) (.slice (some ⟨b, 0, none⟩) 1 1) [x] := by
  subst hb
  refine ⟨_, 1, rfl, fun _ => ⟨⟨w.heap.size, 0, none⟩, rfl, rfl, by have := blk_lt (alloc_heap_new w (.cells #[.int .i64 x] 3)); exact this, fun i hi => ?_⟩⟩
  have hi0 : i = 0 := by simpa using hi
  subst hi0
  exact news_one 0 (.int .i64 x) rfl
set_option maxHeartbeats 4000000 in
theorem l1Put_any (a : Option Addr) (c : Nat) (zs : List Int) (x : Int) (w : World) (hv : IntsV w (.slice a zs.length c) zs) (hcp : zs.length ≤ c) (hl : zs.length ≤ 1000000) :
    Calls Tryd.prog 188 #[.slice a zs.length c, .int .i64 x] w fun e w' => ∃ v', e = .returned v' ∧ ((v' = .slice a zs.length c ∧ putL zs x = zs ∧ w.grownBy w' none) ∨ Sep w' [QA v' (putL zs x), KeepA w]) := by
  have HV := Lib.hid hv
  generalize hm : zs.length = m at *
  have HM := Lib.hid hm
  clear hv hm
  go_enter Tryd.func188, Tryd.ntmps188
  go_wp2_with fail
  go_loopw [5] (fun i wr => ∃ k : Nat, k ≤ m ∧ i = .int .i64 k ∧ w.grownBy wr none ∧ ∀ j, j < k → zs.getD j 0 < x) (fun i _ => m - (intOf i).toNat)
  case atStart => exact ⟨0, by omega, rfl, grownBy_refl _ _, fun j hj => absurd hj (Nat.not_lt_zero _)⟩
  case round =>
    obtain ⟨k, hk, rfl, hg, hne⟩ := hrel
    have HG := Lib.hid hg; have HNE := Lib.hid hne
    have hv2 := HV.out.carry hg
    have HV2 := Lib.hid hv2
    clear hg hne
    by_cases hlt : k < m
    · have hkz : k < zs.length := by rw [HM.out]; exact hlt
      have hki : (k : Int) < (m : Int) := by omega
      obtain ⟨b, o, rfl⟩ := IntsV.addr hv2 (by omega)
      have hc0 := hv2.cellN hkz
      by_cases he : zs.getD k 0 < x
      · have HE := Lib.hid he
        generalize hy : zs.getD k 0 = y at *
        have HY := Lib.hid hy
        clear hv2 hy
        go_wp2
        go_roundw
        case rel => exact ⟨k + 1, by omega, by go_num, HG.out, fun j hj => by
          by_cases e : j = k
          · subst e; rw [HY.out]; exact HE.out
          · exact HNE.out j (by omega)⟩
        case measure => simp [intOf]; omega
      · have hput := put_at k zs (by omega) HNE.out (fun _ => he)
        by_cases heq : zs.getD k 0 = x
        · rw [if_pos ⟨hkz, heq⟩] at hput
          have HP := Lib.hid hput
          rw [heq] at hc0
          clear hv2 hput he heq
          go_wp2
          go_ret
          exact ⟨_, rfl, Or.inl ⟨rfl, HP.out, HG.out⟩⟩
        · rw [if_neg (fun h => heq h.2)] at hput
          have HP := Lib.hid hput
          have HS0 := Lib.hid (((Sep.start w).grown HG.out).emptyI.queue)
          have HT := Lib.hid ((ints_take HV2.out (k := k) (by rw [HM.out]; omega)).carry (grownBy_alloc wr (.cells #[] 3) none))
          have HT1 := Lib.hid (show ([] : List Int).length + (zs.take k).length ≤ 1000000000 by rw [List.length_take]; simp; omega)
          have HT2 := Lib.hid (show (([] : List Int) ++ zs.take k).length + [x].length ≤ 1000000000 by simp; omega)
          have HT3 := Lib.hid (fun (ys : List Int) (hy : ys.length ≤ 1000000) => show (([] : List Int) ++ zs.take k ++ [x]).length + ys.length ≤ 1000000000 by simp; omega)
          have hgt : (0 : Nat) < c - k := by omega
          have HDR := Lib.hid fun (W : World) (h : w.grownBy W none) => ints_drop (c' := c - k) (HV.out.carry h) hkz
          rw [HM.out] at HDR
          generalize zs.getD k 0 = y at *
          clear hv2 hput hkz
          go_wp2_with (first
            | (at_builtin
               refine app_Q rfl (.tmp 34) (.tmp 37) rfl ?_ ?_ HS0.out HT.out HT1.out ?_
               · rfl
               · rfl
               intro v5 w5 h5
               have HS5 := Lib.hid h5
               clear h5)
            | (at_builtin
               refine app_Q rfl (.tmp 39) (.tmp 41) rfl ?_ ?_ (HS5.out.al (.cells #[.int .i64 x] 3)) (one_ints (w := w5) (b := w5.heap.size) x rfl) HT2.out ?_
               · rfl
               · rfl
               intro v6 w6 h6
               have HS6 := Lib.hid h6
               clear h6)
            | (at_builtin
               refine app_Q rfl (.tmp 43) (.tmp 46) rfl ?_ ?_ HS6.out (HDR.out _ HS6.out.tl.hd) (HT3.out _ (by rw [List.length_drop, HM.out]; omega)) ?_
               · rfl
               · rfl
               intro v7 w7 h7
               have HS7 := Lib.hid h7
               clear h7))
          go_ret
          have hf := HS7.out
          rw [show ([] ++ zs.take k ++ [x] ++ zs.drop k) = putL zs x by rw [HP.out]; simp] at hf
          exact ⟨_, rfl, Or.inr hf⟩
    · have hkm : k = m := by omega
      have hmm := HM.out
      have hput := put_at k zs (by omega) HNE.out (fun h => absurd h (by omega))
      have hnk : ¬ k < zs.length := by omega
      rw [if_neg (fun h => hnk h.1)] at hput
      have HP := Lib.hid hput
      have HS0 := Lib.hid (((Sep.start w).grown HG.out).emptyI.queue)
      have HT := Lib.hid ((ints_take HV2.out (k := k) (by rw [HM.out]; omega)).carry (grownBy_alloc wr (.cells #[] 3) none))
      have HT1 := Lib.hid (show ([] : List Int).length + (zs.take k).length ≤ 1000000000 by rw [List.length_take]; simp; omega)
      have HT2 := Lib.hid (show (([] : List Int) ++ zs.take k).length + [x].length ≤ 1000000000 by simp; omega)
      have HT3 := Lib.hid (fun (ys : List Int) (hy : ys.length ≤ 1000000) => show (([] : List Int) ++ zs.take k ++ [x]).length + ys.length ≤ 1000000000 by simp; omega)
      have hdn : zs.drop k = [] := List.drop_of_length_le (by omega)
      have HDN := Lib.hid hdn
      subst hkm
      clear hv2 hput hnk hlt hdn hmm
      rcases a with _ | ⟨ab, ao, asp⟩
      all_goals
       go_wp2_with (first
         | (at_builtin
            refine app_Q rfl (.tmp 34) (.tmp 37) rfl ?_ ?_ HS0.out HT.out HT1.out ?_
            · rfl
            · rfl
            intro v5 w5 h5
            have HS5 := Lib.hid h5
            clear h5)
         | (at_builtin
            refine app_Q rfl (.tmp 39) (.tmp 41) rfl ?_ ?_ (HS5.out.al (.cells #[.int .i64 x] 3)) (one_ints (w := w5) (b := w5.heap.size) x rfl) HT2.out ?_
            · rfl
            · rfl
            intro v6 w6 h6
            have HS6 := Lib.hid h6
            clear h6)
         | (at_builtin
            refine app_Q (zs := [] ++ zs.take k ++ [x]) (ys := []) (u := ?_) rfl (.tmp 43) (.tmp 46) rfl ?_ ?_ HS6.out ?_ ?_ ?_
            rotate_left
            · rfl
            · rfl
            · exact ⟨_, _, rfl, fun h => absurd rfl h⟩
            · exact HT3.out [] (by simp)
            intro v7 w7 h7
            have HS7 := Lib.hid h7
            clear h7))
       all_goals
         go_ret
         have hf := HS7.out
         rw [show ([] ++ zs.take k ++ [x] ++ ([] : List Int)) = putL zs x by rw [HP.out, HDN.out]; simp] at hf
         exact ⟨_, rfl, Or.inr hf⟩
end Go.Proofs.YtkamcgonacmieaaDoor

/-
  Sorted lists of gates: what the reference's pruning keeps: plain law. Conditions: as each says.
-/
namespace Go.Proofs.YtkamcgonacmieaaDoor
open Go.RowKit
set_option linter.unusedVariables false
set_option maxRecDepth 100000

def Srt (L : List Int) : Prop := L.Pairwise (· < ·)
theorem mem_put {x y : Int} (L : List Int) : y ∈ putL L x ↔ y = x ∨ y ∈ L := by
  induction L with
  | nil => simp [putL]
  | cons z L ih =>
    unfold putL
    split
    · rw [List.mem_cons, ih, List.mem_cons]
      constructor
      · rintro (h | h | h)
        · exact Or.inr (Or.inl h)
        · exact Or.inl h
        · exact Or.inr (Or.inr h)
      · rintro (h | h | h)
        · exact Or.inr (Or.inl h)
        · exact Or.inl h
        · exact Or.inr (Or.inr h)
    · split
      · rename_i h
        subst h
        rw [List.mem_cons]
        constructor
        · exact Or.inr
        · rintro (h | h)
          · exact Or.inl h
          · exact h
      · rw [List.mem_cons]
theorem put_sorted {x : Int} (L : List Int) (h : Srt L) : Srt (putL L x) := by
  induction L with
  | nil => simp [putL, Srt]
  | cons z L ih =>
    obtain ⟨h1, h2⟩ := List.pairwise_cons.1 h
    unfold putL
    split
    · rename_i hz
      refine List.pairwise_cons.2 ⟨fun y hy => ?_, ih h2⟩
      rcases (mem_put L).1 hy with rfl | hy
      · exact hz
      · exact h1 y hy
    · split
      · exact h
      · rename_i h3 h4
        refine List.pairwise_cons.2 ⟨fun y hy => ?_, h⟩
        rcases List.mem_cons.1 hy with rfl | hy
        · omega
        · have := h1 y hy
          omega
theorem put_has {x : Int} (L : List Int) (h : Srt L) (hx : x ∈ L) : putL L x = L := by
  induction L with
  | nil => cases hx
  | cons z L ih =>
    obtain ⟨h1, h2⟩ := List.pairwise_cons.1 h
    unfold putL
    split
    · rename_i hz
      rcases List.mem_cons.1 hx with rfl | hx
      · omega
      · rw [ih h2 hx]
    · split
      · rfl
      · rename_i h3 h4
        rcases List.mem_cons.1 hx with rfl | hx
        · exact absurd rfl h4
        · have := h1 x hx
          omega
theorem put_new {x : Int} (L : List Int) (hx : ¬ x ∈ L) : (putL L x).length = L.length + 1 := by
  induction L with
  | nil => rfl
  | cons z L ih =>
    unfold putL
    split
    · rw [List.length_cons, ih fun h => hx (List.mem_cons_of_mem _ h), List.length_cons]
    · split
      · rename_i h
        subst h
        exact absurd (by simp) hx
      · rfl
theorem put_len {x : Int} (L : List Int) (h : Srt L) : L.length ≤ (putL L x).length := by
  by_cases hx : x ∈ L
  · rw [put_has L h hx]
    exact Nat.le_refl _
  · rw [put_new L hx]
    exact Nat.le_succ _
theorem srt_len {n : Int} (L : List Int) : ∀ a, Srt L → (∀ x ∈ L, a ≤ x ∧ x < n) → L.length ≤ (n - a).toNat := by
  induction L with
  | nil => intro a _ _; simp
  | cons z L ih =>
    intro a h hr
    obtain ⟨h1, h2⟩ := List.pairwise_cons.1 h
    have hz := hr z (by simp)
    have := ih (z + 1) h2 fun x hx => ⟨by have := h1 x hx; omega, (hr x (List.mem_cons_of_mem _ hx)).2⟩
    rw [List.length_cons]
    omega
theorem srt_ext (L L' : List Int) (h : Srt L) (h' : Srt L') (he : ∀ x, x ∈ L ↔ x ∈ L') : L = L' := by
  induction L generalizing L' with
  | nil =>
    cases L' with
    | nil => rfl
    | cons z L' => exact absurd ((he z).2 (by simp)) (by simp)
  | cons z L ih =>
    cases L' with
    | nil => exact absurd ((he z).1 (by simp)) (by simp)
    | cons y L' =>
      obtain ⟨h1, h2⟩ := List.pairwise_cons.1 h
      obtain ⟨h3, h4⟩ := List.pairwise_cons.1 h'
      have hzy : z = y := by
        rcases List.mem_cons.1 ((he z).1 (by simp)) with e | e
        · exact e
        · rcases List.mem_cons.1 ((he y).2 (by simp)) with e2 | e2
          · exact e2.symm
          · have := h3 z e
            have := h1 y e2
            omega
      subst hzy
      rw [ih L' h2 h4 fun x => ?_]
      constructor
      · intro hx
        rcases List.mem_cons.1 ((he x).1 (List.mem_cons_of_mem _ hx)) with e | e
        · have := h1 x hx
          omega
        · exact e
      · intro hx
        rcases List.mem_cons.1 ((he x).2 (List.mem_cons_of_mem _ hx)) with e | e
        · have := h3 x hx
          omega
        · exact e
theorem mem_mark (bs : List Bool) : ∀ k, ∀ x, x ∈ markTo bs k ↔ 0 ≤ x ∧ x < k ∧ bs.getD x.toNat false = true := by
  intro k
  induction k with
  | zero =>
    intro x
    constructor
    · intro h; cases h
    · intro h; omega
  | succ k ih =>
    intro x
    have hx : ∀ y : Int, y = (k : Int) → y.toNat = k := fun y h => by omega
    unfold markTo
    split
    · rename_i hk
      rw [List.mem_append, ih x, List.mem_singleton]
      constructor
      · rintro (h | h)
        · exact ⟨h.1, by omega, h.2.2⟩
        · exact ⟨by omega, by omega, by rw [hx x h]; exact hk⟩
      · rintro ⟨h1, h2, h3⟩
        by_cases e : x = (k : Int)
        · exact Or.inr e
        · exact Or.inl ⟨h1, by omega, h3⟩
    · rename_i hk
      rw [ih x]
      constructor
      · rintro ⟨h1, h2, h3⟩
        exact ⟨h1, by omega, h3⟩
      · rintro ⟨h1, h2, h3⟩
        refine ⟨h1, ?_, h3⟩
        have : x ≠ (k : Int) := fun e => hk (by rw [hx x e] at h3; exact h3)
        omega
theorem mark_srt (bs : List Bool) : ∀ k, Srt (markTo bs k) := by
  intro k
  induction k with
  | zero => exact List.Pairwise.nil
  | succ k ih =>
    unfold markTo
    split
    · refine List.pairwise_append.2 ⟨ih, by simp, fun a ha b hb => ?_⟩
      rw [List.mem_singleton] at hb
      have := mark_rng bs k a ha
      omega
    · exact ih
/-- What the reference keeps so far. -/
structure PrS (gs : List Gt) (os L : List Int) : Prop where
  srt : Srt L
  rng : ∀ x ∈ L, 0 ≤ x ∧ x < gs.length
  use : ∀ x ∈ L, ∀ m', m'.length = gs.length → UseC gs os m' → m'.getD x.toNat false = true
theorem PrS.len {gs : List Gt} {os L : List Int} (h : PrS gs os L) : L.length ≤ gs.length := by
  have := srt_len L 0 h.srt h.rng
  omega
theorem PrS.nil {gs : List Gt} {os : List Int} : PrS gs os [] := ⟨List.Pairwise.nil, (fun _ h => by cases h), (fun _ h => by cases h)⟩
theorem PrS.out {gs : List Gt} {os L : List Int} {x : Int} (h : PrS gs os L) (hx : x ∈ os) (hr : 0 ≤ x ∧ x < gs.length) : PrS gs os (putL L x) := by
  refine ⟨put_sorted L h.srt, fun y hy => ?_, fun y hy => ?_⟩
  · rcases (mem_put L).1 hy with rfl | hy
    · exact hr
    · exact h.rng y hy
  · rcases (mem_put L).1 hy with rfl | hy
    · exact fun m' _ h2 => h2.1 _ hx
    · exact h.use y hy
theorem PrS.op {gs : List Gt} {os L : List Int} {i x : Int} (h : PrS gs os L) (hi : i ∈ L) (hx : x ∈ opsL (at3 gs i)) (hr : 0 ≤ x ∧ x < gs.length) : PrS gs os (putL L x) := by
  refine ⟨put_sorted L h.srt, fun y hy => ?_, fun y hy => ?_⟩
  · rcases (mem_put L).1 hy with rfl | hy
    · exact hr
    · exact h.rng y hy
  · rcases (mem_put L).1 hy with rfl | hy
    · exact fun m' h1 h2 => h2.2 i.toNat (h.use i hi m' h1 h2) _ hx
    · exact h.use y hy
/-- The state of a round: L0 at its start, L now; whether something was new; the first j of L0 are looked at, and the first k operands of the next. -/
structure PrR (gs : List Gt) (os L0 L : List Int) (ag : Bool) (j : Nat) (xs : List Int) : Prop where
  s : PrS gs os L
  sub : ∀ x ∈ L0, x ∈ L
  off : ag = false → L = L0 ∧ (∀ i, i < j → ∀ x ∈ opsL (at3 gs (L0.getD i 0)), x ∈ L0) ∧ ∀ x ∈ xs, x ∈ L0
  on : ag = true → L0.length < L.length
theorem PrR.start {gs : List Gt} {os L : List Int} (h : PrS gs os L) : PrR gs os L L false 0 [] :=
  ⟨h, fun _ h => h, fun _ => ⟨rfl, fun _ h => absurd h (Nat.not_lt_zero _), (fun _ h => by cases h)⟩, (fun h => by cases h)⟩
theorem PrR.step {gs : List Gt} {os L0 L xs : List Int} {ag : Bool} {j : Nat} {x : Int} (h : PrR gs os L0 L ag j xs) (hj : j < L0.length) (hx : x ∈ opsL (at3 gs (L0.getD j 0))) (hr : 0 ≤ x ∧ x < gs.length) :
    PrR gs os L0 (putL L x) (ag || !decide (x ∈ L)) j (xs ++ [x]) := by
  have hm : L0.getD j 0 ∈ L := h.sub _ (getD_mem' hj)
  refine ⟨h.s.op hm hx hr, fun y hy => (mem_put L).2 (Or.inr (h.sub y hy)), fun ha => ?_, fun ha => ?_⟩
  · rw [Bool.or_eq_false_iff] at ha
    obtain ⟨e, h1, h2⟩ := h.off ha.1
    have hxl : x ∈ L := by simpa using ha.2
    refine ⟨by rw [put_has L h.s.srt hxl]; exact e, h1, fun y hy => ?_⟩
    rcases List.mem_append.1 hy with hy | hy
    · exact h2 y hy
    · rw [List.mem_singleton] at hy
      subst hy
      rw [← e]
      exact hxl
  · rw [Bool.or_eq_true] at ha
    rcases ha with ha | ha
    · exact Nat.lt_of_lt_of_le (h.on ha) (put_len L h.s.srt)
    · have hxl : ¬ x ∈ L := by simpa using ha
      rw [put_new L hxl]
      have : L0.length ≤ L.length := by
        cases hag : ag with
        | true => exact Nat.le_of_lt (h.on hag)
        | false => rw [(h.off hag).1]; exact Nat.le_refl _
      omega
theorem PrR.next {gs : List Gt} {os L0 L xs : List Int} {ag : Bool} {j : Nat} (h : PrR gs os L0 L ag j xs) (hx : xs = opsL (at3 gs (L0.getD j 0))) : PrR gs os L0 L ag (j + 1) [] := by
  refine ⟨h.s, h.sub, fun ha => ?_, h.on⟩
  obtain ⟨e, h1, h2⟩ := h.off ha
  refine ⟨e, fun i hi => ?_, (fun _ h => by cases h)⟩
  by_cases hij : i = j
  · subst hij
    rw [← hx]
    exact h2
  · exact h1 i (by omega)
theorem PrR.done {gs : List Gt} {os L0 L xs : List Int} (h : PrR gs os L0 L false L0.length xs) (hos : ∀ x ∈ os, x ∈ L0) (hr : ∀ g ∈ gs, ∀ x ∈ opsL g, 0 ≤ x ∧ x < gs.length) (hor : ∀ x ∈ os, 0 ≤ x ∧ x < gs.length) : L = markL (useL gs os) := by
  obtain ⟨e, h1, -⟩ := h.off rfl
  subst e
  have hu := use_spec hr hor
  refine srt_ext _ _ h.s.srt (mark_srt _ _) fun x => ?_
  unfold markL
  rw [mem_mark, hu.1.1]
  constructor
  · exact fun hx => ⟨(h.s.rng x hx).1, (h.s.rng x hx).2, h.s.use x hx _ hu.1.1 hu.2⟩
  · rintro ⟨hx0, hx1, hx2⟩
    let m : List Bool := (List.range gs.length).map fun i : Nat => decide ((i : Int) ∈ L)
    have hml : m.length = gs.length := by simp [m]
    have hm : ∀ i : Nat, m.getD i false = true ↔ i < gs.length ∧ (i : Int) ∈ L := by
      intro i
      by_cases hi : i < gs.length
      · show ((List.range gs.length).map _).getD i false = true ↔ _
        rw [List.getD_eq_getElem?_getD, List.getElem?_map, List.getElem?_range hi]
        simp [hi]
      · rw [List.getD_eq_getElem?_getD, List.getElem?_eq_none (by rw [hml]; omega)]
        simp [hi]
    have huc : UseC gs os m := by
      refine ⟨fun y hy => (hm _).2 ?_, fun i hi y hy => (hm _).2 ?_⟩
      · have h2 := hor y hy
        refine ⟨by omega, ?_⟩
        rw [Int.toNat_of_nonneg h2.1]
        exact hos y hy
      · obtain ⟨hi1, hi2⟩ := (hm i).1 hi
        have h2 := hr _ (getD_mem3 g0 hi1) y hy
        refine ⟨by omega, ?_⟩
        rw [Int.toNat_of_nonneg h2.1]
        obtain ⟨k, hk, hke⟩ := List.getElem_of_mem hi2
        refine h1 k hk y ?_
        rw [List.getD_eq_getElem?_getD, List.getElem?_eq_getElem hk, Option.getD_some, hke]
        exact hy
    have h3 := hu.1.2 m hml huc x.toNat hx2
    have h4 := ((hm _).1 h3).2
    rw [Int.toNat_of_nonneg hx0] at h4
    exact h4
end Go.Proofs.YtkamcgonacmieaaDoor

/-
  Pruning in the reference: a gate with other operands; the circuit of the gates that are needed. Conditions: at most 1,000 gates and outputs; operands and outputs are gates.
-/
namespace Go.Proofs.YtkamcgonacmieaaDoor
open Go.RowKit
set_option linter.unusedVariables false
set_option maxRecDepth 100000

set_option maxHeartbeats 4000000 in
theorem crMoved_any (y : Gt) (u : Value) (zs : List Int) (w : World) (hu : IntsV w u zs) (hS : ∀ x ∈ opsL y, 0 ≤ x ∧ x < zs.length) :
    Calls Tryd.prog 190 #[gtV y, u] w fun e w' => e = .returned (gtV (withL (ofL zs) y)) ∧ w.grownBy w' none := by
  unfold gtV
  obtain ⟨k, a, b, v⟩ := y
  simp only
  have HU := Lib.hid hu
  obtain ⟨ua, uc, rfl⟩ := hu.shape
  clear hu
  by_cases h3 : k = 3
  · subst h3
    obtain ⟨ra0, ra1⟩ := hS a (by simp [opsL])
    obtain ⟨rb0, rb1⟩ := hS b (by simp [opsL])
    obtain ⟨ia, rfl⟩ := Int.eq_ofNat_of_zero_le ra0
    obtain ⟨ib, rfl⟩ := Int.eq_ofNat_of_zero_le rb0
    have hia : ia < zs.length := by omega
    have hib : ib < zs.length := by omega
    obtain ⟨ub, uo, rfl⟩ := IntsV.addr HU.out (by omega)
    have ca := fun o1 o2 => (HU.out.carry (gr2 w o1 o2)).cellN hia
    have cb := fun o1 o2 => (HU.out.carry (gr2 w o1 o2)).cellN hib
    have hw : withL (ofL zs) ⟨3, ia, ib, v⟩ = ⟨3, zs.getD ia 0, zs.getD ib 0, v⟩ := by simp [withL, ofL]
    rw [hw]
    clear hw ra0 ra1 rb0 rb1 HU hS
    generalize zs.getD ia 0 = fa at *
    generalize zs.getD ib 0 = fb at *
    generalize zs.length = m at *
    go_enter Tryd.func190, Tryd.ntmps190
    go_wp2_with fail
    refine bodyPost_ret_by (v := .agg #[.int .i64 3, .int .i64 fa, .int .i64 fb, .int .i64 v]) ?_ rfl ⟨rfl, gr2 _ _ _⟩
    simp [results, go_sem, *]
  · by_cases h45 : k = 4 ∨ k = 5
    · obtain ⟨ra0, ra1⟩ := hS a (by simp [opsL, h3, h45])
      obtain ⟨ia, rfl⟩ := Int.eq_ofNat_of_zero_le ra0
      have hia : ia < zs.length := by omega
      obtain ⟨ub, uo, rfl⟩ := IntsV.addr HU.out (by omega)
      have ca := fun o1 o2 => (HU.out.carry (gr2 w o1 o2)).cellN hia
      have hw : withL (ofL zs) ⟨k, ia, b, v⟩ = ⟨k, zs.getD ia 0, b, v⟩ := by simp [withL, ofL, h3, h45]
      rw [hw]
      have e3 : (k == 3) = false := by simpa using h3
      clear hw ra0 ra1 HU hS
      generalize zs.getD ia 0 = fa at *
      generalize zs.length = m at *
      by_cases h4 : k = 4
      · subst h4
        clear h45 e3 h3
        go_enter Tryd.func190, Tryd.ntmps190
        go_wp2_with fail
        refine bodyPost_ret_by (v := .agg #[.int .i64 4, .int .i64 fa, .int .i64 b, .int .i64 v]) ?_ rfl ⟨rfl, gr2 _ _ _⟩
        simp [results, go_sem, *]
      · obtain rfl : k = 5 := by omega
        clear h45 e3 h4 h3
        go_enter Tryd.func190, Tryd.ntmps190
        go_wp2_with fail
        refine bodyPost_ret_by (v := .agg #[.int .i64 5, .int .i64 fa, .int .i64 b, .int .i64 v]) ?_ rfl ⟨rfl, gr2 _ _ _⟩
        simp [results, go_sem, *]
    · have hw : withL (ofL zs) ⟨k, a, b, v⟩ = ⟨k, a, b, v⟩ := by simp [withL, h3, h45]
      rw [hw]
      simp only [not_or] at h45
      have e3 : (k == 3) = false := by simpa using h3
      have e4 : (k == 4) = false := by simpa using h45.1
      have e5 : (k == 5) = false := by simpa using h45.2
      clear hw h3 h45 HU hS
      go_enter Tryd.func190, Tryd.ntmps190
      go_wp2_with fail
      refine bodyPost_ret_by (v := .agg #[.int .i64 k, .int .i64 a, .int .i64 b, .int .i64 v]) ?_ rfl ⟨rfl, gr2 _ _ _⟩
      simp [results, go_sem, *]
/-- A list that can be read, within its slice's room. -/
def KeepV (w : World) (v : Value) (L : List Int) : Prop := ∃ a c, v = .slice a L.length c ∧ L.length ≤ c ∧ IntsV w v L
theorem KeepV.carry {w w' : World} {v : Value} {L : List Int} (h : KeepV w v L) (hg : w.grownBy w' none) : KeepV w' v L := by
  obtain ⟨a, c, h1, h2, h3⟩ := h
  exact ⟨a, c, h1, h2, h3.carry hg⟩
theorem QRow.ints {w : World} {v : Value} {zs : List Int} (h : QRow w v zs) : KeepV w v zs := by
  obtain ⟨a, cap, rfl, h1, h2, h3⟩ := h
  refine ⟨a, cap, rfl, h1, a, cap, rfl, fun hz => ?_⟩
  have hp : 0 < zs.length := List.length_pos_iff.2 hz
  obtain ⟨g, off, rfl, hg, _, h5⟩ := h3 (by omega)
  refine ⟨⟨g, off, none⟩, rfl, rfl, hg, fun i hi => ?_⟩
  have := h5 i hi
  rw [List.getD_eq_getElem?_getD, List.getElem?_eq_getElem hi] at this
  exact this
theorem QA_own {v : Value} {zs : List Int} : ∀ k, (QA v zs).sees k → (QA v zs).foot k := fun _ h => h
theorem l1Put_S (v : Value) (L : List Int) (x : Int) (w : World) (l : List Asrt) (h : Sep w (QA v L :: l)) (hl : L.length ≤ 1000000) :
    Calls Tryd.prog 188 #[v, .int .i64 x] w fun e w' => ∃ v', e = .returned v' ∧ Sep w' (QA v' (putL L x) :: l) ∧ w.grownBy w' none := by
  obtain ⟨a, c, rfl, h1, h2⟩ := QRow.ints h.hd
  refine (l1Put_any a c L x w h2 h1 hl).mono ?_
  rintro e w' ⟨v', rfl, h3 | h3⟩
  · obtain ⟨rfl, he, hg⟩ := h3
    refine ⟨_, rfl, ?_, hg⟩
    rw [he]
    exact h.grown hg
  · exact ⟨_, rfl, h.tl.graft1 h3 QA_own, h3.tl.hd⟩
end Go.Proofs.YtkamcgonacmieaaDoor

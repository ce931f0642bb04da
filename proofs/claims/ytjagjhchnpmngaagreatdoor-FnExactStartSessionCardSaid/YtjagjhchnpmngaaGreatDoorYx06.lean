/-
  Two graphs one behind the other, in the program. Conditions: the graphs are valid and fit.
-/
import Derived.Test.YtjagjhchnpmngaaGreatDoorYx05
import Derived.Test.YtjagjhchnpmngaaGreatDoorYx01
import Derived.Test.YtjagjhchnpmngaaGreatDoorYx04
namespace Go.Proofs.YtjagjhchnpmngaaGreatDoor
open Go.RowKit
set_option linter.unusedVariables false
set_option linter.unusedSimpArgs false
set_option maxRecDepth 100000

theorem info_pairT : (Tryz.prog.info? pairE.ty).map (fun i => (i.zero, i.size, i.bytes)) = some (some (.agg #[.int .i64 0, .int .i64 0]), pairE.sz, 16) := by kernel_rfl
theorem pair_oneT (a c : Int) : ∀ u ∈ pairE.cs (a, c), u.oneCell' = true := by
  intro u hu
  simp only [pairE, List.mem_cons, List.not_mem_nil, or_false] at hu
  rcases hu with rfl | rfl <;> rfl
theorem seqP_len {a b : Gr} (h : a.o.length = b.i.length) : (seqP a b).length = a.o.length := by
  unfold seqP; rw [List.length_zip, List.length_map]; omega
theorem seqP_take {a b : Gr} {j : Nat} (h : a.o.length = b.i.length) (hj : j < a.o.length) : (seqP a b).take (j + 1) = (seqP a b).take j ++ [(a.o.getD j 0, ofL (shL a b) (b.i.getD j 0))] := by
  have hl : j < (seqP a b).length := by rw [seqP_len h]; exact hj
  have hl' : j < (a.o.zip (b.i.map (ofL (shL a b)))).length := hl
  show (a.o.zip (b.i.map (ofL (shL a b)))).take (j + 1) = (a.o.zip (b.i.map (ofL (shL a b)))).take j ++ _
  rw [List.take_succ_eq_append_getElem hl', List.getElem_zip, List.getElem_map, List.getD_eq_getElem?_getD, List.getD_eq_getElem?_getD, List.getElem?_eq_getElem hj, List.getElem?_eq_getElem (show j < b.i.length by omega)]
  rfl
set_option maxHeartbeats 8000000 in
theorem seqGraphs_any (a b : Gr) (ev iv ov ev' iv' ov' : Value) (w : World) (he : RdE edgeE w ev a.es) (hi : IntsV w iv a.i) (ho : IntsV w ov a.o) (he' : RdE edgeE w ev' b.es) (hi' : IntsV w iv' b.i) (ho' : IntsV w ov' b.o) (hga : grB a = true) (hgb : grB b = true) (hl : a.o.length = b.i.length) :
    Calls Tryz.prog 47 #[grV a.n ev iv ov, grV b.n ev' iv' ov'] w (OwnG (seqG a b) w) := by
  obtain ⟨n, hn, hn1, a1, a2, a3, a4, a5, _⟩ := grB_n hga
  obtain ⟨m, hm, hm1, b1, b2, b3, b4, b5, _⟩ := grB_n hgb
  have hra := gr_rng hga hn
  have hrb := gr_rng hgb hm
  have hk := seq_ok hga hgb hn hm hl
  have hsh : shL a b = frL n m := by unfold shL; rw [hn, hm]; rfl
  have HBS := Lib.hid fun W (hW : w.grownBy W none) => beside_any a b ev iv ov ev' iv' ov' W (he.carry hW) (hi.carry hW) (ho.carry hW) (he'.carry hW) (hi'.carry hW) (ho'.carry hW) hga hgb
  have HCL := Lib.hid fun W (hW : w.grownBy W none) => cloneT_any iv a.i W (hi.carry hW) (by omega)
  have HFR := Lib.hid fun W => from_any n m W (by omega) (by omega)
  have HMP := Lib.hid fun tv W (hW : w.grownBy W none) (ht : IntsV W tv (frL n m)) => mapped_any tv ov' (frL n m) b.o W ht (ho'.carry hW) (by omega) (fun x hx => by rw [frL_len]; exact hrb x (mem_wiresG.2 (Or.inr (Or.inl hx))))
  have HGL := Lib.hid fun u0 u1 u2 pv W (h1 : RdE edgeE W u0 (seqI a b).es) (h2 : IntsV W u1 (seqI a b).i) (h3 : IntsV W u2 (seqI a b).o) (h4 : RdR pairE W pv (seqP a b)) => glue_any u0 u1 u2 (seqI a b) (n + m) pv (seqP a b) W h1 h2 h3 h4 hk.hm hk.m1 hk.e hk.i hk.o hk.le hk.w hk.p hk.l
  have HSQ := Lib.hid fun j (hj : j < a.o.length) => @seqP_take a b j hl hj
  have HPL := Lib.hid (seqP_len hl)
  have HPA := Lib.hid (show ∀ k, a.o.length ≤ k → (seqP a b).take k = seqP a b from fun k hk => List.take_of_length_le (by rw [seqP_len hl]; exact hk))
  have HYR := Lib.hid (show ∀ j, j < b.i.length → 0 ≤ b.i.getD j 0 ∧ b.i.getD j 0 < (m : Int) from fun j hj => hrb _ (mem_wiresG.2 (Or.inl (by rw [List.getD_eq_getElem?_getD, List.getElem?_eq_getElem hj]; exact List.getElem_mem _))))
  have HIE := Lib.hid (show (seqI a b).es = a.es ++ b.es.map (mapE (shL a b)) from rfl)
  have HII := Lib.hid (show (seqI a b).i = a.i from rfl)
  have HIO := Lib.hid (show (seqI a b).o = b.o.map (ofL (frL n m)) from by rw [← hsh]; rfl)
  have HIN := Lib.hid (show (seqI a b).n = (n : Int) + m from by show a.n + b.n = _; rw [hn, hm])
  have HE := Lib.hid he; have HI := Lib.hid hi; have HO := Lib.hid ho; have HI' := Lib.hid hi'
  have hsg : seqG a b = glueG (classOf (n + m) (seqP a b)) (seqI a b) := by unfold seqG; rw [hn, hm]; rfl
  rw [hsg]
  unfold OwnG
  generalize glueG (classOf (n + m) (seqP a b)) (seqI a b) = G at *
  unfold BesideR at HBS
  rw [hn, hm] at HBS ⊢
  rw [hsh] at HSQ
  rw [HIN.out] at HGL
  unfold grV at *
  obtain ⟨ea, ec, rfl⟩ := he.shape
  obtain ⟨ia, ic, rfl⟩ := hi.shape
  obtain ⟨oa, oc, rfl⟩ := ho.shape
  obtain ⟨eb, fc, rfl⟩ := he'.shape
  obtain ⟨ib, gc, rfl⟩ := hi'.shape
  obtain ⟨ob, hc, rfl⟩ := ho'.shape
  skip
  obtain ⟨no, hno⟩ : ∃ x, a.o.length = x := ⟨_, rfl⟩
  have hno2 : b.i.length = no := by omega
  have hol : no ≤ 12 := by omega
  rw [hno] at HSQ HPL HPA HBS ⊢
  rw [hno2] at HYR HBS ⊢
  have HNO := Lib.hid hno; have HNO2 := Lib.hid hno2
  obtain ⟨ne, hne⟩ : ∃ x, a.es.length = x := ⟨_, rfl⟩
  obtain ⟨me, hme⟩ : ∃ x, b.es.length = x := ⟨_, rfl⟩
  obtain ⟨ni, hni⟩ : ∃ x, a.i.length = x := ⟨_, rfl⟩
  obtain ⟨mo, hmo⟩ : ∃ x, b.o.length = x := ⟨_, rfl⟩
  rw [hne, hme, hni, hmo] at HBS ⊢
  rw [hni] at HCL
  rw [hmo] at HMP
  clear he hi ho he' hi' ho' hga hgb hra hrb hsh hsg a1 a2 a3 a4 a5 b1 b2 b3 b4 b5 hk hn hm hl hno hno2 hne hme hni hmo
  have hs0 := (((Sep.start w).boxAt w.heap.size rfl #[.int .i64 n, .slice ea ne ec, .slice ia ni ic, .slice oa no oc] 30).boxAt (w.heap.size + 1) (by simp) #[.int .i64 m, .slice eb me fc, .slice ib no gc, .slice ob mo hc] 30).boxAt (w.heap.size + 2) (by simp) #[.int .i64 0, .slice none 0 0, .slice none 0 0, .slice none 0 0] 30
  have HS0 := Lib.hid hs0
  obtain ⟨x0, x1, x2, x3, _⟩ := gq4 hs0.tl.tl.hd
  obtain ⟨y0, y1, y2, y3, _⟩ := gq4 hs0.tl.hd
  have HK0 := Lib.hid (show w.grownBy _ none from hs0.tl.tl.tl.hd)
  clear hs0
  go_enter Tryz.func47, Tryz.ntmps47
  go_upto_region 2 with (
    go_at_call 68
    with_reducible refine (HBS.out _ HK0.out).mono ?_
    rintro e w1 ⟨u0, xs, rfl, hx, hsg⟩
    obtain ⟨ue, uc, rfl⟩ := OE.shape hsg.hd
    have HX := Lib.hid hx
    have HS1 := Lib.hid ((HS0.out.graft1 hsg OE_own).boxAt w1.heap.size rfl #[.int .i64 ((n : Int) + m), .slice ue xs.length uc, .slice none 0 0, .slice none 0 0] 30)
    clear hsg hx x0 x1 x2 x3 y0 y1 y2 y3)
  obtain ⟨ql, hql⟩ : ∃ q, xs.length = q := ⟨_, rfl⟩
  rw [hql] at HS1 ⊢
  clear hql HS0 HBS
  generalize w1.alloc (.cells #[.int .i64 ((n : Int) + m), .slice ue ql uc, .slice none 0 0, .slice none 0 0] 30) = w2 at *
  generalize w1.heap.size = xo at *
  have HS2 := Lib.hid (show Sep (w2.alloc (.cells #[] 100)) _ from Sep.emptyRT pairE HS1.out w2.heap.size rfl)
  obtain ⟨x0, x1, x2, x3, _⟩ := gq4 HS2.out.tl.tl.tl.tl.tl.hd
  go_upto_region 4 with fail
  clear x0 x1 x2 x3
  go_loopw [6, 7, 8, 16] (fun s6 _ _ s16 wr => ∃ j : Nat, j ≤ no ∧ s16 = .int .i64 j ∧ Sep wr [OR pairE s6 ((seqP a b).take j), BxA xo #[.int .i64 ((n : Int) + m), .slice ue ql uc, .slice none 0 0, .slice none 0 0] 30, OE (.slice ue ql uc) xs, BxA (w.heap.size + 2) #[.int .i64 0, .slice none 0 0, .slice none 0 0, .slice none 0 0] 30, BxA (w.heap.size + 1) #[.int .i64 m, .slice eb me fc, .slice ib no gc, .slice ob mo hc] 30, BxA w.heap.size #[.int .i64 n, .slice ea ne ec, .slice ia ni ic, .slice oa no oc] 30, KeepA w]) (fun _ _ _ s16 _ => no - (intOf s16).toNat)
  case atStart => exact ⟨0, by omega, rfl, HS2.out⟩
  case round =>
    obtain ⟨j, hj, rfl, hs⟩ := hrel
    obtain ⟨pa, pc, rfl⟩ := OwnR.shape (show OwnR pairE 0 wr _ _ from hs.hd)
    have hpl : ((seqP a b).take j).length = j := by rw [List.length_take, HPL.out]; omega
    rw [hpl] at hs ⊢
    have HPT := Lib.hid hpl
    have HSX := Lib.hid hs
    clear hs hpl HS2
    by_cases hlt : j < no
    · have hji : (j : Int) < (no : Int) := by omega
      obtain ⟨ab, ao, rfl, _, q0⟩ := (HO.out.carry HSX.out.tl.tl.tl.tl.tl.tl.hd).atD (i := j) (by rw [HNO.out]; exact hlt)
      obtain ⟨bb, bo, rfl, hbb, qb⟩ := HI'.out.atD (i := j) (by rw [HNO2.out]; exact hlt)
      have HBB := Lib.hid hbb; have HQB := Lib.hid qb
      have hyr := HYR.out j hlt
      have HTK := Lib.hid (HSQ.out j hlt)
      rw [ofL_fr hyr.1 hyr.2] at HTK
      obtain ⟨xv, hxv⟩ : ∃ x, a.o.getD j 0 = x := ⟨_, rfl⟩
      obtain ⟨yv, hyv⟩ : ∃ x, b.i.getD j 0 = x := ⟨_, rfl⟩
      rw [hxv] at q0 HTK
      rw [hyv] at HQB HTK hyr
      have hwy : IntKind.i64.wrap ((n : Int) + yv) = (n : Int) + yv := wrap_id (by omega) (by omega)
      clear hbb qb hxv hyv hyr
      go_upto_region 6 with fail
      clear q0
      have HBM := Lib.hid fun (W1 : World) (L : List Asrt) (h : Sep W1 L) (h1 : BxA w.heap.size #[.int .i64 n, .slice ea ne ec, .slice ia ni ic, .slice (some ⟨ab, ao, none⟩) no oc] 30 ∈ L) (h2 : BxA (w.heap.size + 1) #[.int .i64 m, .slice eb me fc, .slice (some ⟨bb, bo, none⟩) no gc, .slice ob mo hc] 30 ∈ L) (h3 : KeepA w ∈ L) => show W1.cell? ⟨w.heap.size, 0, none⟩ = some (.int .i64 n) ∧ W1.cell? ⟨w.heap.size + 1, 2, none⟩ = some (.slice (some ⟨bb, bo, none⟩) no gc) ∧ W1.cell? ⟨bb, bo + j, none⟩ = some (.int .i64 yv) from by
        obtain ⟨p0, _⟩ := gq4 (show W1.heap[w.heap.size]? = some (.cells #[.int .i64 n, .slice ea ne ec, .slice ia ni ic, .slice (some ⟨ab, ao, none⟩) no oc] 30 (0, 0)) from Sep.all h _ h1)
        obtain ⟨_, _, r2, _⟩ := gq4 (show W1.heap[w.heap.size + 1]? = some (.cells #[.int .i64 m, .slice eb me fc, .slice (some ⟨bb, bo, none⟩) no gc, .slice ob mo hc] 30 (0, 0)) from Sep.all h _ h2)
        have hg : w.grownBy W1 none := Sep.all h _ h3
        exact ⟨p0, r2, (World.cell?_of_block (a := ⟨bb, bo + j, none⟩) (hg.block bb HBB.out (by simp))).trans HQB.out⟩
      have HSD := Lib.hid HSX.out.dr
      have X0 := Lib.hid (HBM.out _ _ HSD.out (by simp) (by simp) (by simp))
      refine AnyL.start (fun W1 => W1.cell? ⟨w.heap.size, 0, none⟩ = some (.int .i64 n) ∧ W1.cell? ⟨w.heap.size + 1, 2, none⟩ = some (.slice (some ⟨bb, bo, none⟩) no gc) ∧ W1.cell? ⟨bb, bo + j, none⟩ = some (.int .i64 yv)) (fun _ => True) 99 (by kernel_rfl) ?_
      generalize wr.drew = w4 at *
      refine AnyL.take (i := 0) (v := ?vx1) (by rfl) (by kernel_rfl) (by kernel_rfl) (by kernel_rfl) rfl (by exact fun _ _ _ h => h) (by rfl) ?hyx1 (by exact ⟨X0.out, fun _ => trivial⟩) ?restx1
      case hyx1 => intro W hSW; (try dsimp only at hSW); first | (go_simp; done) | (go_simp; with_reducible rfl)
      try simp only [Act.put, List.setIfInBounds_toArray, List.set_cons_zero, List.set_cons_succ]
      refine AnyL.take (i := 1) (v := ?vx2) (by rfl) (by kernel_rfl) (by kernel_rfl) (by kernel_rfl) rfl (by exact fun _ _ _ h => h) (by rfl) ?hyx2 (by exact ⟨X0.out, fun _ => trivial⟩) ?restx2
      case hyx2 => intro W hSW; (try dsimp only at hSW); first | (go_simp; done) | (go_simp; with_reducible rfl)
      try simp only [Act.put, List.setIfInBounds_toArray, List.set_cons_zero, List.set_cons_succ]
      refine AnyL.take (i := 2) (v := ?vx3) (by rfl) (by kernel_rfl) (by kernel_rfl) (by kernel_rfl) rfl (by exact fun _ _ _ h => h) (by rfl) ?hyx3 (by exact ⟨X0.out, fun _ => trivial⟩) ?restx3
      case hyx3 => intro W hSW; (try dsimp only at hSW); first | (go_simp; done) | (go_simp; with_reducible rfl)
      try simp only [Act.put, List.setIfInBounds_toArray, List.set_cons_zero, List.set_cons_succ]
      refine AnyL.take (i := 3) (v := ?vx4) (by rfl) (by kernel_rfl) (by kernel_rfl) (by kernel_rfl) rfl (by exact fun _ _ _ h => h) (by rfl) ?hyx4 (by exact ⟨X0.out, fun _ => trivial⟩) ?restx4
      case hyx4 => intro W hSW; (try dsimp only at hSW); first | (go_simp; done) | (go_simp; with_reducible rfl)
      try simp only [Act.put, List.setIfInBounds_toArray, List.set_cons_zero, List.set_cons_succ]
      refine AnyL.take (i := 4) (v := ?vx5) (by rfl) (by kernel_rfl) (by kernel_rfl) (by kernel_rfl) rfl (by exact fun _ _ _ h => h) (by rfl) ?hyx5 (by exact ⟨X0.out, fun _ => trivial⟩) ?restx5
      case hyx5 => intro W hSW; (try dsimp only at hSW); first | (go_simp; done) | (go_simp; with_reducible rfl)
      try simp only [Act.put, List.setIfInBounds_toArray, List.set_cons_zero, List.set_cons_succ]
      refine AnyL.take (i := 5) (v := ?vx6) (by rfl) (by kernel_rfl) (by kernel_rfl) (by kernel_rfl) rfl (by exact fun _ _ _ h => h) (by rfl) ?hyx6 (by exact ⟨X0.out, fun _ => trivial⟩) ?restx6
      case hyx6 => intro W hSW; (try dsimp only at hSW); first | (go_simp; done) | (go_simp; with_reducible rfl)
      try simp only [Act.put, List.setIfInBounds_toArray, List.set_cons_zero, List.set_cons_succ]
      refine AnyL.take (i := 6) (v := ?vx7) (by rfl) (by kernel_rfl) (by kernel_rfl) (by kernel_rfl) rfl (by exact fun _ _ _ h => h) (by rfl) ?hyx7 (by exact ⟨X0.out, fun _ => trivial⟩) ?restx7
      case hyx7 => intro W hSW; (try dsimp only at hSW); first | (go_simp; done) | (go_simp; with_reducible rfl)
      try simp only [Act.put, List.setIfInBounds_toArray, List.set_cons_zero, List.set_cons_succ]
      refine AnyL.take (i := 7) (v := ?vx8) (by rfl) (by kernel_rfl) (by kernel_rfl) (by kernel_rfl) rfl (by exact fun _ _ _ h => h) (by rfl) ?hyx8 (by exact ⟨X0.out, fun _ => trivial⟩) ?restx8
      case hyx8 => intro W hSW; (try dsimp only at hSW); first | (go_simp; done) | (go_simp; with_reducible rfl)
      try simp only [Act.put, List.setIfInBounds_toArray, List.set_cons_zero, List.set_cons_succ]
      refine AnyL.take (i := 8) (v := ?vx9) (by rfl) (by kernel_rfl) (by kernel_rfl) (by kernel_rfl) rfl (by exact fun _ _ _ h => h) (by rfl) ?hyx9 (by exact ⟨X0.out, fun _ => trivial⟩) ?restx9
      case hyx9 => intro W hSW; (try dsimp only at hSW); first | (go_simp; done) | (go_simp; with_reducible rfl)
      try simp only [Act.put, List.setIfInBounds_toArray, List.set_cons_zero, List.set_cons_succ]
      refine AnyL.take (i := 9) (v := ?vx10) (by rfl) (by kernel_rfl) (by kernel_rfl) (by kernel_rfl) rfl (by exact fun _ _ _ h => h) (by rfl) ?hyx10 (by exact ⟨X0.out, fun _ => trivial⟩) ?restx10
      case hyx10 => intro W hSW; (try dsimp only at hSW); first | (go_simp; done) | (go_simp; with_reducible rfl)
      try simp only [Act.put, List.setIfInBounds_toArray, List.set_cons_zero, List.set_cons_succ]
      refine AnyL.take (i := 10) (v := ?vx11) (by rfl) (by kernel_rfl) (by kernel_rfl) (by kernel_rfl) rfl (by exact fun _ _ _ h => h) (by rfl) ?hyx11 (by exact ⟨X0.out, fun _ => trivial⟩) ?restx11
      case hyx11 => intro W hSW; (try dsimp only at hSW); first | (go_simp; done) | (go_simp; with_reducible rfl)
      try simp only [Act.put, List.setIfInBounds_toArray, List.set_cons_zero, List.set_cons_succ]
      have X1 := Lib.hid fun ob => HBM.out _ _ (HSD.out.al ob) (by simp) (by simp) (by simp)
      refine AnyL.step (i := 11) (by kernel_rfl) (by rfl) (fun K hK => ?_)
      go_simp
      refine hK.out _ _ (by exact X1.out _) (by exact fun _ => trivial) ?_
      clear hK K
      try simp only [Act.put, List.setIfInBounds_toArray, List.set_cons_zero, List.set_cons_succ]
      refine AnyL.step (i := 12) (by kernel_rfl) (by rfl) (fun K hK => ?_)
      refine step_app_RG (E := pairE) (y := (xv, (n : Int) + yv)) info_pairT rfl (by decide) Tryz.underlying99 (pair_oneT _ _) rfl (.tmp 21) (.tmp 32) rfl rfl rfl rfl rfl HSD.out (by rw [HPT.out]; omega) ?_
      intro g5 c5 w5 h5
      rw [HPT.out, ← HTK.out] at h5
      try rw [HPT.out]
      have HS5 := Lib.hid h5
      have X2 := Lib.hid (HBM.out _ _ h5 (by simp) (by simp) (by simp))
      clear h5
      refine hK.out _ _ (by exact X2.out) (by exact fun _ => trivial) ?_
      clear hK K
      try simp only [Act.put, List.setIfInBounds_toArray, List.set_cons_zero, List.set_cons_succ]
      refine AnyL.take (i := 13) (v := ?vx12) (by rfl) (by kernel_rfl) (by kernel_rfl) (by kernel_rfl) rfl (by exact fun _ _ _ h => h) (by rfl) ?hyx12 (by exact ⟨X2.out, fun _ => trivial⟩) ?restx12
      case hyx12 => intro W hSW; (try dsimp only at hSW); first | (go_simp; done) | (go_simp; with_reducible rfl)
      try simp only [Act.put, List.setIfInBounds_toArray, List.set_cons_zero, List.set_cons_succ]
      refine AnyL.done (by kernel_rfl) ?_ _
      go_wp2_with fail
      go_roundw
      case rel => exact ⟨j + 1, by omega, by go_num, HS5.out⟩
      case measure => simp [intOf]; omega
    · have hje : no = j := by omega
      subst hje
      have hkk : ¬ (no : Int) < (no : Int) := by omega
      have hsx := HSX.out
      rw [HPA.out no (Nat.le_refl _)] at hsx
      have HS3 := Lib.hid hsx
      clear hsx HSX HSQ HYR
      go_upto_region 8 with fail
      have HBM := Lib.hid fun (W1 : World) (L : List Asrt) (h : Sep W1 L) (h1 : BxA w.heap.size #[.int .i64 n, .slice ea ne ec, .slice ia ni ic, .slice oa no oc] 30 ∈ L) (h2 : BxA (w.heap.size + 1) #[.int .i64 m, .slice eb me fc, .slice ib no gc, .slice ob mo hc] 30 ∈ L) => show ((W1.cell? ⟨w.heap.size, 0, none⟩ = some (.int .i64 n) ∧ W1.cell? ⟨w.heap.size, 2, none⟩ = some (.slice ia ni ic)) ∧ W1.cell? ⟨w.heap.size + 1, 0, none⟩ = some (.int .i64 m) ∧ W1.cell? ⟨w.heap.size + 1, 3, none⟩ = some (.slice ob mo hc)) from by
        obtain ⟨p0, _, p2, _⟩ := gq4 (show W1.heap[w.heap.size]? = some (.cells #[.int .i64 n, .slice ea ne ec, .slice ia ni ic, .slice oa no oc] 30 (0, 0)) from Sep.all h _ h1)
        obtain ⟨r0, _, _, r3, _⟩ := gq4 (show W1.heap[w.heap.size + 1]? = some (.cells #[.int .i64 m, .slice eb me fc, .slice ib no gc, .slice ob mo hc] 30 (0, 0)) from Sep.all h _ h2)
        exact ⟨⟨p0, p2⟩, r0, r3⟩
      have HSD := Lib.hid HS3.out.dr
      have X0 := Lib.hid (HBM.out _ _ HSD.out (by simp) (by simp))
      refine AnyL.start (fun W1 => ((W1.cell? ⟨w.heap.size, 0, none⟩ = some (.int .i64 n) ∧ W1.cell? ⟨w.heap.size, 2, none⟩ = some (.slice ia ni ic)) ∧ W1.cell? ⟨w.heap.size + 1, 0, none⟩ = some (.int .i64 m) ∧ W1.cell? ⟨w.heap.size + 1, 3, none⟩ = some (.slice ob mo hc))) (fun _ => True) 99 (by kernel_rfl) ?_
      generalize wr.drew = w4 at *
      refine AnyL.take (i := 0) (v := ?vx13) (by rfl) (by kernel_rfl) (by kernel_rfl) (by kernel_rfl) rfl (by exact fun _ _ _ h => h) (by rfl) ?hyx13 (by exact ⟨X0.out, fun _ => trivial⟩) ?restx13
      case hyx13 => intro W hSW; (try dsimp only at hSW); first | (go_simp; done) | (go_simp; with_reducible rfl)
      try simp only [Act.put, List.setIfInBounds_toArray, List.set_cons_zero, List.set_cons_succ]
      refine AnyL.take (i := 1) (v := ?vx14) (by rfl) (by kernel_rfl) (by kernel_rfl) (by kernel_rfl) rfl (by exact fun _ _ _ h => h) (by rfl) ?hyx14 (by exact ⟨X0.out, fun _ => trivial⟩) ?restx14
      case hyx14 => intro W hSW; (try dsimp only at hSW); first | (go_simp; done) | (go_simp; with_reducible rfl)
      try simp only [Act.put, List.setIfInBounds_toArray, List.set_cons_zero, List.set_cons_succ]
      refine AnyL.take (i := 3) (v := ?vx15) (by rfl) (by kernel_rfl) (by kernel_rfl) (by kernel_rfl) rfl (by exact fun _ _ _ h => h) (by rfl) ?hyx15 (by exact ⟨X0.out, fun _ => trivial⟩) ?restx15
      case hyx15 => intro W hSW; (try dsimp only at hSW); first | (go_simp; done) | (go_simp; with_reducible rfl)
      try simp only [Act.put, List.setIfInBounds_toArray, List.set_cons_zero, List.set_cons_succ]
      refine AnyL.take (i := 4) (v := ?vx16) (by rfl) (by kernel_rfl) (by kernel_rfl) (by kernel_rfl) rfl (by exact fun _ _ _ h => h) (by rfl) ?hyx16 (by exact ⟨X0.out, fun _ => trivial⟩) ?restx16
      case hyx16 => intro W hSW; (try dsimp only at hSW); first | (go_simp; done) | (go_simp; with_reducible rfl)
      try simp only [Act.put, List.setIfInBounds_toArray, List.set_cons_zero, List.set_cons_succ]
      refine AnyL.take (i := 5) (v := ?vx17) (by rfl) (by kernel_rfl) (by kernel_rfl) (by kernel_rfl) rfl (by exact fun _ _ _ h => h) (by rfl) ?hyx17 (by exact ⟨X0.out, fun _ => trivial⟩) ?restx17
      case hyx17 => intro W hSW; (try dsimp only at hSW); first | (go_simp; done) | (go_simp; with_reducible rfl)
      try simp only [Act.put, List.setIfInBounds_toArray, List.set_cons_zero, List.set_cons_succ]
      refine AnyL.take (i := 6) (v := ?vx18) (by rfl) (by kernel_rfl) (by kernel_rfl) (by kernel_rfl) rfl (by exact fun _ _ _ h => h) (by rfl) ?hyx18 (by exact ⟨X0.out, fun _ => trivial⟩) ?restx18
      case hyx18 => intro W hSW; (try dsimp only at hSW); first | (go_simp; done) | (go_simp; with_reducible rfl)
      try simp only [Act.put, List.setIfInBounds_toArray, List.set_cons_zero, List.set_cons_succ]
      refine AnyL.take (i := 7) (v := ?vx19) (by rfl) (by kernel_rfl) (by kernel_rfl) (by kernel_rfl) rfl (by exact fun _ _ _ h => h) (by rfl) ?hyx19 (by exact ⟨X0.out, fun _ => trivial⟩) ?restx19
      case hyx19 => intro W hSW; (try dsimp only at hSW); first | (go_simp; done) | (go_simp; with_reducible rfl)
      try simp only [Act.put, List.setIfInBounds_toArray, List.set_cons_zero, List.set_cons_succ]
      refine AnyL.take (i := 8) (v := ?vx20) (by rfl) (by kernel_rfl) (by kernel_rfl) (by kernel_rfl) rfl (by exact fun _ _ _ h => h) (by rfl) ?hyx20 (by exact ⟨X0.out, fun _ => trivial⟩) ?restx20
      case hyx20 => intro W hSW; (try dsimp only at hSW); first | (go_simp; done) | (go_simp; with_reducible rfl)
      try simp only [Act.put, List.setIfInBounds_toArray, List.set_cons_zero, List.set_cons_succ]
      refine AnyL.step (i := 2) (by kernel_rfl) (by rfl) (fun K hK => ?_)
      go_simp
      have HCC := Lib.hid (HCL.out _ (show w.grownBy _ none from Sep.all HSD.out (KeepA w) (by simp)))
      go_at_call 69
      with_reducible refine HCC.out.mono ?_
      rintro e w5 ⟨ca, cc, rfl, hsg⟩
      have HS5 := Lib.hid (HSD.out.graft1 hsg OI_own)
      have X1 := Lib.hid (HBM.out _ _ HS5.out (by simp) (by simp))
      clear hsg
      refine hK.out _ _ (by exact X1.out) (by exact fun _ => trivial) ?_
      clear hK K
      try simp only [Act.put, List.setIfInBounds_toArray, List.set_cons_zero, List.set_cons_succ]
      refine AnyL.take (i := 11) (v := ?vx21) (by rfl) (by kernel_rfl) (by kernel_rfl) (by kernel_rfl) rfl (by exact fun _ _ _ h => h) (by rfl) ?hyx21 (by exact ⟨X1.out, fun _ => trivial⟩) ?restx21
      case hyx21 => intro W hSW; (try dsimp only at hSW); first | (go_simp; done) | (go_simp; with_reducible rfl)
      try simp only [Act.put, List.setIfInBounds_toArray, List.set_cons_zero, List.set_cons_succ]
      refine AnyL.step (i := 9) (by kernel_rfl) (by rfl) (fun K hK => ?_)
      go_simp
      go_at_call 71
      with_reducible refine (HFR.out _).mono ?_
      rintro e wqc ⟨fg, fc6, rfl, hsg⟩
      have HSqc := Lib.hid (HS5.out.graft1 hsg OI_own)
      clear hsg
      refine hK.out _ _ (by exact HBM.out _ _ HSqc.out (by simp) (by simp)) (by exact fun _ => trivial) ?_
      clear hK K
      try simp only [Act.put, List.setIfInBounds_toArray, List.set_cons_zero, List.set_cons_succ]
      refine AnyL.step (i := 10) (by kernel_rfl) (by rfl) (fun K hK => ?_)
      go_simp
      have HCC := Lib.hid (HMP.out _ _ (show w.grownBy _ none from Sep.all HSqc.out (KeepA w) (by simp)) (show OwnInts 0 wqc _ (frL n m) from HSqc.out.hd).read)
      go_at_call 70
      with_reducible refine HCC.out.mono ?_
      rintro e wqcc ⟨ma, mc, rfl, hsg⟩
      have HSqcc := Lib.hid (HSqc.out.graft1 hsg OI_own)
      clear hsg
      refine hK.out _ _ (by exact HBM.out _ _ HSqcc.out (by simp) (by simp)) (by exact fun _ => trivial) ?_
      clear hK K
      try simp only [Act.put, List.setIfInBounds_toArray, List.set_cons_zero, List.set_cons_succ]
      refine AnyL.step (i := 12) (by kernel_rfl) (by rfl) (fun K hK => ?_)
      have hz := Sep.blk (A := [_, _, _, _]) (B := [_]) HSqcc.out
      obtain ⟨y0, y1, y2, y3, ff0, ff1, ff2, ff3⟩ := gq4 hz.hd
      have HSqccs := Lib.hid (hz.setB 2 (.slice ca ni cc))
      clear hz
      go_simp
      refine hK.out _ (wqcc.setCell ⟨xo, 2, none⟩ (.slice ca ni cc)) (by exact HBM.out _ _ HSqccs.out (by simp) (by simp)) (by exact fun _ => trivial) ?_
      clear hK K
      try simp only [Act.put, List.setIfInBounds_toArray, List.set_cons_zero, List.set_cons_succ]
      clear y0 y1 y2 y3 ff0 ff1 ff2 ff3
      generalize wqcc.setCell ⟨xo, 2, none⟩ (.slice ca ni cc) = wqccs at *
      refine AnyL.take (i := 13) (v := ?vx22) (by rfl) (by kernel_rfl) (by kernel_rfl) (by kernel_rfl) rfl (by exact fun _ _ _ h => h) (by rfl) ?hyx22 (by exact ⟨HBM.out _ _ HSqccs.out (by simp) (by simp), fun _ => trivial⟩) ?restx22
      case hyx22 => intro W hSW; (try dsimp only at hSW); first | (go_simp; done) | (go_simp; with_reducible rfl)
      try simp only [Act.put, List.setIfInBounds_toArray, List.set_cons_zero, List.set_cons_succ]
      have hz := HSqccs.out
      obtain ⟨y0, y1, y2, y3, ff0, ff1, ff2, ff3⟩ := gq4 hz.hd
      have hz2 := hz.setB 3 (.slice ma mo mc)
      have HS9a := Lib.hid hz2
      have X5 := Lib.hid (HBM.out _ _ hz2 (by simp) (by simp))
      clear hz hz2
      refine AnyL.step (i := 14) (by kernel_rfl) (by rfl) (fun K hK => ?_)
      go_simp
      refine hK.out _ (wqccs.setCell ⟨xo, 3, none⟩ (.slice ma mo mc)) (by exact X5.out) (by exact fun _ => trivial) ?_
      clear hK K
      try simp only [Act.put, List.setIfInBounds_toArray, List.set_cons_zero, List.set_cons_succ]
      refine AnyL.done (by kernel_rfl) ?_ _
      clear y0 y1 y2 y3 ff0 ff1 ff2 ff3
      generalize wqccs.setCell ⟨xo, 3, none⟩ (.slice ma mo mc) = w9 at *
      have HS9 := Lib.hid (HS9a.out)
      obtain ⟨y0, y1, y2, y3, _⟩ := gq4 HS9.out.hd
      have HCC := Lib.hid (HGL.out (.slice ue ql uc) (.slice ca ni cc) (.slice ma mo mc) _ w9 (by rw [HIE.out, ← HX.out]; exact OE.read HS9.out.tl.tl.tl.tl.tl.hd) (by rw [HII.out]; exact (show OwnInts 0 w9 _ a.i from HS9.out.tl.tl.tl.hd).read) (by rw [HIO.out]; exact (show OwnInts 0 w9 _ (b.o.map (ofL (frL n m))) from HS9.out.tl.hd).read) (OwnR.read (show OwnR pairE 0 w9 (.slice pa no pc) (seqP a b) from HS9.out.tl.tl.tl.tl.hd)))
      have hfd : ∀ (a b c d e : Value) (W : World), (Instr.field 104 (.agg #[a, b, c, d, e]) 0).run Tryz.prog W = .ok (.agg #[a, b, c, d]) W := fun _ _ _ _ _ _ => by kernel_rfl
      go_wp2_with (
        go_at_call 72
        with_reducible refine HCC.out.mono ?_
        rintro e w10 ⟨u0, xs', u1, u2, tt, rfl, hxs, hsg⟩
        have HXF := Lib.hid hxs
        obtain ⟨t0, v0, rfl⟩ := OE.shape hsg.hd
        obtain ⟨t1, v1, rfl⟩ := own_shape hsg.tl.hd
        obtain ⟨t2, v2, rfl⟩ := own_shape hsg.tl.tl.hd
        obtain ⟨q0, hq0⟩ : ∃ q, xs'.length = q := ⟨_, rfl⟩
        obtain ⟨q1, hq1⟩ : ∃ q, G.i.length = q := ⟨_, rfl⟩
        obtain ⟨q2, hq2⟩ : ∃ q, G.o.length = q := ⟨_, rfl⟩
        rw [hq0, hq1, hq2] at hsg
        rw [hq0, hq1, hq2]
        have hs1 := Sep.blk (A := [_, _, _, _, _, _, _, _, _]) (B := [_]) (HS9.out.graft3 hsg OE_own OI_own OI_own)
        obtain ⟨k0, k1, k2, k3, k4, k5, k6, k7⟩ := gq4 hs1.hd
        have hs2 := (((hs1.setB 0 (.int .i64 G.n)).setB 1 (.slice t0 q0 v0)).setB 2 (.slice t1 q1 v1)).setB 3 (.slice t2 q2 v2)
        obtain ⟨l0, l1, l2, l3, _⟩ := gq4 hs2.hd
        have HSF := Lib.hid (Sep.cutA (X := [_, _, _]) (A := [_, _, _, _, _, _, _, _]) hs2.tl)
        clear hsg hs1 hs2 hxs y0 y1 y2 y3 hq0 hq1 hq2)
      refine bodyPost_ret_by (v := .agg #[.int .i64 G.n, .slice t0 q0 v0, .slice t1 q1 v1, .slice t2 q2 v2]) ?_ rfl ⟨_, xs', _, _, rfl, HXF.out, HSF.out⟩
      simp [results, go_sem, *]
end Go.Proofs.YtjagjhchnpmngaaGreatDoor

/-
  Two graphs side by side, in the program. Conditions: the graphs are valid.
-/
namespace Go.Proofs.YtjagjhchnpmngaaGreatDoor
open Go.RowKit
set_option linter.unusedVariables false
set_option linter.unusedSimpArgs false
set_option maxRecDepth 100000

theorem rdL_twoT {w : World} {v1 v2 : Value} {z1 z2 : List Int} (h1 : IntsV w v1 z1) (h2 : IntsV w v2 z2) : RdL (w.alloc (.cells #[v1, v2] 28)) (.slice (some ⟨w.heap.size, 0, none⟩) 2 2) [⟨v1, z1⟩, ⟨v2, z2⟩] := by
  have hg := grownBy_alloc w (.cells #[v1, v2] 28) none
  have hn := alloc_heap_new w (.cells #[v1, v2] 28)
  refine ⟨⟨_, _, rfl, fun _ => ⟨_, rfl, rfl, by simp, fun i hi j hj => ?_⟩⟩, fun x hx => ?_⟩
  · have hj0 : j = 0 := by simp only [rowE] at hj; omega
    subst hj0
    match i, hi with
    | 0, _ => exact cell_of_row _ _ 0 _ _ _ hn
    | 1, _ => exact cell_of_row _ _ 1 _ _ _ hn
    | n + 2, h => simp at h; omega
  · simp only [List.mem_cons, List.not_mem_nil, or_false] at hx
    rcases hx with rfl | rfl
    · exact h1.carry hg
    · exact h2.carry hg
theorem joinL_twoT (v1 v2 : Value) (z1 z2 : List Int) : joinL [⟨v1, z1⟩, ⟨v2, z2⟩] = z1 ++ z2 := by simp [joinL]
set_option maxHeartbeats 8000000 in
theorem parGraphs_any (a b : Gr) (ev iv ov ev' iv' ov' : Value) (w : World) (he : RdE edgeE w ev a.es) (hi : IntsV w iv a.i) (ho : IntsV w ov a.o) (he' : RdE edgeE w ev' b.es) (hi' : IntsV w iv' b.i) (ho' : IntsV w ov' b.o) (hga : grB a = true) (hgb : grB b = true) :
    Calls Tryz.prog 48 #[grV a.n ev iv ov, grV b.n ev' iv' ov'] w (OwnG (parG a b) w) := by
  obtain ⟨n, hn, hn1, a1, a2, a3, a4, a5, _⟩ := grB_n hga
  obtain ⟨m, hm, hm1, b1, b2, b3, b4, b5, _⟩ := grB_n hgb
  have hrb := gr_rng hgb hm
  have hsh : shL a b = frL n m := by unfold shL; rw [hn, hm]; rfl
  have HBS := Lib.hid fun W (hW : w.grownBy W none) => beside_any a b ev iv ov ev' iv' ov' W (he.carry hW) (hi.carry hW) (ho.carry hW) (he'.carry hW) (hi'.carry hW) (ho'.carry hW) hga hgb
  have HFR := Lib.hid fun W => from_any n m W (by omega) (by omega)
  have HMP1 := Lib.hid fun tv W (hW : w.grownBy W none) (ht : IntsV W tv (frL n m)) => mapped_any tv iv' (frL n m) b.i W ht (hi'.carry hW) (by omega) (fun x hx => by rw [frL_len]; exact hrb x (mem_wiresG.2 (Or.inl hx)))
  have HMP2 := Lib.hid fun tv W (hW : w.grownBy W none) (ht : IntsV W tv (frL n m)) => mapped_any tv ov' (frL n m) b.o W ht (ho'.carry hW) (by omega) (fun x hx => by rw [frL_len]; exact hrb x (mem_wiresG.2 (Or.inr (Or.inl hx))))
  have HJ := Lib.hid fun (v1 v2 : Value) (z1 z2 : List Int) (W : World) (h1 : IntsV W v1 z1) (h2 : IntsV W v2 z2) (hl : z1.length + z2.length ≤ 1000) => (show ∀ W2 v, RdL W2 v [⟨v1, z1⟩, ⟨v2, z2⟩] → Calls Tryz.prog 73 #[v] W2 fun e w' => ∃ u, e = .returned u ∧ Sep w' [OI u (z1 ++ z2), KeepA W2] from fun W2 v hv => by
    have h := joined_any v [⟨v1, z1⟩, ⟨v2, z2⟩] W2 hv (by simp) (by rw [joinL_twoT, List.length_append]; omega)
    rw [joinL_twoT] at h
    exact h)
  have HI := Lib.hid hi; have HO := Lib.hid ho
  unfold OwnG BesideR at *
  have hpn : (parG a b).n = (n : Int) + m := by show a.n + b.n = _; rw [hn, hm]
  have hpe : (parG a b).es = a.es ++ b.es.map (mapE (frL n m)) := by rw [← hsh]; rfl
  have hpi : (parG a b).i = a.i ++ b.i.map (ofL (frL n m)) := by rw [← hsh]; rfl
  have hpo : (parG a b).o = a.o ++ b.o.map (ofL (frL n m)) := by rw [← hsh]; rfl
  rw [hpn, hpe, hpi, hpo]
  rw [hn, hm, hsh] at HBS
  rw [hn, hm]
  unfold grV at *
  obtain ⟨ea, ec, rfl⟩ := he.shape
  obtain ⟨ia, ic, rfl⟩ := hi.shape
  obtain ⟨oa, oc, rfl⟩ := ho.shape
  obtain ⟨eb, fc, rfl⟩ := he'.shape
  obtain ⟨ib, gc, rfl⟩ := hi'.shape
  obtain ⟨ob, hc, rfl⟩ := ho'.shape
  have HLA := Lib.hid (show (∀ k, k ≤ 12 → a.i.length + k ≤ 1000) ∧ ∀ k, k ≤ 12 → a.o.length + k ≤ 1000 from ⟨fun k hk => by omega, fun k hk => by omega⟩)
  have HLB := Lib.hid (show (b.i.map (ofL (frL n m))).length ≤ 12 ∧ (b.o.map (ofL (frL n m))).length ≤ 12 from ⟨by rw [List.length_map]; exact b2, by rw [List.length_map]; exact b3⟩)
  generalize b.i.map (ofL (frL n m)) = zi2 at *
  generalize b.o.map (ofL (frL n m)) = zo2 at *
  generalize a.es ++ b.es.map (mapE (frL n m)) = est at *
  generalize hA : a.i = zi at *
  generalize hB : a.o = zo at *
  obtain ⟨ne, hne⟩ : ∃ x, a.es.length = x := ⟨_, rfl⟩
  obtain ⟨me, hme⟩ : ∃ x, b.es.length = x := ⟨_, rfl⟩
  obtain ⟨ni, hni⟩ : ∃ x, zi.length = x := ⟨_, rfl⟩
  obtain ⟨no, hno⟩ : ∃ x, zo.length = x := ⟨_, rfl⟩
  obtain ⟨mi, hmi⟩ : ∃ x, b.i.length = x := ⟨_, rfl⟩
  obtain ⟨mo, hmo⟩ : ∃ x, b.o.length = x := ⟨_, rfl⟩
  rw [hne, hme, hni, hno, hmi, hmo] at HBS ⊢
  rw [hni] at HI
  rw [hno] at HO
  rw [hmi] at HMP1
  rw [hmo] at HMP2
  clear he hi ho he' hi' ho' hga hgb hrb hsh a1 a2 a3 a4 a5 b1 b2 b3 b4 b5 hn hm hpn hpe hpi hpo hA hB hne hme hni hno hmi hmo
  have hs0 := (((Sep.start w).boxAt w.heap.size rfl #[.int .i64 n, .slice ea ne ec, .slice ia ni ic, .slice oa no oc] 30).boxAt (w.heap.size + 1) (by simp) #[.int .i64 m, .slice eb me fc, .slice ib mi gc, .slice ob mo hc] 30).boxAt (w.heap.size + 2) (by simp) #[.int .i64 0, .slice none 0 0, .slice none 0 0, .slice none 0 0] 30
  have HS0 := Lib.hid hs0
  obtain ⟨x0, x1, x2, x3, _⟩ := gq4 hs0.tl.tl.hd
  obtain ⟨y0, y1, y2, y3, _⟩ := gq4 hs0.tl.hd
  have HK0 := Lib.hid (show w.grownBy _ none from hs0.tl.tl.tl.hd)
  clear hs0
  go_enter Tryz.func48, Tryz.ntmps48
  go_upto_region 2 with (
    go_at_call 68
    with_reducible refine (HBS.out _ HK0.out).mono ?_
    rintro e w1 ⟨u0, xs, rfl, hx, hsg⟩
    obtain ⟨ue, uc, rfl⟩ := OE.shape hsg.hd
    have HX := Lib.hid hx
    have HS1 := Lib.hid ((HS0.out.graft1 hsg OE_own).boxAt w1.heap.size rfl #[.int .i64 ((n : Int) + m), .slice ue xs.length uc, .slice none 0 0, .slice none 0 0] 30)
    clear hsg hx x0 x1 x2 x3 y0 y1 y2 y3)
  obtain ⟨ql, hql⟩ : ∃ q, xs.length = q := ⟨_, rfl⟩
  rw [hql] at HS1 ⊢
  clear hql HS0 HBS
  generalize w1.alloc (.cells #[.int .i64 ((n : Int) + m), .slice ue ql uc, .slice none 0 0, .slice none 0 0] 30) = w2 at *
  generalize w1.heap.size = xo at *
  obtain ⟨x0, _⟩ := gq4 HS1.out.tl.tl.tl.tl.hd
  obtain ⟨y0, _⟩ := gq4 HS1.out.tl.tl.tl.hd
  go_upto_region 3 with (
    go_at_call 71
    with_reducible refine (HFR.out _).mono ?_
    rintro e w3 ⟨fg, fcc, rfl, hsg⟩
    have HS3 := Lib.hid (HS1.out.graft1 hsg OI_own)
    clear hsg x0 y0)
  clear HS1
  have HBM := Lib.hid fun (W1 : World) (L : List Asrt) (h : Sep W1 L) (h1 : BxA w.heap.size #[.int .i64 n, .slice ea ne ec, .slice ia ni ic, .slice oa no oc] 30 ∈ L) (h2 : BxA (w.heap.size + 1) #[.int .i64 m, .slice eb me fc, .slice ib mi gc, .slice ob mo hc] 30 ∈ L) => show (W1.cell? ⟨w.heap.size, 2, none⟩ = some (.slice ia ni ic) ∧ W1.cell? ⟨w.heap.size, 3, none⟩ = some (.slice oa no oc)) ∧ W1.cell? ⟨w.heap.size + 1, 2, none⟩ = some (.slice ib mi gc) ∧ W1.cell? ⟨w.heap.size + 1, 3, none⟩ = some (.slice ob mo hc) from by
    obtain ⟨_, _, p2, p3, _⟩ := gq4 (show W1.heap[w.heap.size]? = some (.cells #[.int .i64 n, .slice ea ne ec, .slice ia ni ic, .slice oa no oc] 30 (0, 0)) from Sep.all h _ h1)
    obtain ⟨_, _, r2, r3, _⟩ := gq4 (show W1.heap[w.heap.size + 1]? = some (.cells #[.int .i64 m, .slice eb me fc, .slice ib mi gc, .slice ob mo hc] 30 (0, 0)) from Sep.all h _ h2)
    exact ⟨⟨p2, p3⟩, r2, r3⟩
  have HSD := Lib.hid HS3.out.dr
  have X0 := Lib.hid (HBM.out _ _ HSD.out (by simp) (by simp))
  refine AnyL.start (fun W1 => (W1.cell? ⟨w.heap.size, 2, none⟩ = some (.slice ia ni ic) ∧ W1.cell? ⟨w.heap.size, 3, none⟩ = some (.slice oa no oc)) ∧ W1.cell? ⟨w.heap.size + 1, 2, none⟩ = some (.slice ib mi gc) ∧ W1.cell? ⟨w.heap.size + 1, 3, none⟩ = some (.slice ob mo hc)) (fun _ => True) 99 (by kernel_rfl) ?_
  generalize w3.drew = w4 at *
  refine AnyL.take (i := 0) (v := ?vx1) (by rfl) (by kernel_rfl) (by kernel_rfl) (by kernel_rfl) rfl (by exact fun _ _ _ h => h) (by rfl) ?hyx1 (by exact ⟨X0.out, fun _ => trivial⟩) ?restx1
  case hyx1 => intro W hSW; (try dsimp only at hSW); first | (go_simp; done) | (go_simp; with_reducible rfl)
  try simp only [Act.put, List.setIfInBounds_toArray, List.set_cons_zero, List.set_cons_succ]
  refine AnyL.take (i := 1) (v := ?vx2) (by rfl) (by kernel_rfl) (by kernel_rfl) (by kernel_rfl) rfl (by exact fun _ _ _ h => h) (by rfl) ?hyx2 (by exact ⟨X0.out, fun _ => trivial⟩) ?restx2
  case hyx2 => intro W hSW; (try dsimp only at hSW); first | (go_simp; done) | (go_simp; with_reducible rfl)
  try simp only [Act.put, List.setIfInBounds_toArray, List.set_cons_zero, List.set_cons_succ]
  refine AnyL.take (i := 2) (v := ?vx3) (by rfl) (by kernel_rfl) (by kernel_rfl) (by kernel_rfl) rfl (by exact fun _ _ _ h => h) (by rfl) ?hyx3 (by exact ⟨X0.out, fun _ => trivial⟩) ?restx3
  case hyx3 => intro W hSW; (try dsimp only at hSW); first | (go_simp; done) | (go_simp; with_reducible rfl)
  try simp only [Act.put, List.setIfInBounds_toArray, List.set_cons_zero, List.set_cons_succ]
  refine AnyL.take (i := 3) (v := ?vx4) (by rfl) (by kernel_rfl) (by kernel_rfl) (by kernel_rfl) rfl (by exact fun _ _ _ h => h) (by rfl) ?hyx4 (by exact ⟨X0.out, fun _ => trivial⟩) ?restx4
  case hyx4 => intro W hSW; (try dsimp only at hSW); first | (go_simp; done) | (go_simp; with_reducible rfl)
  try simp only [Act.put, List.setIfInBounds_toArray, List.set_cons_zero, List.set_cons_succ]
  refine AnyL.take (i := 4) (v := ?vx5) (by rfl) (by kernel_rfl) (by kernel_rfl) (by kernel_rfl) rfl (by exact fun _ _ _ h => h) (by rfl) ?hyx5 (by exact ⟨X0.out, fun _ => trivial⟩) ?restx5
  case hyx5 => intro W hSW; (try dsimp only at hSW); first | (go_simp; done) | (go_simp; with_reducible rfl)
  try simp only [Act.put, List.setIfInBounds_toArray, List.set_cons_zero, List.set_cons_succ]
  refine AnyL.take (i := 8) (v := ?vx6) (by rfl) (by kernel_rfl) (by kernel_rfl) (by kernel_rfl) rfl (by exact fun _ _ _ h => h) (by rfl) ?hyx6 (by exact ⟨X0.out, fun _ => trivial⟩) ?restx6
  case hyx6 => intro W hSW; (try dsimp only at hSW); first | (go_simp; done) | (go_simp; with_reducible rfl)
  try simp only [Act.put, List.setIfInBounds_toArray, List.set_cons_zero, List.set_cons_succ]
  refine AnyL.take (i := 9) (v := ?vx7) (by rfl) (by kernel_rfl) (by kernel_rfl) (by kernel_rfl) rfl (by exact fun _ _ _ h => h) (by rfl) ?hyx7 (by exact ⟨X0.out, fun _ => trivial⟩) ?restx7
  case hyx7 => intro W hSW; (try dsimp only at hSW); first | (go_simp; done) | (go_simp; with_reducible rfl)
  try simp only [Act.put, List.setIfInBounds_toArray, List.set_cons_zero, List.set_cons_succ]
  refine AnyL.take (i := 10) (v := ?vx8) (by rfl) (by kernel_rfl) (by kernel_rfl) (by kernel_rfl) rfl (by exact fun _ _ _ h => h) (by rfl) ?hyx8 (by exact ⟨X0.out, fun _ => trivial⟩) ?restx8
  case hyx8 => intro W hSW; (try dsimp only at hSW); first | (go_simp; done) | (go_simp; with_reducible rfl)
  try simp only [Act.put, List.setIfInBounds_toArray, List.set_cons_zero, List.set_cons_succ]
  refine AnyL.take (i := 11) (v := ?vx9) (by rfl) (by kernel_rfl) (by kernel_rfl) (by kernel_rfl) rfl (by exact fun _ _ _ h => h) (by rfl) ?hyx9 (by exact ⟨X0.out, fun _ => trivial⟩) ?restx9
  case hyx9 => intro W hSW; (try dsimp only at hSW); first | (go_simp; done) | (go_simp; with_reducible rfl)
  try simp only [Act.put, List.setIfInBounds_toArray, List.set_cons_zero, List.set_cons_succ]
  refine AnyL.take (i := 12) (v := ?vx10) (by rfl) (by kernel_rfl) (by kernel_rfl) (by kernel_rfl) rfl (by exact fun _ _ _ h => h) (by rfl) ?hyx10 (by exact ⟨X0.out, fun _ => trivial⟩) ?restx10
  case hyx10 => intro W hSW; (try dsimp only at hSW); first | (go_simp; done) | (go_simp; with_reducible rfl)
  try simp only [Act.put, List.setIfInBounds_toArray, List.set_cons_zero, List.set_cons_succ]
  refine AnyL.step (i := 5) (by kernel_rfl) (by rfl) (fun K hK => ?_)
  go_simp
  have HCC := Lib.hid (HMP1.out _ _ (show w.grownBy _ none from Sep.all HSD.out (KeepA w) (by simp)) (show OwnInts 0 w4 _ (frL n m) from HSD.out.hd).read)
  go_at_call 70
  with_reducible refine HCC.out.mono ?_
  rintro e w5 ⟨ma1, mc1, rfl, hsg⟩
  have HS5 := Lib.hid (HSD.out.graft1 hsg OI_own)
  clear hsg
  refine hK.out _ _ (by exact HBM.out _ _ HS5.out (by simp) (by simp)) (by exact fun _ => trivial) ?_
  clear hK K
  try simp only [Act.put, List.setIfInBounds_toArray, List.set_cons_zero, List.set_cons_succ]
  have HRL1 := Lib.hid (rdL_twoT (v1 := .slice ia ni ic) (v2 := .slice ma1 mi mc1) (HI.out.carry (show w.grownBy _ none from Sep.all HS5.out (KeepA w) (by simp))) (show OwnInts 0 w5 _ _ from HS5.out.hd).read)
  have HJC1 := Lib.hid (HJ.out (.slice ia ni ic) (.slice ma1 mi mc1) _ _ w5 (HI.out.carry (show w.grownBy _ none from Sep.all HS5.out (KeepA w) (by simp))) (show OwnInts 0 w5 _ _ from HS5.out.hd).read (HLA.out.1 _ HLB.out.1) _ _ HRL1.out)
  have HS6 := Lib.hid (HS5.out.al (.cells #[.slice ia ni ic, .slice ma1 mi mc1] 28))
  refine AnyL.step (i := 6) (by kernel_rfl) (by rfl) (fun K hK => ?_)
  go_simp
  refine hK.out _ (w5.alloc (.cells #[.slice ia ni ic, .slice ma1 mi mc1] 28)) (by exact HBM.out _ _ HS6.out (by simp) (by simp)) (by exact fun _ => trivial) ?_
  clear hK K
  try simp only [Act.put, List.setIfInBounds_toArray, List.set_cons_zero, List.set_cons_succ]
  generalize w5.alloc (.cells #[.slice ia ni ic, .slice ma1 mi mc1] 28) = w6 at *
  refine AnyL.step (i := 7) (by kernel_rfl) (by rfl) (fun K hK => ?_)
  go_simp
  go_at_call 73
  with_reducible refine HJC1.out.mono ?_
  rintro e w7 ⟨uj, rfl, hsg⟩
  obtain ⟨ja1, jc1, rfl⟩ := own_shape hsg.hd
  skip
  have HS7 := Lib.hid (HS6.out.graft1 hsg OI_own)
  clear hsg
  refine hK.out _ _ (by exact HBM.out _ _ HS7.out (by simp) (by simp)) (by exact fun _ => trivial) ?_
  clear hK K
  try simp only [Act.put, List.setIfInBounds_toArray, List.set_cons_zero, List.set_cons_succ]
  obtain ⟨jl1, hjl1⟩ : ∃ q, (zi ++ zi2).length = q := ⟨_, rfl⟩
  rw [hjl1]
  have HJL1 := Lib.hid hjl1
  clear hjl1
  refine AnyL.take (i := 16) (v := ?vx11) (by rfl) (by kernel_rfl) (by kernel_rfl) (by kernel_rfl) rfl (by exact fun _ _ _ h => h) (by rfl) ?hyx11 (by exact ⟨HBM.out _ _ HS7.out (by simp) (by simp), fun _ => trivial⟩) ?restx11
  case hyx11 => intro W hSW; (try dsimp only at hSW); first | (go_simp; done) | (go_simp; with_reducible rfl)
  try simp only [Act.put, List.setIfInBounds_toArray, List.set_cons_zero, List.set_cons_succ]
  refine AnyL.step (i := 13) (by kernel_rfl) (by rfl) (fun K hK => ?_)
  go_simp
  have HCC := Lib.hid (HMP2.out _ _ (show w.grownBy _ none from Sep.all HS7.out (KeepA w) (by simp)) (show OwnInts 0 w7 _ (frL n m) from HS7.out.tl.tl.hd).read)
  go_at_call 70
  with_reducible refine HCC.out.mono ?_
  rintro e w8 ⟨ma2, mc2, rfl, hsg⟩
  have HS8 := Lib.hid (HS7.out.graft1 hsg OI_own)
  clear hsg
  refine hK.out _ _ (by exact HBM.out _ _ HS8.out (by simp) (by simp)) (by exact fun _ => trivial) ?_
  clear hK K
  try simp only [Act.put, List.setIfInBounds_toArray, List.set_cons_zero, List.set_cons_succ]
  have HRL2 := Lib.hid (rdL_twoT (v1 := .slice oa no oc) (v2 := .slice ma2 mo mc2) (HO.out.carry (show w.grownBy _ none from Sep.all HS8.out (KeepA w) (by simp))) (show OwnInts 0 w8 _ _ from HS8.out.hd).read)
  have HJC2 := Lib.hid (HJ.out (.slice oa no oc) (.slice ma2 mo mc2) _ _ w8 (HO.out.carry (show w.grownBy _ none from Sep.all HS8.out (KeepA w) (by simp))) (show OwnInts 0 w8 _ _ from HS8.out.hd).read (HLA.out.2 _ HLB.out.2) _ _ HRL2.out)
  have HS9 := Lib.hid (HS8.out.al (.cells #[.slice oa no oc, .slice ma2 mo mc2] 28))
  refine AnyL.step (i := 14) (by kernel_rfl) (by rfl) (fun K hK => ?_)
  go_simp
  refine hK.out _ (w8.alloc (.cells #[.slice oa no oc, .slice ma2 mo mc2] 28)) (by exact HBM.out _ _ HS9.out (by simp) (by simp)) (by exact fun _ => trivial) ?_
  clear hK K
  try simp only [Act.put, List.setIfInBounds_toArray, List.set_cons_zero, List.set_cons_succ]
  generalize w8.alloc (.cells #[.slice oa no oc, .slice ma2 mo mc2] 28) = w9 at *
  refine AnyL.step (i := 15) (by kernel_rfl) (by rfl) (fun K hK => ?_)
  go_simp
  go_at_call 73
  with_reducible refine HJC2.out.mono ?_
  rintro e w10 ⟨uj, rfl, hsg⟩
  obtain ⟨ja2, jc2, rfl⟩ := own_shape hsg.hd
  skip
  have HS10 := Lib.hid (HS9.out.graft1 hsg OI_own)
  clear hsg
  refine hK.out _ _ (by exact HBM.out _ _ HS10.out (by simp) (by simp)) (by exact fun _ => trivial) ?_
  clear hK K
  try simp only [Act.put, List.setIfInBounds_toArray, List.set_cons_zero, List.set_cons_succ]
  obtain ⟨jl2, hjl2⟩ : ∃ q, (zo ++ zo2).length = q := ⟨_, rfl⟩
  rw [hjl2]
  have HJL2 := Lib.hid hjl2
  clear hjl2
  have hz := Sep.blk (A := [_, _, _, _, _]) (B := [_]) HS10.out
  obtain ⟨y0, y1, y2, y3, ff0, ff1, ff2, ff3⟩ := gq4 hz.hd
  have HS11 := Lib.hid (hz.setB 2 (.slice ja1 jl1 jc1))
  clear hz
  refine AnyL.step (i := 17) (by kernel_rfl) (by rfl) (fun K hK => ?_)
  go_simp
  refine hK.out _ (w10.setCell ⟨xo, 2, none⟩ (.slice ja1 jl1 jc1)) (by exact HBM.out _ _ HS11.out (by simp) (by simp)) (by exact fun _ => trivial) ?_
  clear hK K
  try simp only [Act.put, List.setIfInBounds_toArray, List.set_cons_zero, List.set_cons_succ]
  clear y0 y1 y2 y3 ff0 ff1 ff2 ff3
  generalize w10.setCell ⟨xo, 2, none⟩ (.slice ja1 jl1 jc1) = w11 at *
  refine AnyL.take (i := 18) (v := ?vx12) (by rfl) (by kernel_rfl) (by kernel_rfl) (by kernel_rfl) rfl (by exact fun _ _ _ h => h) (by rfl) ?hyx12 (by exact ⟨HBM.out _ _ HS11.out (by simp) (by simp), fun _ => trivial⟩) ?restx12
  case hyx12 => intro W hSW; (try dsimp only at hSW); first | (go_simp; done) | (go_simp; with_reducible rfl)
  try simp only [Act.put, List.setIfInBounds_toArray, List.set_cons_zero, List.set_cons_succ]
  have hz := HS11.out
  obtain ⟨y0, y1, y2, y3, ff0, ff1, ff2, ff3⟩ := gq4 hz.hd
  have HS12 := Lib.hid (hz.setB 3 (.slice ja2 jl2 jc2))
  clear hz
  refine AnyL.step (i := 19) (by kernel_rfl) (by rfl) (fun K hK => ?_)
  go_simp
  refine hK.out _ (w11.setCell ⟨xo, 3, none⟩ (.slice ja2 jl2 jc2)) (by exact HBM.out _ _ HS12.out (by simp) (by simp)) (by exact fun _ => trivial) ?_
  clear hK K
  try simp only [Act.put, List.setIfInBounds_toArray, List.set_cons_zero, List.set_cons_succ]
  clear y0 y1 y2 y3 ff0 ff1 ff2 ff3
  generalize w11.setCell ⟨xo, 3, none⟩ (.slice ja2 jl2 jc2) = w12 at *
  refine AnyL.done (by kernel_rfl) ?_ _
  obtain ⟨p0, p1, p2, p3, _⟩ := gq4 HS12.out.hd
  have k8 := Sep.blk (A := [_, _, _, _, _, _, _]) (B := [_]) HS12.out
  obtain ⟨_, _, _, _, f0, f1_, f2_, f3⟩ := gq4 k8.hd
  have k9 := (((k8.setB 0 (.int .i64 ((n : Int) + m))).setB 1 (.slice ue ql uc)).setB 2 (.slice ja1 jl1 jc1)).setB 3 (.slice ja2 jl2 jc2)
  obtain ⟨t0, t1, t2, t3, _⟩ := gq4 k9.hd
  have k10 := Sep.cutA (X := [_, _]) (A := [_, _]) (Sep.cutA (X := [_]) (A := [_]) k9.tl.tl)
  have k11 := Sep.cutA (X := [_, _, _]) (A := [_, _]) k10
  have k12 := Sep.blk3 (X := [_]) (A := [_]) (B := [_]) (Sep.blk (A := [_, _]) (B := [_]) k11)
  rw [HJL1.out, HJL2.out] at k12
  have HSF := Lib.hid k12
  clear k12
  clear k8 k9 k10 k11
  go_wp2_with fail
  refine bodyPost_ret_by (v := .agg #[.int .i64 ((n : Int) + m), .slice ue ql uc, .slice ja1 jl1 jc1, .slice ja2 jl2 jc2]) ?_ rfl ⟨_, xs, _, _, rfl, HX.out, HSF.out⟩
  simp [results, go_sem, *]
end Go.Proofs.YtjagjhchnpmngaaGreatDoor

/-
  Terms in the program: their types, whether they are valid, whether they are over a field. Conditions: lengths are small; the table of small primes holds what its text lays.
-/
namespace Go.Proofs.YtjagjhchnpmngaaGreatDoor
open Go.RowKit
set_option linter.unusedVariables false
set_option maxRecDepth 100000

theorem bw1 {w : World} {k : Nat} {x : Value} {t : TypeId} (h : w.heap[k]? = some (.cells #[x] t (0, 0))) : w.cell? ⟨k, 0, none⟩ = some x := cell_of_row w k 0 _ _ _ h
/-- A value that no element of the field is. -/
def nvB (p : Int) (n : Nd) : Bool := hvB n.k && decide (p ≤ n.v)
def ovT (p : Int) (ns : List Nd) : Bool := fldB p && (tmB ns && !(ns.any (nvB p)))
theorem twires_any (nv : Value) (ns : List Nd) (w : World) (hn : RdR nodeE w nv ns) (hl : ns.length ≤ 2000000) :
    Calls Tryz.prog 67 #[.agg #[nv]] w (TyR (tmB ns) (tmT ns) w) := by
  have HT := Lib.hid fun W (hW : w.grownBy W none) => typed_any nv ns W (hn.carry hW) hl
  obtain ⟨na, nc, rfl⟩ := hn.shape
  generalize ns.length = n at *
  generalize tmB ns = b at *
  generalize tmT ns = p at *
  unfold TyR at HT
  have hs0 := ((Sep.start w).boxAt w.heap.size rfl #[.slice na n nc] 37).boxAt (w.heap.size + 1) (by simp) #[.int .i64 0, .int .i64 0] 95
  have HS0 := Lib.hid hs0
  have HK0 := Lib.hid (show w.grownBy _ none from hs0.tl.tl.hd)
  have x0 := bw1 hs0.tl.hd
  clear hs0 hn hl
  go_enter Tryz.func67, Tryz.ntmps67
  go_wp2_with (
    go_at_call 91
    with_reducible refine (HT.out _ HK0.out).mono ?_
    rintro e w3 ⟨⟨⟨qa, qc⟩, rfl, hq⟩, hg⟩
    have hs1 := HS0.out.grown hg
    obtain ⟨y0, y1, f0, f1⟩ := bw2 hs1.hd
    have HSZ := Lib.hid ((hs1.setB 0 (.int .i64 qa)).setB 1 (.int .i64 qc))
    obtain ⟨u0, u1, _, _⟩ := bw2 HSZ.out.hd
    have HQ := Lib.hid hq
    have HKF := Lib.hid (show w.grownBy _ none from HSZ.out.tl.tl.hd)
    clear hs1 hg hq x0)
  refine bodyPost_ret_by (v := .tuple #[.agg #[.int .i64 qa, .int .i64 qc], .bool b]) ?_ rfl ⟨⟨_, rfl, HQ.out⟩, HKF.out⟩
  simp [results, go_sem, *]
theorem isValidT_any (nv : Value) (ns : List Nd) (w : World) (hn : RdR nodeE w nv ns) (hl : ns.length ≤ 2000000) :
    Calls Tryz.prog 45 #[.agg #[nv]] w fun e w' => e = .returned (.bool (tmB ns)) ∧ w.grownBy w' none := by
  have HT := Lib.hid fun W (hW : w.grownBy W none) => twires_any nv ns W (hn.carry hW) hl
  obtain ⟨na, nc, rfl⟩ := hn.shape
  generalize ns.length = n at *
  generalize tmB ns = b at *
  generalize tmT ns = p at *
  unfold TyR at HT
  have hs0 := (Sep.start w).boxAt w.heap.size rfl #[.slice na n nc] 37
  have HS0 := Lib.hid hs0
  have HK0 := Lib.hid (show w.grownBy _ none from hs0.tl.hd)
  have x0 := bw1 hs0.hd
  clear hs0 hn hl
  go_enter Tryz.func45, Tryz.ntmps45
  go_wp2_with (
    go_at_call 67
    with_reducible refine (HT.out _ HK0.out).mono ?_
    rintro e w3 ⟨⟨⟨qa, qc⟩, rfl, hq⟩, hg⟩
    have HS1 := Lib.hid ((HS0.out.grown hg).boxAt w3.heap.size rfl #[.int .i64 qa, .int .i64 qc] 95)
    have HKF := Lib.hid (show w.grownBy _ none from HS1.out.tl.tl.hd)
    clear hg hq x0)
  go_ret
  exact ⟨rfl, HKF.out⟩
theorem any_no {ns : List Nd} {f : Nd → Bool} (h : ∀ i, i < ns.length → f (ns.getD i nd0) = false) : ns.any f = false := by
  rw [List.any_eq_false]
  intro x hx
  obtain ⟨i, hi, rfl⟩ := List.getElem_of_mem hx
  have := h i hi
  rw [List.getD_eq_getElem?_getD, List.getElem?_eq_getElem hi] at this
  simpa using this
theorem any_yes {ns : List Nd} {f : Nd → Bool} {i : Nat} (hi : i < ns.length) (h : f (ns.getD i nd0) = true) : ns.any f = true := by
  rw [List.getD_eq_getElem?_getD, List.getElem?_eq_getElem hi] at h
  exact List.any_eq_true.2 ⟨_, List.getElem_mem hi, h⟩
set_option maxHeartbeats 4000000 in
theorem isOverT_any (p : Int) (nv : Value) (ns : List Nd) (w : World) (ht : Tab w) (hn : RdR nodeE w nv ns) (hl : ns.length ≤ 2000000) :
    Calls Tryz.prog 21 #[.agg #[nv], .int .i64 p] w fun e w' => e = .returned (.bool (ovT p ns)) ∧ w.grownBy w' none := by
  have HF := Lib.hid fun W (hW : w.grownBy W none) => isField_any p W (ht.grown hW)
  have HV := Lib.hid fun W (hW : w.grownBy W none) => isValidT_any nv ns W (hn.carry hW) hl
  have HN := Lib.hid hn
  obtain ⟨b, hb⟩ : ∃ b, ovT p ns = b := ⟨_, rfl⟩
  rw [hb]
  have HB := Lib.hid hb
  obtain ⟨na, nc, rfl⟩ := hn.shape
  obtain ⟨n, hnl⟩ : ∃ n, ns.length = n := ⟨_, rfl⟩
  have HNL := Lib.hid hnl
  rw [hnl] at HV hl ⊢
  have hs0 := (Sep.start w).boxAt w.heap.size rfl #[.slice na n nc] 37
  have HS0 := Lib.hid hs0
  have HK0 := Lib.hid (show w.grownBy _ none from hs0.tl.hd)
  have x0 := bw1 hs0.hd
  clear hs0 hn ht hb hnl
  cases h1 : fldB p
  · rw [h1] at HF
    obtain rfl : b = false := by rw [← HB.out]; unfold ovT; rw [h1]; rfl
    clear h1
    go_enter Tryz.func21, Tryz.ntmps21
    go_wp2_with (
      go_at_call 43
      with_reducible refine (HF.out _ HK0.out).mono ?_
      rintro e w3 ⟨rfl, rfl⟩)
    go_ret
    exact ⟨rfl, HK0.out⟩
  · rw [h1] at HF
    cases h2 : tmB ns
    · rw [h2] at HV
      obtain rfl : b = false := by rw [← HB.out]; unfold ovT; rw [h2]; simp
      clear h1 h2
      go_enter Tryz.func21, Tryz.ntmps21
      go_wp2_with (first
        | (go_at_call 43
           with_reducible refine (HF.out _ HK0.out).mono ?_
           rintro e w3 ⟨rfl, rfl⟩)
        | (go_at_call 45
           with_reducible refine (HV.out _ HK0.out).mono ?_
           rintro e w4 ⟨rfl, hg⟩
           have HKF := Lib.hid (grownBy_trans HK0.out hg)
           clear hg x0))
      go_ret
      exact ⟨rfl, HKF.out⟩
    · rw [h2] at HV
      have HBB := Lib.hid (show b = !(ns.any (nvB p)) from by rw [← HB.out]; unfold ovT; rw [h1, h2]; simp)
      have HHV := Lib.hid fun k W => hasValue_any k W
      clear h1 h2
      go_enter Tryz.func21, Tryz.ntmps21
      go_upto_region 4 with (first
        | (go_at_call 43
           with_reducible refine (HF.out _ HK0.out).mono ?_
           rintro e w3 ⟨rfl, rfl⟩)
        | (go_at_call 45
           with_reducible refine (HV.out _ HK0.out).mono ?_
           rintro e w4 ⟨rfl, hg⟩
           have HS4 := Lib.hid (HS0.out.grown hg)
           clear x0
           have x1 := bw1 HS4.out.hd
           clear hg))
      clear x1
      go_loopw [6, 18] (fun _ s8 wr => ∃ i : Nat, i ≤ n ∧ s8 = .int .i64 i ∧ (∀ j, j < i → nvB p (ns.getD j nd0) = false) ∧ w.grownBy wr none) (fun _ s8 _ => n - (intOf s8).toNat)
      case atStart => exact ⟨0, by omega, rfl, fun j hj => absurd hj (Nat.not_lt_zero _), HS4.out.tl.hd⟩
      case round =>
        obtain ⟨i, hi, rfl, ho, hg⟩ := hrel
        have HO := Lib.hid ho
        have HG := Lib.hid hg
        clear ho hg
        by_cases hlt : i < n
        · have hke : i < ns.length := by rw [HNL.out]; exact hlt
          have hji : (i : Int) < (n : Int) := by omega
          have HKE := Lib.hid hke
          obtain ⟨nb, no, rfl, _, q0, q1, q2⟩ := (HN.out.carry HG.out).node rfl rfl hke
          obtain ⟨y, hy⟩ : ∃ y, ns.getD i nd0 = y := ⟨_, rfl⟩
          have HY := Lib.hid hy
          rw [hy] at q0 q1 q2
          clear hy hke
          obtain ⟨k, v, s⟩ := y
          simp only at q0 q1 q2
          have HS2 := Lib.hid (((Sep.start w).grown HG.out).boxAt wr.heap.size rfl #[.int .i64 k, .int .i64 v, .string s] 66)
          obtain ⟨z0, z1, z2⟩ := bw3 HS2.out.hd
          have HH := Lib.hid fun W => HHV.out k W
          clear HHV
          cases hk : hvB k
          · rw [hk] at HH
            have HNO := Lib.hid (show ∀ j, j < i + 1 → nvB p (ns.getD j nd0) = false from fun j hj => by
              by_cases e : j = i
              · subst e; rw [HY.out]; unfold nvB; rw [hk]; rfl
              · exact HO.out j (by omega))
            clear hk
            go_wp2_with (go_at_call 46; with_reducible refine (HH.out _).mono ?_; rintro e w5 ⟨rfl, rfl⟩)
            go_roundw
            case rel => exact ⟨i + 1, by omega, by go_num, HNO.out, HS2.out.tl.hd⟩
            case measure => simp [intOf]; omega
          · rw [hk] at HH
            by_cases hv : p ≤ v
            · have hvb : nvB p (ns.getD i nd0) = true := by rw [HY.out]; unfold nvB; rw [hk, decide_eq_true hv]; rfl
              obtain rfl : b = false := by rw [HBB.out, any_yes HKE.out hvb]; rfl
              clear hk hvb
              go_wp2_with (go_at_call 46; with_reducible refine (HH.out _).mono ?_; rintro e w5 ⟨rfl, rfl⟩)
              go_ret
              exact ⟨rfl, HS2.out.tl.hd⟩
            · have HNO := Lib.hid (show ∀ j, j < i + 1 → nvB p (ns.getD j nd0) = false from fun j hj => by
                by_cases e : j = i
                · subst e; rw [HY.out]; unfold nvB; rw [decide_eq_false hv, Bool.and_false]
                · exact HO.out j (by omega))
              clear hk
              go_wp2_with (go_at_call 46; with_reducible refine (HH.out _).mono ?_; rintro e w5 ⟨rfl, rfl⟩)
              go_roundw
              case rel => exact ⟨i + 1, by omega, by go_num, HNO.out, HS2.out.tl.hd⟩
              case measure => simp [intOf]; omega
        · have hin : n = i := by omega
          subst hin
          have hkk : ¬ (n : Int) < (n : Int) := by omega
          obtain rfl : b = true := by rw [HBB.out, any_no (fun j hj => HO.out j (by rw [← HNL.out]; exact hj))]; rfl
          go_wp2_with fail
          go_ret
          exact ⟨rfl, HG.out⟩
end Go.Proofs.YtjagjhchnpmngaaGreatDoor

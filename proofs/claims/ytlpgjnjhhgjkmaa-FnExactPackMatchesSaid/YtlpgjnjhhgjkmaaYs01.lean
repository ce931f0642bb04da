/-
  PackMatches of the program and of the reference. Conditions: the graphs' lists can be read, their lengths are small.
-/
import Derived.Test.YtlpgjnjhhgjkmaaYs00
import Derived.Test.YtlpgjnjhhgjkmaaYq06
namespace Go.Proofs.Ytlpgjnjhhgjkmaa
open Go.RowKit
set_option linter.unusedVariables false
set_option maxRecDepth 100000

noncomputable def okA (p : Gr) (m k : Mt) : Bool := tst (Ap p k m)
noncomputable def packM (p : Gr) : List Mt → List Mt → List Mt
  | ys, [] => ys
  | ys, m :: r => packM p (if ys.all (okA p m) = true then ys ++ [m] else ys) r
noncomputable def packX (p : Gr) : List XM → List XM → List XM
  | ys, [] => ys
  | ys, m :: r => packX p (if ys.all (fun k => okA p m.mt k.mt) = true then ys ++ [m] else ys) r
theorem mts_all {f : Mt → Bool} (ys : List XM) : (mts ys).all f = ys.all fun k => f k.mt := by
  unfold mts
  rw [List.all_map]
  rfl
theorem mts_pack (p : Gr) (xs : List XM) : ∀ ys, mts (packX p ys xs) = packM p (mts ys) (mts xs) := by
  induction xs with
  | nil => intro ys; rfl
  | cons x r ih =>
    intro ys
    have e : mts (x :: r) = x.mt :: mts r := rfl
    rw [e]
    unfold packX packM
    rw [ih, mts_all]
    split
    · rw [mts_snoc]
    · rfl
theorem packX_app (p : Gr) (A B : List XM) : ∀ ys, packX p ys (A ++ B) = packX p (packX p ys A) B := by
  induction A with
  | nil => intro ys; rfl
  | cons x r ih => intro ys; simp only [List.cons_append, packX]; exact ih _
theorem packX_sub (p : Gr) (xs : List XM) : ∀ ys, (packX p ys xs).Sublist (ys ++ xs) := by
  induction xs with
  | nil => intro ys; simp [packX]
  | cons x r ih =>
    intro ys
    unfold packX
    split
    · have := ih (ys ++ [x])
      simpa using this
    · exact (ih ys).trans (List.Sublist.append (List.Sublist.refl _) (List.sublist_cons_self _ _))
theorem packM_sub (p : Gr) (xs : List Mt) : ∀ ys, (packM p ys xs).Sublist (ys ++ xs) := by
  induction xs with
  | nil => intro ys; simp [packM]
  | cons x r ih =>
    intro ys
    unfold packM
    split
    · have := ih (ys ++ [x])
      simpa using this
    · exact (ih ys).trans (List.Sublist.append (List.Sublist.refl _) (List.sublist_cons_self _ _))
theorem pack_step (p : Gr) {xs : List XM} {j : Nat} (hj : j < xs.length) : packX p [] (xs.take (j + 1)) = (if (packX p [] (xs.take j)).all (fun k => okA p (xs.getD j xm0).mt k.mt) = true then packX p [] (xs.take j) ++ [xs.getD j xm0] else packX p [] (xs.take j)) := by
  have e : xs.take (j + 1) = xs.take j ++ [xs.getD j xm0] := by
    rw [List.take_add_one, List.getD_eq_getElem?_getD, List.getElem?_eq_getElem hj]; rfl
  rw [e, packX_app]
  rfl
theorem pack_mem {p : Gr} {xs : List XM} {j : Nat} {y : XM} (h : y ∈ packX p [] (xs.take j)) : y ∈ xs := by
  have h1 := (packX_sub p (xs.take j) []).subset h
  rw [List.nil_append] at h1
  exact List.mem_of_mem_take h1
theorem pack_len {p : Gr} {xs : List XM} (j : Nat) : (packX p [] (xs.take j)).length ≤ xs.length := by
  have h1 := (packX_sub p (xs.take j) []).length_le
  rw [List.nil_append, List.length_take] at h1
  omega
noncomputable def pkL (g p : Gr) : List Mt := packM p [] (mtL g p)
theorem pkL_sub (g p : Gr) : (pkL g p).Sublist (mtL g p) := by
  have := packM_sub p (mtL g p) []
  rwa [List.nil_append] at this
theorem pkL_small (g p : Gr) : (pkL g p).length ≤ 100 ∧ (∀ x ∈ pkL g p, x.W.length ≤ 1000 ∧ x.E.length ≤ 1000) ∧ wMs (pkL g p) ≤ 200000 :=
  sub_small (Nat.le_trans (pkL_sub g p).length_le (mtL_cnt g p)) fun _ h => (pkL_sub g p).subset h
/-- What PackMatches hands back. -/
def PackR (g p : Gr) (w : World) (e : Ending) (w' : World) : Prop :=
  ∃ v ys, e = .returned (.tuple #[v, .bool (mtB g p)]) ∧ mts ys = pkL g p ∧ Sep w' [OR matchE v ys, Bag (rowsM ys), KeepA w]
theorem PackR.sh {g p : Gr} {w w' : World} {e : Ending} {L : List Mt} {b : Bool} (hL : pkL g p = L) (hb : mtB g p = b) (h : PackR g p w e w') : ∃ a c ys, e = .returned (.tuple #[.slice a L.length c, .bool b]) ∧ mts ys = L ∧ Sep w' [OMs (.slice a L.length c) ys, KeepA w] := by
  obtain ⟨v, xs, rfl, hx, hs⟩ := h
  obtain ⟨a, c, rfl⟩ := OwnR.shape (show OwnR matchE 0 w' v xs from hs.hd)
  rw [hL] at hx
  have hl : xs.length = L.length := by rw [← hx]; simp [mts]
  rw [hl] at hs ⊢
  exact ⟨a, c, xs, by rw [hb], hx, hs.toOMs⟩
theorem MatR.some {g p : Gr} {w w' : World} {e : Ending} {b : Bool} (hb : mtB g p = b) (h : MatR g p w e w') : ∃ a c xs, e = .returned (.tuple #[.slice a xs.length c, .bool b]) ∧ mts xs = mtL g p ∧ Sep w' [OR matchE (.slice a xs.length c) xs, Bag (rowsM xs), KeepA w] := by
  obtain ⟨v, xs, rfl, hx, hs⟩ := h
  obtain ⟨a, c, rfl⟩ := OwnR.shape (show OwnR matchE 0 w' v xs from hs.hd)
  exact ⟨a, c, xs, by rw [hb], hx, hs⟩
theorem Sep.sub {w : World} : ∀ {l l' : List Asrt}, l.Sublist l' → Sep w l' → Sep w l
  | _, _, .slnil, h => h
  | _, _, .cons _ s, h => Sep.sub s h.tl
  | _, _, .cons_cons _ s, h => h.under (fun h => Sep.sub s h) (by intro A hA; exact s.subset hA)
theorem rowsM_sub : ∀ {ys xs : List XM}, ys.Sublist xs → (rowsM ys).Sublist (rowsM xs)
  | _, _, .slnil => List.Sublist.refl _
  | _, _, .cons x s => by rw [rowsM_cons]; exact ((rowsM_sub s).cons _).cons _
  | _, _, .cons_cons x s => by rw [rowsM_cons, rowsM_cons]; exact ((rowsM_sub s).cons_cons _).cons_cons _
theorem Sep.bagSub {w : World} {xs ys : List XM} {l : List Asrt} (s : ys.Sublist xs) (h : Sep w (Bag (rowsM xs) :: l)) : Sep w (Bag (rowsM ys) :: l) :=
  Sep.bag (Sep.sub (List.Sublist.append (rowsM_sub s) (List.Sublist.refl l)) (Sep.unbag h))
theorem rows_read {w : World} {xs : List XM} (h : (Bag (rowsM xs)).holds w) {x : XM} (hx : x ∈ xs) : ∃ a1 c1 a2 c2, x.wv = .slice a1 x.W.length c1 ∧ x.ev = .slice a2 x.E.length c2 ∧ IntsV w x.wv x.W ∧ IntsV w x.ev x.E := by
  have ha := Sep.all (show Sep w (rowsM xs) from h)
  have h1 := OwnInts.read (show OwnInts 0 w x.wv x.W from ha (OI x.wv x.W) (List.mem_flatMap.2 ⟨x, hx, by simp⟩))
  have h2 := OwnInts.read (show OwnInts 0 w x.ev x.E from ha (OI x.ev x.E) (List.mem_flatMap.2 ⟨x, hx, by simp⟩))
  obtain ⟨a1, c1, e1⟩ := h1.shape
  obtain ⟨a2, c2, e2⟩ := h2.shape
  exact ⟨a1, c1, a2, c2, e1, e2, h1, h2⟩
theorem Sep.emptyM2 {w : World} {l : List Asrt} (h : Sep w l) : Sep (w.alloc (.cells #[] matchE.ty)) (OR matchE (.slice (some ⟨w.heap.size, 0, none⟩) 0 0) [] :: l) :=
  h.newR (grownBy_alloc w _ none) ⟨rfl, Or.inr ⟨w.heap.size, 0, #[], rfl, Nat.le_refl _, alloc_heap_new _ _, Nat.le_refl _, Nat.zero_le _, by simp, by simp⟩⟩
theorem all_takeX {f : XM → Bool} {ys : List XM} {i : Nat} (hi : i < ys.length) : (ys.take (i + 1)).all f = ((ys.take i).all f && f (ys.getD i xm0)) := by
  rw [List.take_add_one, List.getD_eq_getElem?_getD, List.getElem?_eq_getElem hi, List.all_append]
  simp
set_option maxHeartbeats 8000000 in
theorem sPack_any (g p : Gr) (gev giv gov pev piv pov : Value) (w : World) (hg : RdX w g gev giv gov) (hp : RdX w p pev piv pov) (sg : Sm g) (sp : Sm p) :
    Calls Try.prog 24 #[grV g.n gev giv gov, grV p.n pev piv pov] w (PackR g p w) := by
  obtain ⟨b, hb⟩ : ∃ b, mtB g p = b := ⟨_, rfl⟩
  have HMT := Lib.hid fun W (h : w.grownBy W none) => (sMatchesOf_any g p gev giv gov pev piv pov W ⟨hg.1.carry h, hg.2.1.carry h, hg.2.2.carry h⟩ ⟨hp.1.carry h, hp.2.1.carry h, hp.2.2.carry h⟩ sg sp).mono fun _ _ h => MatR.some hb h
  unfold grV at HMT
  unfold grV
  obtain ⟨ga, gc, rfl⟩ := hg.1.shape
  obtain ⟨gi, gd, rfl⟩ := hg.2.1.shape
  obtain ⟨go, gf, rfl⟩ := hg.2.2.shape
  obtain ⟨pa, pc, rfl⟩ := hp.1.shape
  obtain ⟨pi, pd, rfl⟩ := hp.2.1.shape
  obtain ⟨po, pf, rfl⟩ := hp.2.2.shape
  have HAP := Lib.hid fun (hv : p.i.length ≤ 1000000 ∧ p.o.length ≤ 1000000) (A B : Mt) (a1 : Option Addr) (a2 : Nat) (a3 : Option Addr) (a4 : Nat) (b1 : Option Addr) (b2 : Nat) (b3 : Option Addr) (b4 : Nat) W (h : w.grownBy W none) k1 k2 k3 k4 m1 m2 m3 m4 hd => sApart_any p p.n pa p.es.length pc pi pd po pf A B a1 a2 a3 a4 b1 b2 b3 b4 W (hp.2.1.carry h) (hp.2.2.carry h) hv.1 hv.2 k1 k2 k3 k4 m1 m2 m3 m4 hd
  have hs0 := ((Sep.start w).box #[.int .i64 g.n, .slice ga g.es.length gc, .slice gi g.i.length gd, .slice go g.o.length gf] 29).boxAt (w.heap.size + 1) (by simp) #[.int .i64 p.n, .slice pa p.es.length pc, .slice pi p.i.length pd, .slice po p.o.length pf] 29
  have HS0 := Lib.hid hs0
  have HK0 := Lib.hid (show w.grownBy _ none from HS0.out.tl.tl.hd)
  obtain ⟨x0, x1, x2, x3, _⟩ := bq4 hs0.tl.hd
  obtain ⟨z0, z1, z2, z3, _⟩ := bq4 hs0.hd
  have HBB := Lib.hid hb
  clear hg hp sg sp hs0
  cases b with
  | false =>
    have HN := Lib.hid (show pkL g p = [] from by unfold pkL mtL; rw [hb]; rfl)
    clear hb HAP
    go_enter Try.func24, Try.ntmps24
    go_wp2_with (
      go_at_call 19
      with_reducible refine (HMT.out _ HK0.out).mono ?_
      rintro e w2 ⟨a, c, xs, rfl, hxs, hsg⟩
      have HS2 := Lib.hid (show Sep w2 [KeepA w] from (HS0.out.graft2 hsg (fun k hk => hk) (fun k hk => bagM_own k hk)).tl.tl.tl.tl)
      clear hsg hxs)
    go_ret2
    exact ⟨nilS, [], by rw [HBB.out]; rfl, by rw [HN.out]; rfl, HS2.out.nilM⟩
  | true =>
    have HAP := Lib.hid (HAP.out (by
      unfold mtB at hb
      simp only [Bool.and_eq_true] at hb
      obtain ⟨_, _, _, _, h3, h4, _⟩ := grB_n (mgB_gr hb.1.2)
      exact ⟨by omega, by omega⟩))
    clear hb
    go_enter Try.func24, Try.ntmps24
    go_wp2_with (
      go_at_call 19
      with_reducible refine (HMT.out _ HK0.out).mono ?_
      rintro e w2 ⟨a, c, xs, rfl, hxs, hsg⟩
      have HX := Lib.hid hxs
      have HLN := Lib.hid (show xs.length ≤ 100 from by have := mtL_cnt g p; rw [← hxs, mts_len] at this; exact this)
      have HMM := Lib.hid (show ∀ x ∈ xs, x.W.length ≤ 1000 ∧ x.E.length ≤ 1000 ∧ x.W.Nodup from fun x hx => by
        have hm : x.mt ∈ mtL g p := by rw [← hxs]; exact List.mem_map.2 ⟨x, hx, rfl⟩
        have h1 := mtL_len hm
        exact ⟨by have := h1.1; simp only [XM.mt] at this; omega, by have := h1.2; simp only [XM.mt] at this; omega, (mtL_mem hm).1.dw⟩)
      have hxl := HLN.out
      have hs2 := HS0.out.graft2 hsg (fun k hk => hk) (fun k hk => bagM_own k hk)
      have HS2 := Lib.hid (Sep.blk (A := [_]) (B := [_, _]) (Sep.nilR matchE hs2))
      clear hsg hxs hs2 x0 x1 x2 x3 z0 z1 z2 z3)
    go_loopw [8, 10, 11, 13, 24] (fun ov _ _ _ i wr => ∃ j : Nat, j ≤ xs.length ∧ i = .int .i64 j ∧ Sep wr [OR matchE (.slice a xs.length c) xs, Bag (rowsM xs), OR matchE ov (packX p [] (xs.take j)), BxA (w.heap.size + 1) #[.int .i64 p.n, .slice pa p.es.length pc, .slice pi p.i.length pd, .slice po p.o.length pf] 29, BxA w.heap.size #[.int .i64 g.n, .slice ga g.es.length gc, .slice gi g.i.length gd, .slice go g.o.length gf] 29, KeepA w]) (fun _ _ _ _ i _ => xs.length - (intOf i).toNat)
    case atStart => exact ⟨0, by omega, rfl, HS2.out⟩
    case round =>
      obtain ⟨j, hj, rfl, hs⟩ := hrel
      obtain ⟨oa, oc, hov⟩ := OwnR.shape (show OwnR matchE 0 wr _ (packX p [] (xs.take j)) from hs.tl.tl.hd)
      subst hov
      have HSR := Lib.hid hs
      have HJ := Lib.hid hj
      clear hs HS2 HS0 HK0
      by_cases hlt : j < xs.length
      · have HLT := Lib.hid hlt
        have hyl : (packX p [] (xs.take j)).length ≤ 100 := by have := pack_len (p := p) (xs := xs) j; omega
        have HST := Lib.hid (pack_step p hlt)
        have hgt : xs.getD j xm0 ∈ xs := by rw [List.getD_eq_getElem?_getD, List.getElem?_eq_getElem hlt]; exact List.getElem_mem hlt
        have hm := HMM.out _ hgt
        obtain ⟨a1, c1, a2, c2, e1, e2, _, _⟩ := rows_read HSR.out.tl.hd hgt
        obtain ⟨lb, cap, hea, _, _, _⟩ := OwnR.parts (show OwnR matchE 0 wr (.slice a xs.length c) xs from HSR.out.hd) (by omega)
        injection hea with f1 f2 f3
        subst f1 f3
        obtain ⟨q0, q1⟩ := match_cells (show OwnR matchE 0 wr _ xs from HSR.out.hd) rfl hlt
        have HPM := Lib.hid fun y (hy : y ∈ packX p [] (xs.take j)) => pack_mem hy
        have HPL := Lib.hid (pack_len (p := p) (xs := xs) j)
        generalize xs.getD j xm0 = x at *
        obtain ⟨ys, hys⟩ : ∃ ys, packX p [] (xs.take j) = ys := ⟨_, rfl⟩
        rw [hys] at HSR HST HPM HPL hyl
        have HYS := Lib.hid hys
        try rw [hys]
        clear hys
        obtain ⟨xW, xE, xwv, xev⟩ := x
        simp only at e1 e2 q0 q1 hm
        subst e1 e2
        have HGT := Lib.hid hgt; have HM := Lib.hid hm
        clear hgt hm
        have hki : (j : Int) < (xs.length : Int) := by omega
        have hrow := HSR.out.box #[.slice a1 xW.length c1, .slice a2 xE.length c2] 37
        clear hj
        go_upto_region 8 with fail
        clear q0 q1
        obtain ⟨bm, hbm⟩ : ∃ bm, bm = wr.heap.size := ⟨_, rfl⟩
        rw [← hbm] at hrow ⊢
        have HS7 := Lib.hid hrow
        clear hrow hbm
        generalize wr.alloc (.cells #[.slice a1 xW.length c1, .slice a2 xE.length c2] 37) = w7 at *
        go_wp2_with fail
        go_loopw [11, 13, 30] (fun bv _ i wr => ∃ (t : Nat) (b : Bool), t ≤ ys.length ∧ bv = .bool b ∧ i = .int .i64 t ∧ b = (ys.take t).all (fun k : XM => okA p ⟨xW, xE⟩ k.mt) ∧ Sep wr [BxA bm #[.slice a1 xW.length c1, .slice a2 xE.length c2] 37, OR matchE (.slice (some ⟨lb, 0, none⟩) xs.length c) xs, Bag (rowsM xs), OR matchE (.slice oa ys.length oc) ys, BxA (w.heap.size + 1) #[.int .i64 p.n, .slice pa p.es.length pc, .slice pi p.i.length pd, .slice po p.o.length pf] 29, BxA w.heap.size #[.int .i64 g.n, .slice ga g.es.length gc, .slice gi g.i.length gd, .slice go g.o.length gf] 29, KeepA w]) (fun _ _ i _ => ys.length - (intOf i).toNat)
        case atStart => exact ⟨0, true, by omega, rfl, rfl, rfl, HS7.out⟩
        case round =>
          obtain ⟨t, b, ht, rfl, rfl, hbt, hs⟩ := hrel
          have HBT := Lib.hid hbt; have HSI := Lib.hid hs
          clear hbt hs HS7 HSR
          by_cases htl : t < ys.length
          · have HTL := Lib.hid htl
            have hyt : ys.getD t xm0 ∈ ys := by rw [List.getD_eq_getElem?_getD, List.getElem?_eq_getElem htl]; exact List.getElem_mem htl
            have hyx := HPM.out _ hyt
            have hm := HMM.out _ hyx
            obtain ⟨d1, f1, d2, f2, e1, e2, i1, i2⟩ := rows_read HSI.out.tl.tl.hd hyx
            obtain ⟨j1, j2⟩ : IntsV wr (.slice a1 xW.length c1) xW ∧ IntsV wr (.slice a2 xE.length c2) xE := by
              obtain ⟨_, _, _, _, _, _, h1, h2⟩ := rows_read HSI.out.tl.tl.hd HGT.out
              exact ⟨h1, h2⟩
            obtain ⟨ob, cap, hea, _, _, _⟩ := OwnR.parts (show OwnR matchE 0 wr (.slice oa ys.length oc) ys from HSI.out.tl.tl.tl.hd) (by omega)
            injection hea with g1 g2 g3
            subst g1 g3
            obtain ⟨q0, q1⟩ := match_cells (show OwnR matchE 0 wr _ ys from HSI.out.tl.tl.tl.hd) rfl htl
            have HAT := Lib.hid (all_takeX (f := (fun k : XM => okA p ⟨xW, xE⟩ k.mt)) htl)
            generalize ys.getD t xm0 = y at *
            obtain ⟨yW, yE, ywv, yev⟩ := y
            simp only at e1 e2 i1 i2 q0 q1 hm
            subst e1 e2
            have hw9 := HSI.out.box #[.slice d1 yW.length f1, .slice d2 yE.length f2] 37
            have hgw := grownBy_alloc wr (.cells #[.slice d1 yW.length f1, .slice d2 yE.length f2] 37) none
            have HCA := Lib.hid (HAP.out ⟨yW, yE⟩ ⟨xW, xE⟩ d1 f1 d2 f2 a1 c1 a2 c2 _ (show w.grownBy _ none from hw9.tl.tl.tl.tl.tl.tl.tl.hd) (i1.carry hgw) (i2.carry hgw) (j1.carry hgw) (j2.carry hgw) hm.1 hm.2.1 HM.out.1 HM.out.2.1 HM.out.2.2)
            have hki : (t : Int) < (ys.length : Int) := by omega
            have HOK := Lib.hid (show okA p ⟨xW, xE⟩ (XM.mt ⟨yW, yE, .slice d1 yW.length f1, .slice d2 yE.length f2⟩) = tst (Ap p ⟨yW, yE⟩ ⟨xW, xE⟩) from rfl)
            clear i1 i2 j1 j2 hgw hyt hyx hm
            go_upto_region 12 with fail
            clear q0 q1
            obtain ⟨bk, hbk⟩ : ∃ bk, bk = wr.heap.size := ⟨_, rfl⟩
            rw [← hbk] at hw9 ⊢
            have HS9 := Lib.hid hw9
            clear hw9 hbk
            generalize wr.alloc (.cells #[.slice d1 yW.length f1, .slice d2 yE.length f2] 37) = w9 at *
            obtain ⟨k0, k1⟩ := bq2 HS9.out.hd
            obtain ⟨l0, l1⟩ := bq2 HS9.out.tl.hd
            obtain ⟨y0, y1, y2, y3, _⟩ := bq4 HS9.out.tl.tl.tl.tl.tl.hd
            generalize tst (Ap p ⟨yW, yE⟩ ⟨xW, xE⟩) = r at *
            cases b with
            | false =>
              have HN := Lib.hid (show false = (ys.take (t + 1)).all (fun k : XM => okA p ⟨xW, xE⟩ k.mt) from by rw [HAT.out, ← HBT.out]; rfl)
              have HSN := Lib.hid HS9.out.tl
              clear HBT HAT HOK HCA k0 k1 l0 l1 y0 y1 y2 y3
              go_wp2_with fail
              go_roundw
              case rel => exact ⟨t + 1, false, HTL.out, rfl, by go_num, HN.out, HSN.out⟩
              case measure => simp [intOf]; omega
            | true =>
              have HN := Lib.hid (show r = (ys.take (t + 1)).all (fun k : XM => okA p ⟨xW, xE⟩ k.mt) from by rw [HAT.out, ← HBT.out, HOK.out]; simp)
              clear HBT HAT HOK
              go_wp2_with (
                go_at_call 48
                with_reducible refine HCA.out.mono ?_
                rintro e w10 ⟨rfl, hg⟩
                have HSA := Lib.hid (HS9.out.grown hg).tl
                clear hg k0 k1 l0 l1 y0 y1 y2 y3)
              go_roundw
              case rel => exact ⟨t + 1, r, HTL.out, rfl, by go_num, HN.out, HSA.out⟩
              case measure => simp [intOf]; omega
          · have htm : t = ys.length := by have := ht; omega
            subst htm
            have hall := HBT.out
            rw [List.take_length] at hall
            have HALLY := Lib.hid hall
            clear hall HBT
            obtain ⟨l0, l1⟩ := bq2 HSI.out.hd
            have hki : ¬ ((ys.length : Int) < (ys.length : Int)) := by omega
            cases b with
            | false =>
              have HNX := Lib.hid (show packX p [] (xs.take (j + 1)) = ys from by rw [HST.out, if_neg (by rw [show ys.all (fun k => okA p (XM.mt ⟨xW, xE, .slice a1 xW.length c1, .slice a2 xE.length c2⟩) k.mt) = false from HALLY.out.symm]; simp)])
              clear l0 l1 HALLY
              go_wp2_with fail
              go_roundw
              case rel => exact ⟨j + 1, HLT.out, by go_num, by rw [HNX.out]; exact HSI.out.tl⟩
              case measure => simp [intOf]; omega
            | true =>
              have HNX := Lib.hid (show packX p [] (xs.take (j + 1)) = ys ++ [⟨xW, xE, .slice a1 xW.length c1, .slice a2 xE.length c2⟩] from by rw [HST.out, if_pos (show ys.all (fun k => okA p (XM.mt ⟨xW, xE, .slice a1 xW.length c1, .slice a2 xE.length c2⟩) k.mt) = true from HALLY.out.symm)])
              clear HALLY
              have HSQ := Lib.hid (Sep.blk (A := [_, _, _]) (B := [_]) HSI.out)
              clear HSI
              have HYL := Lib.hid (show ys.length ≤ 10000000 from by have := HPL.out; have := HLN.out; omega)
              go_wp2_with (
                at_builtin
                go_loud (
                  (refine app_Rq (E := matchE) (y := ⟨xW, xE, .slice a1 xW.length c1, .slice a2 xE.length c2⟩) info_match rfl (by decide) Try.underlying43 (match_one _ _ _ _ _ _ _ _) rfl (.tmp 44) (.tmp 46) rfl rfl rfl (by simp) rfl HSQ.out HYL.out ?_)
                  intro g1 c3 w3 h3
                  have HSB := Lib.hid (Sep.blk (A := [_]) (B := [_, _]) h3.s2.tl)
                  clear h3 l0 l1))
              go_roundw
              case rel => exact ⟨j + 1, HLT.out, by go_num, by rw [HNX.out]; exact HSB.out⟩
              case measure => simp [intOf]; omega
      · have hjn : j = xs.length := by omega
        have hfin := HSR.out
        have htk : xs.take j = xs := List.take_of_length_le (by omega)
        rw [htk] at hfin
        have HPK := Lib.hid (show mts (packX p [] xs) = pkL g p from by rw [mts_pack, HX.out]; rfl)
        rw [htk]
        have HSF := Lib.hid (show Sep wr [OR matchE (.slice oa (packX p [] xs).length oc) (packX p [] xs), Bag (rowsM (packX p [] xs)), KeepA w] from by
          exact Sep.cutA (X := [_, _]) (A := [_, _]) (r := [KeepA w]) (Sep.bagSub (show (packX p [] xs).Sublist xs from by have := packX_sub p xs []; rwa [List.nil_append] at this) hfin.tl).s2)
        have hki : ¬ ((j : Int) < (xs.length : Int)) := by omega
        clear hfin htk HSR
        generalize packX p [] xs = zs at *
        go_wp2_with fail
        go_ret2
        exact ⟨_, zs, by rw [HBB.out]; rfl, HPK.out, HSF.out⟩
set_option maxHeartbeats 8000000 in
theorem iPack_any (g p : Gr) (gev giv gov pev piv pov : Value) (w : World) (hg : RdX w g gev giv gov) (hp : RdX w p pev piv pov) (sg : Sm g) (sp : Sm p) :
    Calls Try.prog 25 #[grV g.n gev giv gov, grV p.n pev piv pov] w (PackR g p w) := by
  obtain ⟨b, hb⟩ : ∃ b, mtB g p = b := ⟨_, rfl⟩
  have HMT := Lib.hid fun W (h : w.grownBy W none) => (iMatchesOf_any g p gev giv gov pev piv pov W ⟨hg.1.carry h, hg.2.1.carry h, hg.2.2.carry h⟩ ⟨hp.1.carry h, hp.2.1.carry h, hp.2.2.carry h⟩ sg sp).mono fun _ _ h => MatR.some hb h
  unfold grV at HMT
  unfold grV
  obtain ⟨ga, gc, rfl⟩ := hg.1.shape
  obtain ⟨gi, gd, rfl⟩ := hg.2.1.shape
  obtain ⟨go, gf, rfl⟩ := hg.2.2.shape
  obtain ⟨pa, pc, rfl⟩ := hp.1.shape
  obtain ⟨pi, pd, rfl⟩ := hp.2.1.shape
  obtain ⟨po, pf, rfl⟩ := hp.2.2.shape
  have HAP := Lib.hid fun (hv : p.i.length ≤ 1000000 ∧ p.o.length ≤ 1000000) (A B : Mt) (a1 : Option Addr) (a2 : Nat) (a3 : Option Addr) (a4 : Nat) (b1 : Option Addr) (b2 : Nat) (b3 : Option Addr) (b4 : Nat) W (h : w.grownBy W none) k1 k2 k3 k4 m1 m2 m3 m4 hd => iApart_any p p.n pa p.es.length pc pi pd po pf A B a1 a2 a3 a4 b1 b2 b3 b4 W (hp.2.1.carry h) (hp.2.2.carry h) hv.1 hv.2 k1 k2 k3 k4 m1 m2 m3 m4 hd
  have hs0 := ((Sep.start w).box #[.int .i64 g.n, .slice ga g.es.length gc, .slice gi g.i.length gd, .slice go g.o.length gf] 29).boxAt (w.heap.size + 1) (by simp) #[.int .i64 p.n, .slice pa p.es.length pc, .slice pi p.i.length pd, .slice po p.o.length pf] 29
  have HS0 := Lib.hid hs0
  have HK0 := Lib.hid (show w.grownBy _ none from HS0.out.tl.tl.hd)
  obtain ⟨x0, x1, x2, x3, _⟩ := bq4 hs0.tl.hd
  obtain ⟨z0, z1, z2, z3, _⟩ := bq4 hs0.hd
  have HBB := Lib.hid hb
  clear hg hp sg sp hs0
  cases b with
  | false =>
    have HN := Lib.hid (show pkL g p = [] from by unfold pkL mtL; rw [hb]; rfl)
    clear hb HAP
    go_enter Try.func25, Try.ntmps25
    go_wp2
    go_step3
    go_wp2_with (
      go_at_call 20
      with_reducible refine (HMT.out _ HK0.out).mono ?_
      rintro e w2 ⟨a, c, xs, rfl, hxs, hsg⟩
      have HS2 := Lib.hid (show Sep w2 [KeepA w] from (HS0.out.graft2 hsg (fun k hk => hk) (fun k hk => bagM_own k hk)).tl.tl.tl.tl)
      clear hsg hxs)
    try rw [Exit.noGoto_ret]
    go_ret2
    exact ⟨nilS, [], by rw [HBB.out]; rfl, by rw [HN.out]; rfl, HS2.out.nilM⟩
  | true =>
    have HAP := Lib.hid (HAP.out (by
      unfold mtB at hb
      simp only [Bool.and_eq_true] at hb
      obtain ⟨_, _, _, _, h3, h4, _⟩ := grB_n (mgB_gr hb.1.2)
      exact ⟨by omega, by omega⟩))
    clear hb
    go_enter Try.func25, Try.ntmps25
    go_wp2
    go_step3
    go_wp2_with (
      go_at_call 20
      with_reducible refine (HMT.out _ HK0.out).mono ?_
      rintro e w2 ⟨a, c, xs, rfl, hxs, hsg⟩
      have HX := Lib.hid hxs
      have HLN := Lib.hid (show xs.length ≤ 100 from by have := mtL_cnt g p; rw [← hxs, mts_len] at this; exact this)
      have HMM := Lib.hid (show ∀ x ∈ xs, x.W.length ≤ 1000 ∧ x.E.length ≤ 1000 ∧ x.W.Nodup from fun x hx => by
        have hm : x.mt ∈ mtL g p := by rw [← hxs]; exact List.mem_map.2 ⟨x, hx, rfl⟩
        have h1 := mtL_len hm
        exact ⟨by have := h1.1; simp only [XM.mt] at this; omega, by have := h1.2; simp only [XM.mt] at this; omega, (mtL_mem hm).1.dw⟩)
      have hxl := HLN.out
      have hs2 := HS0.out.graft2 hsg (fun k hk => hk) (fun k hk => bagM_own k hk)
      have HS2 := Lib.hid (Sep.blk (A := [_]) (B := [_, _]) (Sep.emptyM2 hs2))
      clear hsg hxs hs2 x0 x1 x2 x3 z0 z1 z2 z3)
    go_step3
    go_wp2
    go_loopg [8, 10, 12, 24] xs.length (fun gk ov _ _ i wr => ∃ j : Nat, j + gk = xs.length ∧ i = .int .i64 j ∧ Sep wr [OR matchE (.slice a xs.length c) xs, Bag (rowsM xs), OR matchE ov (packX p [] (xs.take j)), BxA (w.heap.size + 1) #[.int .i64 p.n, .slice pa p.es.length pc, .slice pi p.i.length pd, .slice po p.o.length pf] 29, BxA w.heap.size #[.int .i64 g.n, .slice ga g.es.length gc, .slice gi g.i.length gd, .slice go g.o.length gf] 29, KeepA w])
    case atStart => exact ⟨0, by omega, rfl, HS2.out⟩
    case round =>
      obtain ⟨j, hj, rfl, hs⟩ := hrel
      obtain ⟨oa, oc, hov⟩ := OwnR.shape (show OwnR matchE 0 wr _ (packX p [] (xs.take j)) from hs.tl.tl.hd)
      subst hov
      have HSR := Lib.hid hs
      have HJ := Lib.hid hj
      clear hs HS2 HS0 HK0
      by_cases hlt : j < xs.length
      · have HLT := Lib.hid hlt
        have hyl : (packX p [] (xs.take j)).length ≤ 100 := by have := pack_len (p := p) (xs := xs) j; omega
        have HST := Lib.hid (pack_step p hlt)
        have hgt : xs.getD j xm0 ∈ xs := by rw [List.getD_eq_getElem?_getD, List.getElem?_eq_getElem hlt]; exact List.getElem_mem hlt
        have hm := HMM.out _ hgt
        obtain ⟨a1, c1, a2, c2, e1, e2, _, _⟩ := rows_read HSR.out.tl.hd hgt
        obtain ⟨lb, cap, hea, _, _, _⟩ := OwnR.parts (show OwnR matchE 0 wr (.slice a xs.length c) xs from HSR.out.hd) (by omega)
        injection hea with f1 f2 f3
        subst f1 f3
        obtain ⟨q0, q1⟩ := match_cells (show OwnR matchE 0 wr _ xs from HSR.out.hd) rfl hlt
        have HPM := Lib.hid fun y (hy : y ∈ packX p [] (xs.take j)) => pack_mem hy
        have HPL := Lib.hid (pack_len (p := p) (xs := xs) j)
        generalize xs.getD j xm0 = x at *
        obtain ⟨ys, hys⟩ : ∃ ys, packX p [] (xs.take j) = ys := ⟨_, rfl⟩
        rw [hys] at HSR HST HPM HPL hyl
        have HYS := Lib.hid hys
        try rw [hys]
        clear hys
        obtain ⟨xW, xE, xwv, xev⟩ := x
        simp only at e1 e2 q0 q1 hm
        subst e1 e2
        have HGT := Lib.hid hgt; have HM := Lib.hid hm
        clear hgt hm
        have hki : (j : Int) < (xs.length : Int) := by omega
        have hrow := HSR.out.box #[.slice a1 xW.length c1, .slice a2 xE.length c2] 37
        obtain ⟨gn2, hgn2⟩ : ∃ gn2, gk = gn2 + 1 := ⟨gk - 1, by have := HJ.out; omega⟩
        subst hgn2
        clear hj
        go_upto_region 8 with fail
        clear q0 q1
        obtain ⟨bm, hbm⟩ : ∃ bm, bm = wr.heap.size := ⟨_, rfl⟩
        rw [← hbm] at hrow ⊢
        have HS7 := Lib.hid hrow
        clear hrow hbm
        generalize wr.alloc (.cells #[.slice a1 xW.length c1, .slice a2 xE.length c2] 37) = w7 at *
        go_wp2_with fail
        go_loopg [12, 30] ys.length (fun gj _ i wr => ∃ t : Nat, t + gj = ys.length ∧ i = .int .i64 t ∧ (ys.take t).all (fun k : XM => okA p ⟨xW, xE⟩ k.mt) = true ∧ Sep wr [BxA bm #[.slice a1 xW.length c1, .slice a2 xE.length c2] 37, OR matchE (.slice (some ⟨lb, 0, none⟩) xs.length c) xs, Bag (rowsM xs), OR matchE (.slice oa ys.length oc) ys, BxA (w.heap.size + 1) #[.int .i64 p.n, .slice pa p.es.length pc, .slice pi p.i.length pd, .slice po p.o.length pf] 29, BxA w.heap.size #[.int .i64 g.n, .slice ga g.es.length gc, .slice gi g.i.length gd, .slice go g.o.length gf] 29, KeepA w])
        case atStart => exact ⟨0, by omega, rfl, rfl, HS7.out⟩
        case round =>
          obtain ⟨t, htg, rfl, hbt, hs⟩ := hrel
          have HBT := Lib.hid hbt; have HSI := Lib.hid hs
          have HTG := Lib.hid htg
          clear hbt hs HS7 HSR
          by_cases htl : t < ys.length
          · have HTL := Lib.hid htl
            have hyt : ys.getD t xm0 ∈ ys := by rw [List.getD_eq_getElem?_getD, List.getElem?_eq_getElem htl]; exact List.getElem_mem htl
            have hyx := HPM.out _ hyt
            have hm := HMM.out _ hyx
            obtain ⟨d1, f1, d2, f2, e1, e2, i1, i2⟩ := rows_read HSI.out.tl.tl.hd hyx
            obtain ⟨j1, j2⟩ : IntsV wr (.slice a1 xW.length c1) xW ∧ IntsV wr (.slice a2 xE.length c2) xE := by
              obtain ⟨_, _, _, _, _, _, h1, h2⟩ := rows_read HSI.out.tl.tl.hd HGT.out
              exact ⟨h1, h2⟩
            obtain ⟨ob, cap, hea, _, _, _⟩ := OwnR.parts (show OwnR matchE 0 wr (.slice oa ys.length oc) ys from HSI.out.tl.tl.tl.hd) (by omega)
            injection hea with g1 g2 g3
            subst g1 g3
            obtain ⟨q0, q1⟩ := match_cells (show OwnR matchE 0 wr _ ys from HSI.out.tl.tl.tl.hd) rfl htl
            have HAT := Lib.hid (all_takeX (f := (fun k : XM => okA p ⟨xW, xE⟩ k.mt)) htl)
            have HYM := Lib.hid hyt
            generalize ys.getD t xm0 = y at *
            obtain ⟨yW, yE, ywv, yev⟩ := y
            simp only at e1 e2 i1 i2 q0 q1 hm
            subst e1 e2
            have hw9 := HSI.out.box #[.slice d1 yW.length f1, .slice d2 yE.length f2] 37
            have hgw := grownBy_alloc wr (.cells #[.slice d1 yW.length f1, .slice d2 yE.length f2] 37) none
            have HCA := Lib.hid (HAP.out ⟨yW, yE⟩ ⟨xW, xE⟩ d1 f1 d2 f2 a1 c1 a2 c2 _ (show w.grownBy _ none from hw9.tl.tl.tl.tl.tl.tl.tl.hd) (i1.carry hgw) (i2.carry hgw) (j1.carry hgw) (j2.carry hgw) hm.1 hm.2.1 HM.out.1 HM.out.2.1 HM.out.2.2)
            have hki : (t : Int) < (ys.length : Int) := by omega
            have HOK := Lib.hid (show okA p ⟨xW, xE⟩ (XM.mt ⟨yW, yE, .slice d1 yW.length f1, .slice d2 yE.length f2⟩) = tst (Ap p ⟨yW, yE⟩ ⟨xW, xE⟩) from rfl)
            clear i1 i2 j1 j2 hgw hyt hyx hm
            go_upto_region 11 with fail
            clear q0 q1
            obtain ⟨bk, hbk⟩ : ∃ bk, bk = wr.heap.size := ⟨_, rfl⟩
            rw [← hbk] at hw9 ⊢
            have HS9 := Lib.hid hw9
            clear hw9 hbk
            generalize wr.alloc (.cells #[.slice d1 yW.length f1, .slice d2 yE.length f2] 37) = w9 at *
            obtain ⟨k0, k1⟩ := bq2 HS9.out.hd
            obtain ⟨l0, l1⟩ := bq2 HS9.out.tl.hd
            obtain ⟨y0, y1, y2, y3, _⟩ := bq4 HS9.out.tl.tl.tl.tl.tl.hd
            generalize tst (Ap p ⟨yW, yE⟩ ⟨xW, xE⟩) = r at *
            obtain ⟨gj2, hgj2⟩ : ∃ gj2, gk = gj2 + 1 := ⟨gk - 1, by have := HTG.out; have := HTL.out; omega⟩
            subst hgj2
            clear htg
            cases r with
            | true =>
              have HN := Lib.hid (show (ys.take (t + 1)).all (fun k : XM => okA p ⟨xW, xE⟩ k.mt) = true from by rw [HAT.out, HBT.out, HOK.out]; rfl)
              clear HBT HAT HOK
              go_wp2_with (
                go_at_call 49
                with_reducible refine HCA.out.mono ?_
                rintro e w10 ⟨rfl, hg⟩
                have HSA := Lib.hid (HS9.out.grown hg).tl
                clear hg k0 k1 l0 l1 y0 y1 y2 y3)
              go_roundg gj2
              case measure => omega
              case rel => exact ⟨t + 1, ghost_step HTG.out, by go_num, HN.out, HSA.out⟩
            | false =>
              have HN := Lib.hid (show ys.all (fun k : XM => okA p ⟨xW, xE⟩ k.mt) = false from by
                rw [List.all_eq_false]
                refine ⟨_, HYM.out, ?_⟩
                rw [HOK.out]; simp)
              clear HBT HAT HOK
              have HNX := Lib.hid (show packX p [] (xs.take (j + 1)) = ys from by rw [HST.out, if_neg (by rw [show ys.all (fun k => okA p (XM.mt ⟨xW, xE, .slice a1 xW.length c1, .slice a2 xE.length c2⟩) k.mt) = false from HN.out]; simp)])
              go_wp2_with (
                go_at_call 49
                with_reducible refine HCA.out.mono ?_
                rintro e w10 ⟨rfl, hg⟩
                have HSA := Lib.hid (HS9.out.grown hg).tl
                clear hg k0 k1 l0 l1 y0 y1 y2 y3)
              go_roundg gn2
              case measure => omega
              case rel => exact ⟨j + 1, ghost_step HJ.out, by go_num, by rw [HNX.out]; exact HSA.out.tl⟩
          · have htm : t = ys.length := by have := htg; omega
            subst htm
            have hall := HBT.out
            rw [List.take_length] at hall
            have HALLY := Lib.hid hall.symm
            clear hall HBT
            obtain ⟨l0, l1⟩ := bq2 HSI.out.hd
            have hki : ¬ ((ys.length : Int) < (ys.length : Int)) := by omega
            have HNX := Lib.hid (show packX p [] (xs.take (j + 1)) = ys ++ [⟨xW, xE, .slice a1 xW.length c1, .slice a2 xE.length c2⟩] from by rw [HST.out, if_pos (show ys.all (fun k => okA p (XM.mt ⟨xW, xE, .slice a1 xW.length c1, .slice a2 xE.length c2⟩) k.mt) = true from HALLY.out.symm)])
            clear HALLY
            have HSQ := Lib.hid (Sep.blk (A := [_, _, _]) (B := [_]) HSI.out)
            clear HSI
            have HYL := Lib.hid (show ys.length ≤ 10000000 from by have := HPL.out; have := HLN.out; omega)
            go_wp2_with (
              at_builtin
              go_loud (
                (refine app_Rq (E := matchE) (y := ⟨xW, xE, .slice a1 xW.length c1, .slice a2 xE.length c2⟩) info_match rfl (by decide) Try.underlying43 (match_one _ _ _ _ _ _ _ _) rfl (.tmp 41) (.tmp 43) rfl rfl rfl (by simp) rfl HSQ.out HYL.out ?_)
                intro g1 c3 w3 h3
                have HSB := Lib.hid (Sep.blk (A := [_]) (B := [_, _]) h3.s2.tl)
                clear h3 l0 l1))
            go_roundg gn2
            case measure => omega
            case rel => exact ⟨j + 1, ghost_step HJ.out, by go_num, by rw [HNX.out]; exact HSB.out⟩
      · have hjn : j = xs.length := by omega
        have hfin := HSR.out
        have htk : xs.take j = xs := List.take_of_length_le (by omega)
        rw [htk] at hfin
        have HPK := Lib.hid (show mts (packX p [] xs) = pkL g p from by rw [mts_pack, HX.out]; rfl)
        rw [htk]
        have HSF := Lib.hid (show Sep wr [OR matchE (.slice oa (packX p [] xs).length oc) (packX p [] xs), Bag (rowsM (packX p [] xs)), KeepA w] from by
          exact Sep.cutA (X := [_, _]) (A := [_, _]) (r := [KeepA w]) (Sep.bagSub (show (packX p [] xs).Sublist xs from by have := packX_sub p xs []; rwa [List.nil_append] at this) hfin.tl).s2)
        have hki : ¬ ((j : Int) < (xs.length : Int)) := by omega
        clear hfin htk HSR
        generalize packX p [] xs = zs at *
        go_wp2_with fail
        try rw [Exit.noGoto_ret]
        go_ret2
        exact ⟨_, zs, by rw [HBB.out]; rfl, HPK.out, HSF.out⟩
end Go.Proofs.Ytlpgjnjhhgjkmaa

/-
  The walk of FnExactPackMatches. Conditions: the slices' lengths are those of slices.
-/
namespace Go.Proofs.Ytlpgjnjhhgjkmaa
open Go.RowKit
set_option linter.unusedVariables false
set_option maxRecDepth 100000

set_option maxHeartbeats 16000000 in
theorem fnPackMatches_any (g p : Gr) (gev giv gov pev piv pov : Value) (w : World) (g1 : RdE argEdE w gev g.es) (g2 : IntsV w giv g.i) (g3 : IntsV w gov g.o) (hok : okG g) (p1 : RdE argEdE w pev p.es) (p2 : IntsV w piv p.i) (p3 : IntsV w pov p.o) (hokp : okG p) :
    Calls Try.prog 6 #[grV g.n gev giv gov, grV p.n pev piv pov] w fun e w' => e = .returned (.bool true) ∧ w.grownBy w' none := by
  have HZ1 := Lib.hid fun W (h : w.grownBy W none) => szGraph_any g.n gev giv gov g 1048576 W (g1.carry h) (g2.carry h) (g3.carry h) (by decide) (by decide) hok
  have HZP := Lib.hid fun (left : Int) (h0 : 0 ≤ left) (h1 : left ≤ 1048576) W (h : w.grownBy W none) => szGraph_any p.n pev piv pov p left W (p1.carry h) (p2.carry h) (p3.carry h) h0 h1 hokp
  have HTG := Lib.hid fun (ht : totG g ≤ 1048576) W (h : w.grownBy W none) => toGraph_sh g gev giv gov W (g1.carry h) (g2.carry h) (g3.carry h) ht
  have HTP := Lib.hid fun (ht : totG p ≤ 1048576) W (h : w.grownBy W none) => toGraph_sh p pev piv pov W (p1.carry h) (p2.carry h) (p3.carry h) ht
  unfold grV at HZ1 HZP HTG HTP
  unfold Gives3 id at HTG HTP
  unfold grV
  obtain ⟨ag, cg, rfl⟩ := g1.shape
  obtain ⟨pg, qg, rfl⟩ := g2.shape
  obtain ⟨rg, sg, rfl⟩ := g3.shape
  obtain ⟨ap, cp, rfl⟩ := p1.shape
  obtain ⟨pp, qp, rfl⟩ := p2.shape
  obtain ⟨rp, sp, rfl⟩ := p3.shape
  clear g1 g2 g3 hok p1 p2 p3 hokp
  have HS0 := Lib.hid (((Sep.start w).box #[.int .i64 g.n, .slice ag g.es.length cg, .slice pg g.i.length qg, .slice rg g.o.length sg] 25).boxAt (w.heap.size + 1) (by simp) #[.int .i64 p.n, .slice ap p.es.length cp, .slice pp p.i.length qp, .slice rp p.o.length sp] 25)
  have HK0 := Lib.hid (show w.grownBy _ none from HS0.out.tl.tl.hd)
  by_cases hsz : lft 1048576 (totG g) < 0
  · generalize lft 1048576 (totG g) = rr at *
    generalize g.es.length = n1 at *
    generalize g.i.length = n2 at *
    generalize g.o.length = n3 at *
    generalize p.es.length = m1 at *
    generalize p.i.length = m2 at *
    generalize p.o.length = m3 at *
    clear HTG HTP HZP
    go_enter Try.func6, Try.ntmps6
    go_wp2_with (
      (go_at_call 7
       with_reducible refine (HZ1.out _ HK0.out).mono ?_
       rintro e w2 ⟨rfl, hg⟩
       have hs2 := HS0.out.grown hg
       obtain ⟨x0, x1, x2, x3, _⟩ := bq4 hs2.hd
       obtain ⟨y0, y1, y2, y3, _⟩ := bq4 hs2.tl.hd
       have HS2 := Lib.hid hs2
       have HK2 := Lib.hid (show w.grownBy w2 none from hs2.tl.tl.hd)
       clear hg hs2))
    go_ret
    exact ⟨rfl, HK2.out⟩
  · have htg : totG g ≤ 1048576 := by unfold lft at hsz; by_cases h : (1048576 : Int) - totG g < 0 <;> simp [h] at hsz <;> omega
    obtain ⟨r1, hr1⟩ : ∃ r, lft 1048576 (totG g) = r := ⟨_, rfl⟩
    rw [hr1] at HZ1 hsz
    have hr0 : 0 ≤ r1 := by omega
    have hr2 : r1 ≤ 1048576 := by rw [← hr1]; unfold lft; split <;> omega
    have HZ2 := Lib.hid (HZP.out r1 hr0 hr2)
    by_cases hsz2 : lft r1 (totG p) < 0
    · generalize lft r1 (totG p) = rr at *
      generalize g.es.length = n1 at *
      generalize g.i.length = n2 at *
      generalize g.o.length = n3 at *
      generalize p.es.length = m1 at *
      generalize p.i.length = m2 at *
      generalize p.o.length = m3 at *
      clear HTG HTP HZP hr1 hr0 hr2 htg
      go_enter Try.func6, Try.ntmps6
      go_wp2_with (first
        | (go_at_call 7
           with_reducible refine (HZ1.out _ HK0.out).mono ?_
           rintro e w2 ⟨rfl, hg⟩
           have hs2 := HS0.out.grown hg
           obtain ⟨x0, x1, x2, x3, _⟩ := bq4 hs2.hd
           obtain ⟨y0, y1, y2, y3, _⟩ := bq4 hs2.tl.hd
           have HS2 := Lib.hid hs2
           have HK2 := Lib.hid (show w.grownBy w2 none from hs2.tl.tl.hd)
           clear hg hs2)
        | (go_at_call 7
           with_reducible refine (HZ2.out _ HK2.out).mono ?_
           rintro e w3 ⟨rfl, hg⟩
           have hs3 := HS2.out.grown hg
           clear x0 x1 x2 x3 y0 y1 y2 y3
           have HS3 := Lib.hid hs3
           have HK3 := Lib.hid (show w.grownBy w3 none from hs3.tl.tl.hd)
           clear hg hs3))
      go_ret
      exact ⟨rfl, HK3.out⟩
    · have htp : totG p ≤ 1048576 := by unfold lft at hsz2; by_cases h : r1 - totG p < 0 <;> simp [h] at hsz2 <;> omega
      have HTG := Lib.hid (HTG.out htg)
      have HTP := Lib.hid (HTP.out htp)
      have hsg := Sm.of htg
      have hsp := Sm.of htp
      obtain ⟨L, hL⟩ : ∃ L, pkL g p = L := ⟨_, rfl⟩
      obtain ⟨b, hb⟩ : ∃ b, mtB g p = b := ⟨_, rfl⟩
      obtain ⟨s1, s2, s3⟩ := (show L.length ≤ 100 ∧ (∀ x ∈ L, x.W.length ≤ 1000 ∧ x.E.length ≤ 1000) ∧ wMs L ≤ 200000 from by rw [← hL]; exact pkL_small g p)
      obtain ⟨n, hn⟩ : ∃ n, L.length = n := ⟨_, rfl⟩
      have HEG := Lib.hid fun W u0 u1 u2 v0 v1 v2 (h : RdX W g u0 u1 u2) (h' : RdX W g v0 v1 v2) => eqGraph_sh g W u0 u1 u2 v0 v1 v2 h h' htg
      have HEP := Lib.hid fun W u0 u1 u2 v0 v1 v2 (h : RdX W p u0 u1 u2) (h' : RdX W p v0 v1 v2) => eqGraph_sh p W u0 u1 u2 v0 v1 v2 h h' htp
      have HMG := Lib.hid fun W u0 u1 u2 xs l (h : Sep W (OX3 u0 xs u1 g.i u2 g.o :: l)) (hx : eds xs = g.es) => markGraph_go u0 u1 u2 xs g 1 W l h hx htg (by decide) (by decide)
      have HMP := Lib.hid fun (k : Int) (h0 : 0 ≤ k) (h1 : k ≤ 10000000) W u0 u1 u2 xs l (h : Sep W (OX3 u0 xs u1 p.i u2 p.o :: l)) (hx : eds xs = p.es) => markGraph_go u0 u1 u2 xs p k W l h hx htp h0 (by omega)
      have HSP := Lib.hid fun W u0 u1 u2 v0 v1 v2 (h : RdX W g u0 u1 u2) (h' : RdX W p v0 v1 v2) => show Calls Try.prog 24 #[grV g.n u0 u1 u2, grV p.n v0 v1 v2] W fun e w' => ∃ a c ys, e = .returned (.tuple #[.slice a n c, .bool b]) ∧ mts ys = L ∧ Sep w' [OMs (.slice a n c) ys, KeepA W] from
        (sPack_any g p u0 u1 u2 v0 v1 v2 W h h' hsg hsp).mono fun e w' h => by have := PackR.sh hL hb h; rw [hn] at this; exact this
      have HIM := Lib.hid fun W u0 u1 u2 v0 v1 v2 (h : RdX W g u0 u1 u2) (h' : RdX W p v0 v1 v2) => show Calls Try.prog 25 #[grV g.n u0 u1 u2, grV p.n v0 v1 v2] W fun e w' => ∃ a c ys, e = .returned (.tuple #[.slice a n c, .bool b]) ∧ mts ys = L ∧ Sep w' [OMs (.slice a n c) ys, KeepA W] from
        (iPack_any g p u0 u1 u2 v0 v1 v2 W h h' hsg hsp).mono fun e w' h => by have := PackR.sh hL hb h; rw [hn] at this; exact this
      have HEQ := Lib.hid fun W v v' (h : RdMs W v L) (h' : RdMs W v' L) => eqMatchS_same v v' L W h h' (by omega) (fun x hx => by have := s2 x hx; omega)
      have HMM := Lib.hid fun W a c ys l (h : Sep W (OMs (.slice a n c) ys :: l)) (hy : mts ys = L) => show Calls Try.prog 22 #[.slice a n c, .int .i64 1] W fun e w' => e = .returned (.int .i64 (1 + wMs L)) ∧ Sep w' (OMs (.slice a n c) (mkXMs 1 ys) :: l) from by
        have := markMatchS_any a n c ys 1 W l h (by rw [← hn, ← hy]; simp [mts]) (by omega) (by rw [hy]; omega) (by decide) (by decide)
        rw [hy] at this
        exact this
      have HHM := Lib.hid fun W v (h : RdMs W v (mkMs 1 L)) => heldMatchS_any v L 1 W h (by omega) (by omega) (by decide) (by decide)
      have HRD := Lib.hid fun W v ys (h : (OMs v ys).holds W) (hy : mts ys = L) => show RdMs W v L from by rw [← hy]; exact OMs.read h
      have HRM := Lib.hid fun W v ys (h : (OMs v (mkXMs 1 ys)).holds W) (hy : mts ys = L) => show RdMs W v (mkMs 1 L) from by rw [← hy, ← mts_mk]; exact OMs.read h
      obtain ⟨m, hm⟩ : ∃ m : Int, m = 1 + (wMs L : Int) := ⟨_, rfl⟩
      rw [← hm] at HMM HHM
      have hm0 : ¬ m < 0 := by omega
      have hmm : (m != m) = false := by simp
      have hnb : (b != b) = false := by simp
      generalize lft r1 (totG p) = r2 at *
      unfold grV at HEG HEP HMG HMP HSP HIM
      clear htg htp hsg hsp hL hb s1 s2 s3 hn hm hr1 hr0 hr2 HZP
      go_enter Try.func6, Try.ntmps6
      go_upto_region 8 with (first
        | (go_at_call 7
           with_reducible refine (HZ1.out _ HK0.out).mono ?_
           rintro e w2 ⟨rfl, hg⟩
           have hs2 := HS0.out.grown hg
           obtain ⟨x0, x1, x2, x3, _⟩ := bq4 hs2.hd
           obtain ⟨y0, y1, y2, y3, _⟩ := bq4 hs2.tl.hd
           have HS2 := Lib.hid hs2
           have HK2 := Lib.hid (show w.grownBy w2 none from hs2.tl.tl.hd)
           clear hg hs2)
        | (go_at_call 7
           with_reducible refine (HZ2.out _ HK2.out).mono ?_
           rintro e w3 ⟨rfl, hg⟩
           have hs3 := HS2.out.grown hg
           clear x0 x1 x2 x3 y0 y1 y2 y3
           have HS3 := Lib.hid hs3
           have HK3 := Lib.hid (show w.grownBy w3 none from hs3.tl.tl.hd)
           clear hg hs3))
      have HBM := Lib.hid fun (W1 : World) (L : List Asrt) (h : Sep W1 L) (hG : BxA w.heap.size #[.int .i64 g.n, .slice ag g.es.length cg, .slice pg g.i.length qg, .slice rg g.o.length sg] 25 ∈ L) (hP : BxA (w.heap.size + 1) #[.int .i64 p.n, .slice ap p.es.length cp, .slice pp p.i.length qp, .slice rp p.o.length sp] 25 ∈ L) => show (W1.cell? ⟨w.heap.size, 0, none⟩ = some (.int .i64 g.n) ∧ W1.cell? ⟨w.heap.size, 1, none⟩ = some (.slice ag g.es.length cg) ∧ W1.cell? ⟨w.heap.size, 2, none⟩ = some (.slice pg g.i.length qg) ∧ W1.cell? ⟨w.heap.size, 3, none⟩ = some (.slice rg g.o.length sg)) ∧ (W1.cell? ⟨w.heap.size + 1, 0, none⟩ = some (.int .i64 p.n) ∧ W1.cell? ⟨w.heap.size + 1, 1, none⟩ = some (.slice ap p.es.length cp) ∧ W1.cell? ⟨w.heap.size + 1, 2, none⟩ = some (.slice pp p.i.length qp) ∧ W1.cell? ⟨w.heap.size + 1, 3, none⟩ = some (.slice rp p.o.length sp)) from
        have q := bq4 (show W1.heap[w.heap.size]? = some (.cells #[.int .i64 g.n, .slice ag g.es.length cg, .slice pg g.i.length qg, .slice rg g.o.length sg] 25 (0, 0)) from Sep.all h _ hG)
        have q2 := bq4 (show W1.heap[w.heap.size + 1]? = some (.cells #[.int .i64 p.n, .slice ap p.es.length cp, .slice pp p.i.length qp, .slice rp p.o.length sp] 25 (0, 0)) from Sep.all h _ hP)
        ⟨⟨q.1, q.2.1, q.2.2.1, q.2.2.2.1⟩, ⟨q2.1, q2.2.1, q2.2.2.1, q2.2.2.2.1⟩⟩
      have HSA := Lib.hid HS3.out.dr
      have HKA := Lib.hid (show w.grownBy _ none from HSA.out.tl.tl.hd)
      have XA0 := Lib.hid (HBM.out _ _ HSA.out (by simp) (by simp))
      refine AnyL.start (fun W1 => (W1.cell? ⟨w.heap.size, 0, none⟩ = some (.int .i64 g.n) ∧ W1.cell? ⟨w.heap.size, 1, none⟩ = some (.slice ag g.es.length cg) ∧ W1.cell? ⟨w.heap.size, 2, none⟩ = some (.slice pg g.i.length qg) ∧ W1.cell? ⟨w.heap.size, 3, none⟩ = some (.slice rg g.o.length sg)) ∧ (W1.cell? ⟨w.heap.size + 1, 0, none⟩ = some (.int .i64 p.n) ∧ W1.cell? ⟨w.heap.size + 1, 1, none⟩ = some (.slice ap p.es.length cp) ∧ W1.cell? ⟨w.heap.size + 1, 2, none⟩ = some (.slice pp p.i.length qp) ∧ W1.cell? ⟨w.heap.size + 1, 3, none⟩ = some (.slice rp p.o.length sp))) (fun _ => True) 99 (by kernel_rfl) ?_
      refine AnyL.take (i := 0) (v := ?vx1) (by rfl) (by kernel_rfl) (by kernel_rfl) (by kernel_rfl) rfl (by exact fun _ _ _ h => h) (by rfl) ?hyx1 (by exact ⟨XA0.out, fun _ => trivial⟩) ?restx1
      case hyx1 => intro W hSW; (try dsimp only at hSW); first | (go_simp; done) | (go_simp; with_reducible rfl)
      try simp only [Act.put, List.setIfInBounds_toArray, List.set_cons_zero, List.set_cons_succ]
      refine AnyL.take (i := 2) (v := ?vx2) (by rfl) (by kernel_rfl) (by kernel_rfl) (by kernel_rfl) rfl (by exact fun _ _ _ h => h) (by rfl) ?hyx2 (by exact ⟨XA0.out, fun _ => trivial⟩) ?restx2
      case hyx2 => intro W hSW; (try dsimp only at hSW); first | (go_simp; done) | (go_simp; with_reducible rfl)
      try simp only [Act.put, List.setIfInBounds_toArray, List.set_cons_zero, List.set_cons_succ]
      refine AnyL.step (i := 1) (by kernel_rfl) (by rfl) (fun K hK => ?_)
      go_simp
      go_at_call 9
      with_reducible refine (HTG.out _ HKA.out).mono ?_
      rintro e w4 ⟨aA, cA, pA, qA, rA, sA, xsA, rfl, hxs, hsg⟩
      have HXA := Lib.hid hxs
      have hs := HSA.out.graft1 hsg OX3_own
      have HS4 := Lib.hid hs
      have HK4 := Lib.hid (show w.grownBy _ none from hs.tl.tl.tl.hd)
      clear hsg hs hxs
      refine hK.out _ _ (by exact HBM.out _ _ HS4.out (by simp) (by simp)) (by exact fun _ => trivial) ?_
      clear hK K
      try simp only [Act.put, List.setIfInBounds_toArray, List.set_cons_zero, List.set_cons_succ]
      refine AnyL.step (i := 3) (by kernel_rfl) (by rfl) (fun K hK => ?_)
      go_simp
      go_at_call 9
      with_reducible refine (HTP.out _ HK4.out).mono ?_
      rintro e w5 ⟨aB, cB, pB, qB, rB, sB, xsB, rfl, hxs, hsg⟩
      have HXB := Lib.hid hxs
      have hs := HS4.out.graft1 hsg OX3_own
      have HSP5 := Lib.hid (HSP.out _ _ _ _ _ _ _ (OX3.read hs.tl.hd HXA.out) (OX3.read hs.hd hxs))
      have HS5 := Lib.hid hs
      clear hsg hs hxs
      refine hK.out _ _ (by exact HBM.out _ _ HS5.out (by simp) (by simp)) (by exact fun _ => trivial) ?_
      clear hK K
      try simp only [Act.put, List.setIfInBounds_toArray, List.set_cons_zero, List.set_cons_succ]
      refine AnyL.step (i := 4) (by kernel_rfl) (by rfl) (fun K hK => ?_)
      go_simp
      go_at_call 24
      with_reducible refine HSP5.out.mono ?_
      rintro e w6 ⟨am, cm, ym, rfl, hxs, hsg⟩
      have HY0 := Lib.hid hxs
      have hs := Sep.cutA (X := [_]) (A := [_, _]) (HS5.out.graft1 hsg OMs_own)
      have HK6 := Lib.hid (show w.grownBy _ none from hs.tl.tl.tl.hd)
      have HS6 := Lib.hid hs
      clear hsg hs hxs
      refine hK.out _ _ (by exact HBM.out _ _ HS6.out (by simp) (by simp)) (by exact fun _ => trivial) ?_
      clear hK K
      try simp only [Act.put, List.setIfInBounds_toArray, List.set_cons_zero, List.set_cons_succ]
      refine AnyL.take (i := 5) (v := ?vx3) (by rfl) (by kernel_rfl) (by kernel_rfl) (by kernel_rfl) rfl (by exact fun _ _ _ h => h) (by rfl) ?hyx3 (by exact ⟨HBM.out _ _ HS6.out (by simp) (by simp), fun _ => trivial⟩) ?restx3
      case hyx3 => intro W hSW; (try dsimp only at hSW); first | (go_simp; done) | (go_simp; with_reducible rfl)
      try simp only [Act.put, List.setIfInBounds_toArray, List.set_cons_zero, List.set_cons_succ]
      refine AnyL.take (i := 6) (v := ?vx4) (by rfl) (by kernel_rfl) (by kernel_rfl) (by kernel_rfl) rfl (by exact fun _ _ _ h => h) (by rfl) ?hyx4 (by exact ⟨HBM.out _ _ HS6.out (by simp) (by simp), fun _ => trivial⟩) ?restx4
      case hyx4 => intro W hSW; (try dsimp only at hSW); first | (go_simp; done) | (go_simp; with_reducible rfl)
      try simp only [Act.put, List.setIfInBounds_toArray, List.set_cons_zero, List.set_cons_succ]
      refine AnyL.take (i := 7) (v := ?vx5) (by rfl) (by kernel_rfl) (by kernel_rfl) (by kernel_rfl) rfl (by exact fun _ _ _ h => h) (by rfl) ?hyx5 (by exact ⟨HBM.out _ _ HS6.out (by simp) (by simp), fun _ => trivial⟩) ?restx5
      case hyx5 => intro W hSW; (try dsimp only at hSW); first | (go_simp; done) | (go_simp; with_reducible rfl)
      try simp only [Act.put, List.setIfInBounds_toArray, List.set_cons_zero, List.set_cons_succ]
      refine AnyL.take (i := 8) (v := ?vx6) (by rfl) (by kernel_rfl) (by kernel_rfl) (by kernel_rfl) rfl (by exact fun _ _ _ h => h) (by rfl) ?hyx6 (by exact ⟨HBM.out _ _ HS6.out (by simp) (by simp), fun _ => trivial⟩) ?restx6
      case hyx6 => intro W hSW; (try dsimp only at hSW); first | (go_simp; done) | (go_simp; with_reducible rfl)
      try simp only [Act.put, List.setIfInBounds_toArray, List.set_cons_zero, List.set_cons_succ]
      refine AnyL.take (i := 9) (v := ?vx7) (by rfl) (by kernel_rfl) (by kernel_rfl) (by kernel_rfl) rfl (by exact fun _ _ _ h => h) (by rfl) ?hyx7 (by exact ⟨HBM.out _ _ HS6.out (by simp) (by simp), fun _ => trivial⟩) ?restx7
      case hyx7 => intro W hSW; (try dsimp only at hSW); first | (go_simp; done) | (go_simp; with_reducible rfl)
      try simp only [Act.put, List.setIfInBounds_toArray, List.set_cons_zero, List.set_cons_succ]
      refine AnyL.done (by kernel_rfl) ?_ _
      clear XA0 HS4 HS5 HSA HSP5
      obtain ⟨x0, x1, x2, x3, _⟩ := bq4 HS6.out.tl.hd
      obtain ⟨y0, y1, y2, y3, _⟩ := bq4 HS6.out.tl.tl.hd
      go_upto_region 14 with (first
        | (go_at_call 9
           with_reducible refine (HTG.out _ HK6.out).mono ?_
           rintro e w7 ⟨aC, cC, pC, qC, rC, sC, xsC, rfl, hxs, hsg⟩
           have HXC := Lib.hid hxs
           have hs := HS6.out.graft1 hsg OX3_own
           have hs := hs.box #[.int .i64 g.n, .slice aC g.es.length cC, .slice pC g.i.length qC, .slice rC g.o.length sC] 29
           clear x0 x1 x2 x3 y0 y1 y2 y3
           obtain ⟨x0, x1, x2, x3, _⟩ := bq4 hs.tl.tl.tl.hd
           obtain ⟨z0, z1, z2, z3, _⟩ := bq4 hs.hd
           have HS7 := Lib.hid hs
           have HK7 := Lib.hid (show w.grownBy _ none from hs.tl.tl.tl.tl.tl.hd)
           clear hsg hs hxs)
        | (go_at_call 9
           with_reducible refine (HTP.out _ HK7.out).mono ?_
           rintro e w8 ⟨aD, cD, pD, qD, rD, sD, xsD, rfl, hxs, hsg⟩
           have HXD := Lib.hid hxs
           have hs := HS7.out.graft1 hsg OX3_own
           have hs := hs.box #[.int .i64 p.n, .slice aD p.es.length cD, .slice pD p.i.length qD, .slice rD p.o.length sD] 29
           clear x0 x1 x2 x3 z0 z1 z2 z3
           obtain ⟨x0, x1, x2, x3, _⟩ := bq4 hs.tl.tl.hd
           obtain ⟨y0, y1, y2, y3, _⟩ := bq4 hs.hd
           have HIM8 := Lib.hid (HIM.out _ _ _ _ _ _ _ (OX3.read hs.tl.tl.tl.hd HXC.out) (OX3.read hs.tl.hd hxs))
           have HS8 := Lib.hid hs
           clear hsg hs hxs)
        | (go_at_call 25
           with_reducible refine HIM8.out.mono ?_
           rintro e w9 ⟨an, cn, yn, rfl, hxs, hsg⟩
           have HY1 := Lib.hid hxs
           have hs := HS8.out.graft1 hsg OMs_own
           clear x0 x1 x2 x3 y0 y1 y2 y3
           have HEQ9 := Lib.hid (HEQ.out _ _ _ (HRD.out _ _ _ hs.hd hxs) (HRD.out _ _ _ hs.tl.tl.tl.tl.tl.hd HY0.out))
           have HS9 := Lib.hid hs
           clear hsg hs hxs)
        | (go_at_call 21
           with_reducible refine HEQ9.out.mono ?_
           rintro e w10 ⟨rfl, hg⟩
           have HS10 := Lib.hid (HS9.out.grown hg)
           clear hg))
      clear HS6 HS7 HS8 HS9 HEQ9 HIM8
      have HSEa := Lib.hid HS10.out.dr
      have HKEa := Lib.hid (show w.grownBy _ none from HSEa.out.tl.tl.tl.tl.tl.tl.tl.tl.hd)
      have HBEa := Lib.hid fun (W1 : World) (L : List Asrt) (h : Sep W1 L) (hG : BxA w7.heap.size #[.int .i64 g.n, .slice aC g.es.length cC, .slice pC g.i.length qC, .slice rC g.o.length sC] 29 ∈ L) (hP : BxA (w.heap.size) #[.int .i64 g.n, .slice ag g.es.length cg, .slice pg g.i.length qg, .slice rg g.o.length sg] 25 ∈ L) => show (W1.cell? ⟨w7.heap.size, 0, none⟩ = some (.int .i64 g.n) ∧ W1.cell? ⟨w7.heap.size, 1, none⟩ = some (.slice aC g.es.length cC) ∧ W1.cell? ⟨w7.heap.size, 2, none⟩ = some (.slice pC g.i.length qC) ∧ W1.cell? ⟨w7.heap.size, 3, none⟩ = some (.slice rC g.o.length sC)) ∧ (W1.cell? ⟨w.heap.size, 0, none⟩ = some (.int .i64 g.n) ∧ W1.cell? ⟨w.heap.size, 1, none⟩ = some (.slice ag g.es.length cg) ∧ W1.cell? ⟨w.heap.size, 2, none⟩ = some (.slice pg g.i.length qg) ∧ W1.cell? ⟨w.heap.size, 3, none⟩ = some (.slice rg g.o.length sg)) from
        have q := bq4 (show W1.heap[w7.heap.size]? = some (.cells #[.int .i64 g.n, .slice aC g.es.length cC, .slice pC g.i.length qC, .slice rC g.o.length sC] 29 (0, 0)) from Sep.all h _ hG)
        have q2 := bq4 (show W1.heap[w.heap.size]? = some (.cells #[.int .i64 g.n, .slice ag g.es.length cg, .slice pg g.i.length qg, .slice rg g.o.length sg] 25 (0, 0)) from Sep.all h _ hP)
        ⟨⟨q.1, q.2.1, q.2.2.1, q.2.2.2.1⟩, ⟨q2.1, q2.2.1, q2.2.2.1, q2.2.2.2.1⟩⟩
      have XEa := Lib.hid (HBEa.out _ _ HSEa.out (by simp) (by simp))
      refine AnyL.start (fun W1 => (W1.cell? ⟨w7.heap.size, 0, none⟩ = some (.int .i64 g.n) ∧ W1.cell? ⟨w7.heap.size, 1, none⟩ = some (.slice aC g.es.length cC) ∧ W1.cell? ⟨w7.heap.size, 2, none⟩ = some (.slice pC g.i.length qC) ∧ W1.cell? ⟨w7.heap.size, 3, none⟩ = some (.slice rC g.o.length sC)) ∧ (W1.cell? ⟨w.heap.size, 0, none⟩ = some (.int .i64 g.n) ∧ W1.cell? ⟨w.heap.size, 1, none⟩ = some (.slice ag g.es.length cg) ∧ W1.cell? ⟨w.heap.size, 2, none⟩ = some (.slice pg g.i.length qg) ∧ W1.cell? ⟨w.heap.size, 3, none⟩ = some (.slice rg g.o.length sg))) (fun _ => True) 99 (by kernel_rfl) ?_
      refine AnyL.take (i := 0) (v := ?vx8) (by rfl) (by kernel_rfl) (by kernel_rfl) (by kernel_rfl) rfl (by exact fun _ _ _ h => h) (by rfl) ?hyx8 (by exact ⟨XEa.out, fun _ => trivial⟩) ?restx8
      case hyx8 => intro W hSW; (try dsimp only at hSW); first | (go_simp; done) | (go_simp; with_reducible rfl)
      try simp only [Act.put, List.setIfInBounds_toArray, List.set_cons_zero, List.set_cons_succ]
      refine AnyL.take (i := 1) (v := ?vx9) (by rfl) (by kernel_rfl) (by kernel_rfl) (by kernel_rfl) rfl (by exact fun _ _ _ h => h) (by rfl) ?hyx9 (by exact ⟨XEa.out, fun _ => trivial⟩) ?restx9
      case hyx9 => intro W hSW; (try dsimp only at hSW); first | (go_simp; done) | (go_simp; with_reducible rfl)
      try simp only [Act.put, List.setIfInBounds_toArray, List.set_cons_zero, List.set_cons_succ]
      refine AnyL.step (i := 2) (by kernel_rfl) (by rfl) (fun K hK => ?_)
      go_simp
      go_at_call 9
      with_reducible refine (HTG.out _ HKEa.out).mono ?_
      rintro e w11 ⟨aE, cE, pE, qE, rE, sE, xsE, rfl, hxs, hsg⟩
      have HXE := Lib.hid hxs
      have hs := HSEa.out.graft1 hsg OX3_own
      have HQEa := Lib.hid (HEG.out _ _ _ _ _ _ _ (OX3.read hs.tl.tl.tl.tl.tl.hd HXC.out) (OX3.read hs.hd hxs))
      have HSFa := Lib.hid hs
      clear hsg hs hxs
      refine hK.out _ _ (by exact HBEa.out _ _ HSFa.out (by simp) (by simp)) (by exact fun _ => trivial) ?_
      clear hK K
      try simp only [Act.put, List.setIfInBounds_toArray, List.set_cons_zero, List.set_cons_succ]
      refine AnyL.step (i := 3) (by kernel_rfl) (by rfl) (fun K hK => ?_)
      go_simp
      go_at_call 11
      with_reducible refine HQEa.out.mono ?_
      rintro e w12 ⟨rfl, hg⟩
      have hs := (HSFa.out.grown hg).tl
      have HS12 := Lib.hid hs
      clear hg hs
      refine hK.out _ _ (by exact HBEa.out _ _ HS12.out (by simp) (by simp)) (by exact fun _ => trivial) ?_
      clear hK K
      try simp only [Act.put, List.setIfInBounds_toArray, List.set_cons_zero, List.set_cons_succ]
      refine AnyL.take (i := 4) (v := ?vx10) (by rfl) (by kernel_rfl) (by kernel_rfl) (by kernel_rfl) rfl (by exact fun _ _ _ h => h) (by rfl) ?hyx10 (by exact ⟨HBEa.out _ _ HS12.out (by simp) (by simp), fun _ => trivial⟩) ?restx10
      case hyx10 => intro W hSW; (try dsimp only at hSW); first | (go_simp; done) | (go_simp; with_reducible rfl)
      try simp only [Act.put, List.setIfInBounds_toArray, List.set_cons_zero, List.set_cons_succ]
      refine AnyL.done (by kernel_rfl) ?_ _
      clear HSEa HSFa XEa HBEa HQEa
      go_upto_region 16 with fail
      have HSEb := Lib.hid HS12.out.dr
      have HKEb := Lib.hid (show w.grownBy _ none from HSEb.out.tl.tl.tl.tl.tl.tl.tl.tl.hd)
      have HBEb := Lib.hid fun (W1 : World) (L : List Asrt) (h : Sep W1 L) (hG : BxA w8.heap.size #[.int .i64 p.n, .slice aD p.es.length cD, .slice pD p.i.length qD, .slice rD p.o.length sD] 29 ∈ L) (hP : BxA (w.heap.size + 1) #[.int .i64 p.n, .slice ap p.es.length cp, .slice pp p.i.length qp, .slice rp p.o.length sp] 25 ∈ L) => show (W1.cell? ⟨w8.heap.size, 0, none⟩ = some (.int .i64 p.n) ∧ W1.cell? ⟨w8.heap.size, 1, none⟩ = some (.slice aD p.es.length cD) ∧ W1.cell? ⟨w8.heap.size, 2, none⟩ = some (.slice pD p.i.length qD) ∧ W1.cell? ⟨w8.heap.size, 3, none⟩ = some (.slice rD p.o.length sD)) ∧ (W1.cell? ⟨w.heap.size + 1, 0, none⟩ = some (.int .i64 p.n) ∧ W1.cell? ⟨w.heap.size + 1, 1, none⟩ = some (.slice ap p.es.length cp) ∧ W1.cell? ⟨w.heap.size + 1, 2, none⟩ = some (.slice pp p.i.length qp) ∧ W1.cell? ⟨w.heap.size + 1, 3, none⟩ = some (.slice rp p.o.length sp)) from
        have q := bq4 (show W1.heap[w8.heap.size]? = some (.cells #[.int .i64 p.n, .slice aD p.es.length cD, .slice pD p.i.length qD, .slice rD p.o.length sD] 29 (0, 0)) from Sep.all h _ hG)
        have q2 := bq4 (show W1.heap[w.heap.size + 1]? = some (.cells #[.int .i64 p.n, .slice ap p.es.length cp, .slice pp p.i.length qp, .slice rp p.o.length sp] 25 (0, 0)) from Sep.all h _ hP)
        ⟨⟨q.1, q.2.1, q.2.2.1, q.2.2.2.1⟩, ⟨q2.1, q2.2.1, q2.2.2.1, q2.2.2.2.1⟩⟩
      have XEb := Lib.hid (HBEb.out _ _ HSEb.out (by simp) (by simp))
      refine AnyL.start (fun W1 => (W1.cell? ⟨w8.heap.size, 0, none⟩ = some (.int .i64 p.n) ∧ W1.cell? ⟨w8.heap.size, 1, none⟩ = some (.slice aD p.es.length cD) ∧ W1.cell? ⟨w8.heap.size, 2, none⟩ = some (.slice pD p.i.length qD) ∧ W1.cell? ⟨w8.heap.size, 3, none⟩ = some (.slice rD p.o.length sD)) ∧ (W1.cell? ⟨w.heap.size + 1, 0, none⟩ = some (.int .i64 p.n) ∧ W1.cell? ⟨w.heap.size + 1, 1, none⟩ = some (.slice ap p.es.length cp) ∧ W1.cell? ⟨w.heap.size + 1, 2, none⟩ = some (.slice pp p.i.length qp) ∧ W1.cell? ⟨w.heap.size + 1, 3, none⟩ = some (.slice rp p.o.length sp))) (fun _ => True) 99 (by kernel_rfl) ?_
      refine AnyL.take (i := 0) (v := ?vx11) (by rfl) (by kernel_rfl) (by kernel_rfl) (by kernel_rfl) rfl (by exact fun _ _ _ h => h) (by rfl) ?hyx11 (by exact ⟨XEb.out, fun _ => trivial⟩) ?restx11
      case hyx11 => intro W hSW; (try dsimp only at hSW); first | (go_simp; done) | (go_simp; with_reducible rfl)
      try simp only [Act.put, List.setIfInBounds_toArray, List.set_cons_zero, List.set_cons_succ]
      refine AnyL.take (i := 1) (v := ?vx12) (by rfl) (by kernel_rfl) (by kernel_rfl) (by kernel_rfl) rfl (by exact fun _ _ _ h => h) (by rfl) ?hyx12 (by exact ⟨XEb.out, fun _ => trivial⟩) ?restx12
      case hyx12 => intro W hSW; (try dsimp only at hSW); first | (go_simp; done) | (go_simp; with_reducible rfl)
      try simp only [Act.put, List.setIfInBounds_toArray, List.set_cons_zero, List.set_cons_succ]
      refine AnyL.step (i := 2) (by kernel_rfl) (by rfl) (fun K hK => ?_)
      go_simp
      go_at_call 9
      with_reducible refine (HTP.out _ HKEb.out).mono ?_
      rintro e w13 ⟨aF, cF, pF, qF, rF, sF, xsF, rfl, hxs, hsg⟩
      have HXF := Lib.hid hxs
      have hs := HSEb.out.graft1 hsg OX3_own
      have HQEb := Lib.hid (HEP.out _ _ _ _ _ _ _ (OX3.read hs.tl.tl.tl.hd HXD.out) (OX3.read hs.hd hxs))
      have HSFb := Lib.hid hs
      clear hsg hs hxs
      refine hK.out _ _ (by exact HBEb.out _ _ HSFb.out (by simp) (by simp)) (by exact fun _ => trivial) ?_
      clear hK K
      try simp only [Act.put, List.setIfInBounds_toArray, List.set_cons_zero, List.set_cons_succ]
      refine AnyL.step (i := 3) (by kernel_rfl) (by rfl) (fun K hK => ?_)
      go_simp
      go_at_call 11
      with_reducible refine HQEb.out.mono ?_
      rintro e w14 ⟨rfl, hg⟩
      have hs := (HSFb.out.grown hg).tl
      have HS14 := Lib.hid hs
      clear hg hs
      refine hK.out _ _ (by exact HBEb.out _ _ HS14.out (by simp) (by simp)) (by exact fun _ => trivial) ?_
      clear hK K
      try simp only [Act.put, List.setIfInBounds_toArray, List.set_cons_zero, List.set_cons_succ]
      refine AnyL.take (i := 4) (v := ?vx13) (by rfl) (by kernel_rfl) (by kernel_rfl) (by kernel_rfl) rfl (by exact fun _ _ _ h => h) (by rfl) ?hyx13 (by exact ⟨HBEb.out _ _ HS14.out (by simp) (by simp), fun _ => trivial⟩) ?restx13
      case hyx13 => intro W hSW; (try dsimp only at hSW); first | (go_simp; done) | (go_simp; with_reducible rfl)
      try simp only [Act.put, List.setIfInBounds_toArray, List.set_cons_zero, List.set_cons_succ]
      refine AnyL.done (by kernel_rfl) ?_ _
      clear HSEb HSFb XEb HBEb HQEb
      obtain ⟨x0, x1, x2, x3, _⟩ := bq4 HS14.out.tl.tl.tl.hd
      obtain ⟨y0, y1, y2, y3, _⟩ := bq4 HS14.out.tl.hd
      have HS14b := Lib.hid (Sep.blk (A := [_, _, _, _]) (B := [_]) HS14.out)
      have HMG14 := Lib.hid (HMG.out _ _ _ _ _ _ HS14b.out HXC.out)
      go_upto_region 31 with (first
        | (go_at_call 12
           with_reducible refine HMG14.out.mono ?_
           rintro e w15 ⟨r15, rfl, h15a, h15b, hs15⟩
           clear x0 x1 x2 x3 y0 y1 y2 y3
           obtain ⟨x0, x1, x2, x3, _⟩ := bq4 hs15.tl.hd
           have hs := Sep.blk (A := [_, _]) (B := [_]) hs15
           have HMP15 := Lib.hid (HMP.out r15 h15a (by omega) _ _ _ _ _ _ hs HXD.out)
           clear hs15 hs h15a h15b)
        | (go_at_call 12
           with_reducible refine HMP15.out.mono ?_
           rintro e w16 ⟨r16, rfl, h16a, h16b, hs16⟩
           clear x0 x1 x2 x3
           have hr16 : ¬ r16 < 0 := by omega
           have HS16 := Lib.hid hs16
           have HEQ16 := Lib.hid (HEQ.out _ _ _ (HRD.out _ _ _ hs16.hd HY1.out) (HRD.out _ _ _ hs16.tl.tl.tl.hd HY0.out))
           clear hs16 h16a h16b)
        | (go_at_call 21
           with_reducible refine HEQ16.out.mono ?_
           rintro e w17 ⟨rfl, hg⟩
           have hs := HS16.out.grown hg
           have HMM17 := Lib.hid (HMM.out _ _ _ _ _ hs HY1.out)
           clear hg hs)
        | (go_at_call 22
           with_reducible refine HMM17.out.mono ?_
           rintro e w18 ⟨rfl, hs18⟩
           have HS18 := Lib.hid hs18
           have HHM18 := Lib.hid (HHM.out _ _ (HRM.out _ _ _ hs18.hd HY1.out))
           clear hs18)
        | (go_at_call 23
           with_reducible refine HHM18.out.mono ?_
           rintro e w19 ⟨rfl, hg⟩
           have HS19 := Lib.hid (HS18.out.grown hg)
           clear hg))
      have HSH := Lib.hid HS19.out.dr
      have HKH := Lib.hid (show w.grownBy _ none from HSH.out.tl.tl.tl.tl.tl.tl.hd)
      have XH0 := Lib.hid (HBM.out _ _ HSH.out (by simp) (by simp))
      clear HS14 HS14b HS16 HS18 HMG14 HEQ16 HMM17 HHM18 HMP15
      refine AnyL.start (fun W1 => (W1.cell? ⟨w.heap.size, 0, none⟩ = some (.int .i64 g.n) ∧ W1.cell? ⟨w.heap.size, 1, none⟩ = some (.slice ag g.es.length cg) ∧ W1.cell? ⟨w.heap.size, 2, none⟩ = some (.slice pg g.i.length qg) ∧ W1.cell? ⟨w.heap.size, 3, none⟩ = some (.slice rg g.o.length sg)) ∧ (W1.cell? ⟨w.heap.size + 1, 0, none⟩ = some (.int .i64 p.n) ∧ W1.cell? ⟨w.heap.size + 1, 1, none⟩ = some (.slice ap p.es.length cp) ∧ W1.cell? ⟨w.heap.size + 1, 2, none⟩ = some (.slice pp p.i.length qp) ∧ W1.cell? ⟨w.heap.size + 1, 3, none⟩ = some (.slice rp p.o.length sp))) (fun _ => True) 99 (by kernel_rfl) ?_
      refine AnyL.take (i := 0) (v := ?vx14) (by rfl) (by kernel_rfl) (by kernel_rfl) (by kernel_rfl) rfl (by exact fun _ _ _ h => h) (by rfl) ?hyx14 (by exact ⟨XH0.out, fun _ => trivial⟩) ?restx14
      case hyx14 => intro W hSW; (try dsimp only at hSW); first | (go_simp; done) | (go_simp; with_reducible rfl)
      try simp only [Act.put, List.setIfInBounds_toArray, List.set_cons_zero, List.set_cons_succ]
      refine AnyL.take (i := 2) (v := ?vx15) (by rfl) (by kernel_rfl) (by kernel_rfl) (by kernel_rfl) rfl (by exact fun _ _ _ h => h) (by rfl) ?hyx15 (by exact ⟨XH0.out, fun _ => trivial⟩) ?restx15
      case hyx15 => intro W hSW; (try dsimp only at hSW); first | (go_simp; done) | (go_simp; with_reducible rfl)
      try simp only [Act.put, List.setIfInBounds_toArray, List.set_cons_zero, List.set_cons_succ]
      refine AnyL.step (i := 1) (by kernel_rfl) (by rfl) (fun K hK => ?_)
      go_simp
      go_at_call 9
      with_reducible refine (HTG.out _ HKH.out).mono ?_
      rintro e w20 ⟨aG, cG, pG, qG, rG, sG, xsG, rfl, hxs, hsg⟩
      have HXG := Lib.hid hxs
      have hs := HSH.out.graft1 hsg OX3_own
      have HS20 := Lib.hid hs
      have HK20 := Lib.hid (show w.grownBy _ none from hs.tl.tl.tl.tl.tl.tl.tl.hd)
      clear hsg hs hxs
      refine hK.out _ _ (by exact HBM.out _ _ HS20.out (by simp) (by simp)) (by exact fun _ => trivial) ?_
      clear hK K
      try simp only [Act.put, List.setIfInBounds_toArray, List.set_cons_zero, List.set_cons_succ]
      refine AnyL.step (i := 3) (by kernel_rfl) (by rfl) (fun K hK => ?_)
      go_simp
      go_at_call 9
      with_reducible refine (HTP.out _ HK20.out).mono ?_
      rintro e w21 ⟨aH, cH, pH, qH, rH, sH, xsH, rfl, hxs, hsg⟩
      have HXH := Lib.hid hxs
      have hs := HS20.out.graft1 hsg OX3_own
      have HIM21 := Lib.hid (HIM.out _ _ _ _ _ _ _ (OX3.read hs.tl.hd HXG.out) (OX3.read hs.hd hxs))
      have HS21 := Lib.hid hs
      clear hsg hs hxs
      refine hK.out _ _ (by exact HBM.out _ _ HS21.out (by simp) (by simp)) (by exact fun _ => trivial) ?_
      clear hK K
      try simp only [Act.put, List.setIfInBounds_toArray, List.set_cons_zero, List.set_cons_succ]
      refine AnyL.step (i := 4) (by kernel_rfl) (by rfl) (fun K hK => ?_)
      go_simp
      go_at_call 25
      with_reducible refine HIM21.out.mono ?_
      rintro e w22 ⟨ao, co, yo, rfl, hxs, hsg⟩
      have hs := Sep.cutA (X := [_]) (A := [_, _]) (HS21.out.graft1 hsg OMs_own)
      have HEQ22 := Lib.hid (HEQ.out _ _ _ (HRD.out _ _ _ hs.hd hxs) (HRD.out _ _ _ hs.tl.tl.tl.tl.hd HY0.out))
      have HS22 := Lib.hid hs
      clear hsg hs hxs
      refine hK.out _ _ (by exact HBM.out _ _ HS22.out (by simp) (by simp)) (by exact fun _ => trivial) ?_
      clear hK K
      try simp only [Act.put, List.setIfInBounds_toArray, List.set_cons_zero, List.set_cons_succ]
      refine AnyL.take (i := 5) (v := ?vx16) (by rfl) (by kernel_rfl) (by kernel_rfl) (by kernel_rfl) rfl (by exact fun _ _ _ h => h) (by rfl) ?hyx16 (by exact ⟨HBM.out _ _ HS22.out (by simp) (by simp), fun _ => trivial⟩) ?restx16
      case hyx16 => intro W hSW; (try dsimp only at hSW); first | (go_simp; done) | (go_simp; with_reducible rfl)
      try simp only [Act.put, List.setIfInBounds_toArray, List.set_cons_zero, List.set_cons_succ]
      refine AnyL.take (i := 6) (v := ?vx17) (by rfl) (by kernel_rfl) (by kernel_rfl) (by kernel_rfl) rfl (by exact fun _ _ _ h => h) (by rfl) ?hyx17 (by exact ⟨HBM.out _ _ HS22.out (by simp) (by simp), fun _ => trivial⟩) ?restx17
      case hyx17 => intro W hSW; (try dsimp only at hSW); first | (go_simp; done) | (go_simp; with_reducible rfl)
      try simp only [Act.put, List.setIfInBounds_toArray, List.set_cons_zero, List.set_cons_succ]
      refine AnyL.take (i := 7) (v := ?vx18) (by rfl) (by kernel_rfl) (by kernel_rfl) (by kernel_rfl) rfl (by exact fun _ _ _ h => h) (by rfl) ?hyx18 (by exact ⟨HBM.out _ _ HS22.out (by simp) (by simp), fun _ => trivial⟩) ?restx18
      case hyx18 => intro W hSW; (try dsimp only at hSW); first | (go_simp; done) | (go_simp; with_reducible rfl)
      try simp only [Act.put, List.setIfInBounds_toArray, List.set_cons_zero, List.set_cons_succ]
      refine AnyL.take (i := 8) (v := ?vx19) (by rfl) (by kernel_rfl) (by kernel_rfl) (by kernel_rfl) rfl (by exact fun _ _ _ h => h) (by rfl) ?hyx19 (by exact ⟨HBM.out _ _ HS22.out (by simp) (by simp), fun _ => trivial⟩) ?restx19
      case hyx19 => intro W hSW; (try dsimp only at hSW); first | (go_simp; done) | (go_simp; with_reducible rfl)
      try simp only [Act.put, List.setIfInBounds_toArray, List.set_cons_zero, List.set_cons_succ]
      refine AnyL.take (i := 9) (v := ?vx20) (by rfl) (by kernel_rfl) (by kernel_rfl) (by kernel_rfl) rfl (by exact fun _ _ _ h => h) (by rfl) ?hyx20 (by exact ⟨HBM.out _ _ HS22.out (by simp) (by simp), fun _ => trivial⟩) ?restx20
      case hyx20 => intro W hSW; (try dsimp only at hSW); first | (go_simp; done) | (go_simp; with_reducible rfl)
      try simp only [Act.put, List.setIfInBounds_toArray, List.set_cons_zero, List.set_cons_succ]
      refine AnyL.done (by kernel_rfl) ?_ _
      clear XH0 HS20 HS21 HSH HIM21
      go_wp2_with (first
        | (go_at_call 21
           with_reducible refine HEQ22.out.mono ?_
           rintro e w23 ⟨rfl, hg⟩
           have hs := HS22.out.grown hg
           have HHM23 := Lib.hid (HHM.out _ _ (HRM.out _ _ _ hs.tl.hd HY1.out))
           have HK23 := Lib.hid (show w.grownBy w23 none from hs.tl.tl.tl.tl.tl.tl.tl.hd)
           clear hg hs)
        | (go_at_call 23
           with_reducible refine HHM23.out.mono ?_
           rintro e w24 ⟨rfl, hg⟩
           have HK24 := Lib.hid (grownBy_trans HK23.out hg)
           clear hg))
      go_ret
      exact ⟨rfl, HK24.out⟩
end Go.Proofs.Ytlpgjnjhhgjkmaa

/-
  FirstMatch of the program and of the reference. Conditions: the graphs' lists can be read, their lengths are small.
-/
import Derived.Test.YtlpgjnjhhgjkmaaYq05
import Derived.Test.YtlpgjnjhhgjkmaaYq06
namespace Go.Proofs.Ytlpgjnjhhgjkmaa
open Go.RowKit
set_option linter.unusedVariables false
set_option maxRecDepth 100000

noncomputable def fstM (g p : Gr) : Mt := (mtL g p).headD m0
noncomputable def fsB (g p : Gr) : Bool := !(mtL g p).isEmpty
/-- A match as one part. -/
def OM1 (u1 u2 : Value) (M : Mt) : Asrt := Bag [OI u1 M.W, OI u2 M.E]
theorem OM1_own {u1 u2 : Value} {M : Mt} : ∀ k, (OM1 u1 u2 M).sees k → (OM1 u1 u2 M).foot k := by
  rintro k ⟨A, hA, hk⟩
  refine ⟨A, hA, ?_⟩
  simp only [List.mem_cons, List.not_mem_nil, or_false] at hA
  rcases hA with rfl | rfl <;> exact hk
/-- What FirstMatch hands back. -/
def FsR (g p : Gr) (w : World) (e : Ending) (w' : World) : Prop :=
  ∃ a1 c1 a2 c2, e = .returned (.tuple #[.agg #[.slice a1 (fstM g p).W.length c1, .slice a2 (fstM g p).E.length c2], .bool (fsB g p)]) ∧ Sep w' [OM1 (.slice a1 (fstM g p).W.length c1) (.slice a2 (fstM g p).E.length c2) (fstM g p), KeepA w]
theorem fs_nil {g p : Gr} {w w' : World} (h : mtL g p = []) (hs : Sep w' [KeepA w]) : FsR g p w (.returned (.tuple #[.agg #[.slice none 0 0, .slice none 0 0], .bool false])) w' := by
  have e1 : fstM g p = m0 := by unfold fstM; rw [h]; rfl
  have e2 : fsB g p = false := by unfold fsB; rw [h]; rfl
  unfold FsR
  rw [e1, e2]
  exact ⟨none, 0, none, 0, rfl, Sep.bag (l := [_, _]) hs.nilI.nilI⟩
theorem fs_some {g p : Gr} {w w' : World} {x : XM} {r : List Mt} {l : List Asrt} (h : mtL g p = x.mt :: r) {a1 : Option Addr} {n1 c1 : Nat} {a2 : Option Addr} {n2 c2 : Nat} (h1 : x.wv = .slice a1 n1 c1) (h2 : x.ev = .slice a2 n2 c2) (hs : Sep w' (OI x.wv x.W :: OI x.ev x.E :: KeepA w :: l)) : FsR g p w (.returned (.tuple #[.agg #[.slice a1 n1 c1, .slice a2 n2 c2], .bool true])) w' := by
  obtain ⟨W, E, wv, ev⟩ := x
  simp only at h1 h2 hs
  subst h1 h2
  obtain ⟨b1, d1, e1⟩ := own_shape (show OwnInts 0 w' _ W from hs.hd)
  obtain ⟨b2, d2, e2⟩ := own_shape (show OwnInts 0 w' _ E from hs.tl.hd)
  injection e1 with f1 f2 f3
  injection e2 with f4 f5 f6
  subst f1 f2 f3 f4 f5 f6
  have e1 : fstM g p = ⟨W, E⟩ := by unfold fstM; rw [h]; rfl
  have e2 : fsB g p = true := by unfold fsB; rw [h]; rfl
  unfold FsR
  rw [e1, e2]
  exact ⟨_, _, _, _, rfl, Sep.bag (l := [_, _]) (Sep.perm (List.Perm.refl _) (hs.under (fun h => h.under (fun h => h.under (fun _ => trivial) (by simp)) (by simp +contextual)) (by simp +contextual)))⟩
theorem mt_take1 {g p : Gr} {xs : List XM} (hb : mtB g p = true) (h : mts xs = (allMt g p).take 1) : (xs = [] ∧ mtL g p = []) ∨ ∃ x r, xs = [x] ∧ mtL g p = x.mt :: r := by
  unfold mtL
  rw [if_pos hb]
  cases hA : allMt g p with
  | nil =>
    rw [hA] at h
    left
    refine ⟨?_, rfl⟩
    cases xs with
    | nil => rfl
    | cons x r => simp [mts] at h
  | cons M R =>
    rw [hA] at h
    right
    cases xs with
    | nil => simp [mts] at h
    | cons x r =>
      simp only [mts, List.map_cons, List.take_succ_cons, List.take_zero, List.cons.injEq, List.map_eq_nil_iff] at h
      obtain ⟨rfl, rfl⟩ := h
      exact ⟨x, R.take 99, rfl, rfl⟩
theorem one_cells {w : World} {v : Value} {x : XM} {r : List XM} {l : List Asrt} (h : Sep w (OR matchE v (x :: r) :: Bag (rowsM (x :: r)) :: l)) : ∃ g c a1 c1 a2 c2, v = .slice (some ⟨g, 0, none⟩) (r.length + 1) c ∧ x.wv = .slice a1 x.W.length c1 ∧ x.ev = .slice a2 x.E.length c2 ∧ w.cell? ⟨g, 0, none⟩ = some x.wv ∧ w.cell? ⟨g, 1, none⟩ = some x.ev := by
  obtain ⟨g, c, rfl, _, _, _⟩ := OwnR.parts (show OwnR matchE 0 w v (x :: r) from h.hd) (by simp)
  have hc := match_cells (show OwnR matchE 0 w (.slice (some ⟨g, 0, none⟩) (x :: r).length c) (x :: r) from h.hd) rfl (i := 0) (by simp)
  have hb := h.tl
  rw [rowsM_cons] at hb
  obtain ⟨a1, c1, e1⟩ := own_shape (show OwnInts 0 w x.wv x.W from hb.outBag.hd)
  obtain ⟨a2, c2, e2⟩ := own_shape (show OwnInts 0 w x.ev x.E from hb.outBag.s2.outBag.hd)
  exact ⟨g, c, a1, c1, a2, c2, rfl, e1, e2, hc.1, hc.2⟩
set_option maxHeartbeats 4000000 in
theorem sFirst_any (g p : Gr) (gev giv gov pev piv pov : Value) (w : World) (hg : RdX w g gev giv gov) (hp : RdX w p pev piv pov) (sg : Sm g) (sp : Sm p) :
    Calls Try.prog 14 #[grV g.n gev giv gov, grV p.n pev piv pov] w (FsR g p w) := by
  have HRG := Lib.hid fun W (h : w.grownBy W none) => show RdX W g gev giv gov from ⟨hg.1.carry h, hg.2.1.carry h, hg.2.2.carry h⟩
  have HRP := Lib.hid fun W (h : w.grownBy W none) => show RdX W p pev piv pov from ⟨hp.1.carry h, hp.2.1.carry h, hp.2.2.carry h⟩
  have HMT := Lib.hid fun W (h : w.grownBy W none) => sMatchesOf_any g p gev giv gov pev piv pov W (HRG.out W h) (HRP.out W h) sg sp
  unfold grV at HMT
  unfold grV
  obtain ⟨ga, gc, rfl⟩ := hg.1.shape
  obtain ⟨gi, gd, rfl⟩ := hg.2.1.shape
  obtain ⟨go, gf, rfl⟩ := hg.2.2.shape
  obtain ⟨pa, pc, rfl⟩ := hp.1.shape
  obtain ⟨pi, pd, rfl⟩ := hp.2.1.shape
  obtain ⟨po, pf, rfl⟩ := hp.2.2.shape
  have hs0 := (((Sep.start w).box #[.int .i64 g.n, .slice ga g.es.length gc, .slice gi g.i.length gd, .slice go g.o.length gf] 29).boxAt (w.heap.size + 1) (by simp) #[.int .i64 p.n, .slice pa p.es.length pc, .slice pi p.i.length pd, .slice po p.o.length pf] 29).boxAt (w.heap.size + 1 + 1) (by simp) #[.slice none 0 0, .slice none 0 0] 37
  have hK := (show w.grownBy _ none from hs0.tl.tl.tl.hd)
  obtain ⟨x0, x1, x2, x3, _⟩ := bq4 hs0.tl.tl.hd
  obtain ⟨z0, z1, z2, z3, _⟩ := bq4 hs0.tl.hd
  have HS0 := Lib.hid hs0
  have HK0 := Lib.hid hK
  have HMB := Lib.hid (show mtB g p = (mgB g && mgB p && decide (p.es.length ≤ 12)) from rfl)
  have HNL := Lib.hid fun (h : mtB g p = false) => show mtL g p = [] from by unfold mtL; rw [h]; rfl
  clear hs0 hK hg hp sg sp HMB HNL
  go_enter Try.func14, Try.ntmps14
  go_upto_region 2 with (
    go_at_call 19
    with_reducible refine (HMT.out _ HK0.out).mono ?_
    rintro e w4 ⟨v, xs, rfl, hxs, hsg⟩
    have HX := Lib.hid hxs
    have HS4 := Lib.hid (HS0.out.graft2 hsg (fun k hk => hk) (fun k hk => bagM_own k hk))
    clear hsg hxs x0 x1 x2 x3 z0 z1 z2 z3)
  rcases xs with _ | ⟨x, r⟩
  · obtain ⟨va, vc, hv⟩ := OwnR.shape (show OwnR matchE 0 w4 v [] from HS4.out.hd)
    subst hv
    have HN := Lib.hid (show mtL g p = [] from HX.out.symm)
    have h8 := HS4.out.tl.tl
    obtain ⟨k0, k1⟩ := bq2 h8.hd
    obtain ⟨j0, j1⟩ := bf2 h8.hd
    have h9 := h8.setB 0 (.slice none 0 0)
    obtain ⟨y0, y1⟩ := bq2 (x := .slice none 0 0) (y := .slice none 0 0) (t := 37) h9.hd
    obtain ⟨i0, i1⟩ := bf2 (x := .slice none 0 0) (y := .slice none 0 0) (t := 37) h9.hd
    have hA := h9.setB 1 (.slice none 0 0)
    obtain ⟨v0, v1⟩ := bq2 (x := .slice none 0 0) (y := .slice none 0 0) (t := 37) hA.hd
    have HSF := Lib.hid (show Sep _ [KeepA w] from hA.tl.tl.tl)
    clear HX HS4 h8 h9 hA
    cases mtB g p
    all_goals (
      go_wp2_with fail
      refine bodyPost_ret_by (v := .tuple #[.agg #[.slice none 0 0, .slice none 0 0], .bool false]) ?_ rfl (fs_nil HN.out HSF.out)
      simp [results, go_sem, *])
  · obtain ⟨gb, cb, a1, c1, a2, c2, rfl, hwv, hev, q0, q1⟩ := one_cells HS4.out
    rw [hwv] at q0
    rw [hev] at q1
    have HN := Lib.hid (show mtL g p = x.mt :: mts r from HX.out.symm)
    have HW := Lib.hid hwv; have HE := Lib.hid hev
    have h7 := HS4.out
    rw [rowsM_cons] at h7
    have h8 := Sep.blk (A := [_, _]) (B := [_]) h7
    obtain ⟨k0, k1⟩ := bq2 h8.hd
    obtain ⟨j0, j1⟩ := bf2 h8.hd
    have h9 := h8.setB 0 (.slice a1 x.W.length c1)
    obtain ⟨y0, y1⟩ := bq2 (x := .slice a1 x.W.length c1) (y := .slice none 0 0) (t := 37) h9.hd
    obtain ⟨i0, i1⟩ := bf2 (x := .slice a1 x.W.length c1) (y := .slice none 0 0) (t := 37) h9.hd
    have hA := h9.setB 1 (.slice a2 x.E.length c2)
    obtain ⟨v0, v1⟩ := bq2 (x := .slice a1 x.W.length c1) (y := .slice a2 x.E.length c2) (t := 37) hA.hd
    have HSF := Lib.hid (Sep.cutA (X := [_, _]) (A := [_, _, _]) (r := [KeepA w]) hA.tl.tl.outBag.s2.outBag.s3)
    clear h7 h8 h9 hA hwv hev HX HS4
    have hbt : mtB g p = true := by
      cases h : mtB g p
      · have := HN.out; unfold mtL at this; rw [h] at this; cases this
      · rfl
    rw [hbt]
    have hl1 : ¬ ((r.length : Int) + 1 = 0) := by omega
    go_wp2_with fail
    refine bodyPost_ret_by (v := .tuple #[.agg #[.slice a1 x.W.length c1, .slice a2 x.E.length c2], .bool true]) ?_ rfl (fs_some HN.out HW.out HE.out HSF.out)
    simp [results, go_sem, *]
set_option maxHeartbeats 4000000 in
theorem iFirst_any (g p : Gr) (gev giv gov pev piv pov : Value) (w : World) (hg : RdX w g gev giv gov) (hp : RdX w p pev piv pov) (sg : Sm g) (sp : Sm p) :
    Calls Try.prog 15 #[grV g.n gev giv gov, grV p.n pev piv pov] w (FsR g p w) := by
  have HRG := Lib.hid fun W (h : w.grownBy W none) => show RdX W g gev giv gov from ⟨hg.1.carry h, hg.2.1.carry h, hg.2.2.carry h⟩
  have HRP := Lib.hid fun W (h : w.grownBy W none) => show RdX W p pev piv pov from ⟨hp.1.carry h, hp.2.1.carry h, hp.2.2.carry h⟩
  have HMT := Lib.hid fun (hb : grB g = true) (hc : grB p = true) W (h : w.grownBy W none) => matches_any g p hb hc gev giv gov pev piv pov 1 (by decide) (by decide) W (HRG.out W h).1 (HRP.out W h).1
  unfold grV at HMT
  unfold grV
  obtain ⟨ga, gc, rfl⟩ := hg.1.shape
  obtain ⟨gi, gd, rfl⟩ := hg.2.1.shape
  obtain ⟨go, gf, rfl⟩ := hg.2.2.shape
  obtain ⟨pa, pc, rfl⟩ := hp.1.shape
  obtain ⟨pi, pd, rfl⟩ := hp.2.1.shape
  obtain ⟨po, pf, rfl⟩ := hp.2.2.shape
  have hs0 := (((Sep.start w).box #[.int .i64 g.n, .slice ga g.es.length gc, .slice gi g.i.length gd, .slice go g.o.length gf] 29).boxAt (w.heap.size + 1) (by simp) #[.int .i64 p.n, .slice pa p.es.length pc, .slice pi p.i.length pd, .slice po p.o.length pf] 29).boxAt (w.heap.size + 1 + 1) (by simp) #[.slice none 0 0, .slice none 0 0] 37
  have hK := (show w.grownBy _ none from hs0.tl.tl.tl.hd)
  have hmo := areMono_any (.slice (some ⟨w.heap.size + 1 + 1 + 1, 0, none⟩) 2 2) [g, p] _ (by
    have := rdGs_two (HRG.out _ hK).1 (HRG.out _ hK).2.1 (HRG.out _ hK).2.2 (HRP.out _ hK).1 (HRP.out _ hK).2.1 (HRP.out _ hK).2.2
    simp only [show ∀ (W : World) o, (W.alloc o).heap.size = W.heap.size + 1 from fun W o => by simp] at this
    exact this) (by simp) (fun x hx => by
    simp only [List.mem_cons, List.not_mem_nil, or_false] at hx
    rcases hx with rfl | rfl
    · exact sg
    · exact sp)
  rw [two_all] at hmo
  obtain ⟨x0, x1, x2, x3, _⟩ := bq4 hs0.tl.tl.hd
  obtain ⟨z0, z1, z2, z3, _⟩ := bq4 hs0.tl.hd
  have HS0 := Lib.hid hs0
  have HK0 := Lib.hid hK
  have HMB := Lib.hid (show mtB g p = (mgB g && mgB p && decide (p.es.length ≤ 12)) from rfl)
  have HNL := Lib.hid fun (h : mtB g p = false) => show mtL g p = [] from by unfold mtL; rw [h]; rfl
  clear hs0 hK hg hp sg sp
  cases hb : (mgB g && mgB p) with
  | false =>
    rw [hb] at hmo
    have HMO := Lib.hid hmo
    have HF := Lib.hid (HNL.out (by rw [HMB.out, hb]; rfl))
    clear hmo hb HMT HRG HRP HNL
    go_enter Try.func15, Try.ntmps15
    go_wp2_with (
      go_at_call 44
      with_reducible refine HMO.out.mono ?_
      rintro e w3 ⟨rfl, hg3⟩
      have h8 := (HS0.out.al (.cells #[.int .i64 g.n, .slice ga g.es.length gc, .slice gi g.i.length gd, .slice go g.o.length gf, .int .i64 p.n, .slice pa p.es.length pc, .slice pi p.i.length pd, .slice po p.o.length pf] 29)).grown hg3
      obtain ⟨k0, k1⟩ := bq2 h8.hd
      obtain ⟨j0, j1⟩ := bf2 h8.hd
      have h9 := h8.setB 0 (.slice none 0 0)
      obtain ⟨y0, y1⟩ := bq2 (x := .slice none 0 0) (y := .slice none 0 0) (t := 37) h9.hd
      obtain ⟨i0, i1⟩ := bf2 (x := .slice none 0 0) (y := .slice none 0 0) (t := 37) h9.hd
      have hA := h9.setB 1 (.slice none 0 0)
      obtain ⟨v0, v1⟩ := bq2 (x := .slice none 0 0) (y := .slice none 0 0) (t := 37) hA.hd
      have HSF := Lib.hid (show Sep _ [KeepA w] from hA.tl.tl.tl)
      clear hg3 h8 h9 hA)
    refine bodyPost_ret_by (v := .tuple #[.agg #[.slice none 0 0, .slice none 0 0], .bool false]) ?_ rfl (fs_nil HF.out HSF.out)
    simp [results, go_sem, *]
  | true =>
    rw [hb] at hmo
    have HMO := Lib.hid hmo
    rw [Bool.and_eq_true] at hb
    have hgg := mgB_gr hb.1
    have hpp := mgB_gr hb.2
    by_cases hl : p.es.length ≤ 12
    · have HT := Lib.hid (show mtB g p = true from by rw [HMB.out, hb.1, hb.2, decide_eq_true hl]; rfl)
      have HMC := Lib.hid (HMT.out hgg hpp)
      have hl2 : ¬ ((12 : Int) < (p.es.length : Int)) := by omega
      clear hmo hb HMT HRG HRP hgg hpp hl HNL
      go_enter Try.func15, Try.ntmps15
      go_upto_region 4 with (first
        | (go_at_call 44
           with_reducible refine HMO.out.mono ?_
           rintro e w3 ⟨rfl, hg3⟩
           have hs3 := (HS0.out.al (.cells #[.int .i64 g.n, .slice ga g.es.length gc, .slice gi g.i.length gd, .slice go g.o.length gf, .int .i64 p.n, .slice pa p.es.length pc, .slice pi p.i.length pd, .slice po p.o.length pf] 29)).grown hg3
           obtain ⟨t0, t1, t2, t3, _⟩ := bq4 hs3.tl.tl.hd
           obtain ⟨u0, u1, u2, u3, _⟩ := bq4 hs3.tl.hd
           have hm3 := HMC.out w3 (show w.grownBy w3 none from hs3.tl.tl.tl.hd)
           rw [show ((1 : Nat) : Int) = 1 from rfl] at hm3
           have HM3 := Lib.hid hm3
           have HS3 := Lib.hid hs3
           clear hg3 hs3 hm3 x0 x1 x2 x3 z0 z1 z2 z3)
        | (go_at_call 45
           with_reducible refine HM3.out.mono ?_
           rintro e w4 ⟨v, xs, rfl, hxs, hsg⟩
           have HX := Lib.hid (mt_take1 HT.out hxs)
           have HS4 := Lib.hid (HS3.out.graft2 hsg (fun k hk => hk) (fun k hk => bagM_own k hk))
           clear hsg hxs t0 t1 t2 t3 u0 u1 u2 u3))
      rcases HX.out with ⟨rfl, hnil⟩ | ⟨x, r, rfl, hone⟩
      · obtain ⟨va, vc, hv⟩ := OwnR.shape (show OwnR matchE 0 w4 v [] from HS4.out.hd)
        subst hv
        have HN := Lib.hid hnil
        have h8 := HS4.out.tl.tl
        obtain ⟨k0, k1⟩ := bq2 h8.hd
        obtain ⟨j0, j1⟩ := bf2 h8.hd
        have h9 := h8.setB 0 (.slice none 0 0)
        obtain ⟨y0, y1⟩ := bq2 (x := .slice none 0 0) (y := .slice none 0 0) (t := 37) h9.hd
        obtain ⟨i0, i1⟩ := bf2 (x := .slice none 0 0) (y := .slice none 0 0) (t := 37) h9.hd
        have hA := h9.setB 1 (.slice none 0 0)
        obtain ⟨v0, v1⟩ := bq2 (x := .slice none 0 0) (y := .slice none 0 0) (t := 37) hA.hd
        have HSF := Lib.hid (show Sep _ [KeepA w] from hA.tl.tl.tl)
        clear HX HS4 h8 h9 hA
        clear hnil
        go_wp2_with fail
        refine bodyPost_ret_by (v := .tuple #[.agg #[.slice none 0 0, .slice none 0 0], .bool false]) ?_ rfl (fs_nil HN.out HSF.out)
        simp [results, go_sem, *]
      · obtain ⟨gb, cb, a1, c1, a2, c2, rfl, hwv, hev, q0, q1⟩ := one_cells HS4.out
        rw [hwv] at q0
        rw [hev] at q1
        have HN := Lib.hid hone
        have HW := Lib.hid hwv; have HE := Lib.hid hev
        have h7 := HS4.out
        rw [rowsM_cons] at h7
        have h8 := Sep.blk (A := [_, _]) (B := [_]) h7
        obtain ⟨k0, k1⟩ := bq2 h8.hd
        obtain ⟨j0, j1⟩ := bf2 h8.hd
        have h9 := h8.setB 0 (.slice a1 x.W.length c1)
        obtain ⟨y0, y1⟩ := bq2 (x := .slice a1 x.W.length c1) (y := .slice none 0 0) (t := 37) h9.hd
        obtain ⟨i0, i1⟩ := bf2 (x := .slice a1 x.W.length c1) (y := .slice none 0 0) (t := 37) h9.hd
        have hA := h9.setB 1 (.slice a2 x.E.length c2)
        obtain ⟨v0, v1⟩ := bq2 (x := .slice a1 x.W.length c1) (y := .slice a2 x.E.length c2) (t := 37) hA.hd
        have HSF := Lib.hid (Sep.cutA (X := [_, _]) (A := [_, _, _]) (r := [KeepA w]) hA.tl.tl.outBag.s2.outBag.s3)
        clear h7 h8 h9 hA hwv hev HX HS4
        clear hone
        go_wp2_with fail
        refine bodyPost_ret_by (v := .tuple #[.agg #[.slice a1 x.W.length c1, .slice a2 x.E.length c2], .bool true]) ?_ rfl (fs_some HN.out HW.out HE.out HSF.out)
        simp [results, go_sem, *]
    · have HF := Lib.hid (HNL.out (by rw [HMB.out, decide_eq_false hl]; simp))
      have hl2 : (12 : Int) < (p.es.length : Int) := by omega
      clear hmo hb HMT HRG HRP hgg hpp hl HNL
      go_enter Try.func15, Try.ntmps15
      go_wp2_with (
        go_at_call 44
        with_reducible refine HMO.out.mono ?_
        rintro e w3 ⟨rfl, hg3⟩
        have hs3 := (HS0.out.al (.cells #[.int .i64 g.n, .slice ga g.es.length gc, .slice gi g.i.length gd, .slice go g.o.length gf, .int .i64 p.n, .slice pa p.es.length pc, .slice pi p.i.length pd, .slice po p.o.length pf] 29)).grown hg3
        obtain ⟨t0, t1, t2, t3, _⟩ := bq4 hs3.tl.hd
        have h8 := hs3
        obtain ⟨k0, k1⟩ := bq2 h8.hd
        obtain ⟨j0, j1⟩ := bf2 h8.hd
        have h9 := h8.setB 0 (.slice none 0 0)
        obtain ⟨y0, y1⟩ := bq2 (x := .slice none 0 0) (y := .slice none 0 0) (t := 37) h9.hd
        obtain ⟨i0, i1⟩ := bf2 (x := .slice none 0 0) (y := .slice none 0 0) (t := 37) h9.hd
        have hA := h9.setB 1 (.slice none 0 0)
        obtain ⟨v0, v1⟩ := bq2 (x := .slice none 0 0) (y := .slice none 0 0) (t := 37) hA.hd
        have HSF := Lib.hid (show Sep _ [KeepA w] from hA.tl.tl.tl)
        clear hg3 hs3 h8 h9 hA)
      refine bodyPost_ret_by (v := .tuple #[.agg #[.slice none 0 0, .slice none 0 0], .bool false]) ?_ rfl (fs_nil HF.out HSF.out)
      simp [results, go_sem, *]
end Go.Proofs.Ytlpgjnjhhgjkmaa

/-
  The walk of FnExactFirstMatch. Conditions: the slices' lengths are those of slices.
-/
namespace Go.Proofs.Ytlpgjnjhhgjkmaa
open Go.RowKit
set_option linter.unusedVariables false
set_option maxRecDepth 100000

/-- A match that can be read. -/
def RdM1 (w : World) (u1 u2 : Value) (M : Mt) : Prop := IntsV w u1 M.W ∧ IntsV w u2 M.E
theorem OM1.read {w : World} {u1 u2 : Value} {M : Mt} (h : (OM1 u1 u2 M).holds w) : RdM1 w u1 u2 M := by
  have hs := show Sep w [OI u1 M.W, OI u2 M.E] from h
  exact ⟨OwnInts.read (show OwnInts 0 w u1 M.W from hs.hd), OwnInts.read (show OwnInts 0 w u2 M.E from hs.tl.hd)⟩
theorem fstM_small (g p : Gr) : (fstM g p).W.length ≤ 1000 ∧ (fstM g p).E.length ≤ 1000 := by
  unfold fstM
  cases h : mtL g p with
  | nil => exact ⟨by simp [m0], by simp [m0]⟩
  | cons x r =>
    have := mtL_len (show x ∈ mtL g p from by rw [h]; simp)
    exact ⟨by simp; omega, by simp; omega⟩
set_option maxHeartbeats 1000000 in
theorem markMatch_any (u1 u2 : Value) (M : Mt) (k : Int) (w : World) (l : List Asrt) (hs : Sep w (OM1 u1 u2 M :: l)) (l1 : M.W.length ≤ 1000) (l2 : M.E.length ≤ 1000) (h0 : 0 ≤ k) (h1 : k ≤ 1000000) :
    Calls Try.prog 17 #[.agg #[u1, u2], .int .i64 k] w fun e w' => e = .returned (.int .i64 (k + wM M)) ∧ Sep w' (OM1 u1 u2 (mkM k M) :: l) := by
  have hs1 := Sep.unbag (l := [_, _]) hs
  obtain ⟨a1, c1, rfl⟩ := own_shape (show OwnInts 0 w u1 M.W from hs1.hd)
  obtain ⟨a2, c2, rfl⟩ := own_shape (show OwnInts 0 w u2 M.E from hs1.tl.hd)
  obtain ⟨q, hq⟩ : ∃ q, q = k + (M.W.length : Int) := ⟨_, rfl⟩
  obtain ⟨q2, hq2⟩ : ∃ q2, q2 = q + (M.E.length : Int) := ⟨_, rfl⟩
  have HI := Lib.hid fun W l (h : Sep W (OI (.slice a1 M.W.length c1) M.W :: l)) => markIntS_any a1 M.W.length c1 M.W k W l h rfl (by omega) (by omega) (by omega)
  have HO := Lib.hid fun W l (h : Sep W (OI (.slice a2 M.E.length c2) M.E :: l)) => markIntS_any a2 M.E.length c2 M.E q W l h rfl (by omega) (by omega) (by omega)
  rw [← hq] at HI
  rw [← hq2] at HO
  have HE := Lib.hid (show q2 = k + (wM M : Int) from by unfold wM; omega)
  have HQ := Lib.hid hq
  have hs0 := hs1.box #[.slice a1 M.W.length c1, .slice a2 M.E.length c2] 37
  have HS0 := Lib.hid hs0.s2
  clear hs hs1 hs0 hq hq2 l1 l2
  go_enter Try.func17, Try.ntmps17
  go_wp2_with (first
    | (go_at_call 41
       with_reducible refine (HI.out _ _ HS0.out).mono ?_
       rintro e w4 ⟨rfl, hs⟩
       obtain ⟨x0, x1⟩ := bq2 hs.tl.hd
       have HS1 := Lib.hid hs.s3
       clear hs)
    | (go_at_call 41
       with_reducible refine (HO.out _ _ HS1.out).mono ?_
       rintro e w6 ⟨rfl, hs⟩
       have HS2 := Lib.hid (Sep.cutA (X := [_, _]) (A := [_]) hs).s2
       clear hs))
  go_ret
  refine ⟨by rw [← HE.out]; rfl, ?_⟩
  have h := HS2.out
  rw [HQ.out] at h
  exact Sep.bag (l := [_, _]) h
set_option maxHeartbeats 1000000 in
theorem heldMatch_any (u1 u2 : Value) (M : Mt) (k : Int) (w : World) (hr : RdM1 w u1 u2 (mkM k M)) (l1 : M.W.length ≤ 1000) (l2 : M.E.length ≤ 1000) (h0 : 0 ≤ k) (h1 : k ≤ 1000000) :
    Calls Try.prog 18 #[.agg #[u1, u2], .int .i64 k] w fun e w' => e = .returned (.int .i64 (k + wM M)) ∧ w.grownBy w' none := by
  obtain ⟨hi, ho⟩ := hr
  unfold mkM at hi ho
  simp only at hi ho
  obtain ⟨q, hq⟩ : ∃ q, q = k + (M.W.length : Int) := ⟨_, rfl⟩
  obtain ⟨q2, hq2⟩ : ∃ q2, q2 = q + (M.E.length : Int) := ⟨_, rfl⟩
  rw [← hq] at ho
  obtain ⟨a1, c1, rfl⟩ := hi.shape
  obtain ⟨a2, c2, rfl⟩ := ho.shape
  rw [cntI_len] at hi ho
  have HA := Lib.hid fun W (h : w.grownBy W none) => heldIntS_any a1 _ c1 k W (hi.carry h) (by omega) (by omega) (by omega)
  have HB := Lib.hid fun W (h : w.grownBy W none) => heldIntS_any a2 _ c2 q W (ho.carry h) (by omega) (by omega) (by omega)
  rw [← hq] at HA
  rw [← hq2] at HB
  try simp only [cntI_len] at HA HB
  rw [cntI_len, cntI_len]
  have HE := Lib.hid (show q2 = k + (wM M : Int) from by unfold wM; omega)
  have hq30 : ¬ q < 0 := by omega
  have hq40 : ¬ q2 < 0 := by omega
  have HS0 := Lib.hid ((Sep.start w).box #[.slice a1 M.W.length c1, .slice a2 M.E.length c2] 37)
  have HK0 := Lib.hid (show w.grownBy _ none from HS0.out.tl.hd)
  rw [← HE.out]
  clear hi ho hq hq2 l1 l2
  generalize M.W.length = n1 at *
  generalize M.E.length = n2 at *
  go_enter Try.func18, Try.ntmps18
  go_wp2_with (first
    | (go_at_call 43; with_reducible refine (HA.out _ HK0.out).mono ?_; rintro e w5 ⟨rfl, rfl⟩)
    | (go_at_call 43; with_reducible refine (HB.out _ HK0.out).mono ?_; rintro e w6 ⟨rfl, rfl⟩))
  go_ret
  exact ⟨rfl, HK0.out⟩
set_option maxHeartbeats 16000000 in
theorem fnFirstMatch_any (g p : Gr) (gev giv gov pev piv pov : Value) (w : World) (g1 : RdE argEdE w gev g.es) (g2 : IntsV w giv g.i) (g3 : IntsV w gov g.o) (hok : okG g) (p1 : RdE argEdE w pev p.es) (p2 : IntsV w piv p.i) (p3 : IntsV w pov p.o) (hokp : okG p) :
    Calls Try.prog 4 #[grV g.n gev giv gov, grV p.n pev piv pov] w fun e w' => e = .returned (.bool true) ∧ w.grownBy w' none := by
  have HZ1 := Lib.hid fun W (h : w.grownBy W none) => szGraph_any g.n gev giv gov g 1048576 W (g1.carry h) (g2.carry h) (g3.carry h) (by decide) (by decide) hok
  have HZP := Lib.hid fun (left : Int) (h0 : 0 ≤ left) (h1 : left ≤ 1048576) W (h : w.grownBy W none) => szGraph_any p.n pev piv pov p left W (p1.carry h) (p2.carry h) (p3.carry h) h0 h1 hokp
  have HTG := Lib.hid fun (ht : totG g ≤ 1048576) W (h : w.grownBy W none) => toGraph_sh g gev giv gov W (g1.carry h) (g2.carry h) (g3.carry h) ht
  have HTP := Lib.hid fun (ht : totG p ≤ 1048576) W (h : w.grownBy W none) => toGraph_sh p pev piv pov W (p1.carry h) (p2.carry h) (p3.carry h) ht
  unfold grV at HZ1 HZP HTG HTP
  unfold Gives3 id at HTG HTP
  unfold grV
  obtain ⟨ag, cg, rfl⟩ := g1.shape
  obtain ⟨pg, qg, rfl⟩ := g2.shape
  obtain ⟨rg, sg, rfl⟩ := g3.shape
  obtain ⟨ap, cp, rfl⟩ := p1.shape
  obtain ⟨pp, qp, rfl⟩ := p2.shape
  obtain ⟨rp, sp, rfl⟩ := p3.shape
  clear g1 g2 g3 hok p1 p2 p3 hokp
  have HS0 := Lib.hid (((Sep.start w).box #[.int .i64 g.n, .slice ag g.es.length cg, .slice pg g.i.length qg, .slice rg g.o.length sg] 25).boxAt (w.heap.size + 1) (by simp) #[.int .i64 p.n, .slice ap p.es.length cp, .slice pp p.i.length qp, .slice rp p.o.length sp] 25)
  have HK0 := Lib.hid (show w.grownBy _ none from HS0.out.tl.tl.hd)
  by_cases hsz : lft 1048576 (totG g) < 0
  · generalize lft 1048576 (totG g) = rr at *
    generalize g.es.length = n1 at *
    generalize g.i.length = n2 at *
    generalize g.o.length = n3 at *
    generalize p.es.length = m1 at *
    generalize p.i.length = m2 at *
    generalize p.o.length = m3 at *
    clear HTG HTP HZP
    go_enter Try.func4, Try.ntmps4
    go_wp2_with (
      (go_at_call 7
       with_reducible refine (HZ1.out _ HK0.out).mono ?_
       rintro e w2 ⟨rfl, hg⟩
       have hs2 := HS0.out.grown hg
       obtain ⟨x0, x1, x2, x3, _⟩ := bq4 hs2.hd
       obtain ⟨y0, y1, y2, y3, _⟩ := bq4 hs2.tl.hd
       have HS2 := Lib.hid hs2
       have HK2 := Lib.hid (show w.grownBy w2 none from hs2.tl.tl.hd)
       clear hg hs2))
    go_ret
    exact ⟨rfl, HK2.out⟩
  · have htg : totG g ≤ 1048576 := by unfold lft at hsz; by_cases h : (1048576 : Int) - totG g < 0 <;> simp [h] at hsz <;> omega
    obtain ⟨r1, hr1⟩ : ∃ r, lft 1048576 (totG g) = r := ⟨_, rfl⟩
    rw [hr1] at HZ1 hsz
    have hr0 : 0 ≤ r1 := by omega
    have hr2 : r1 ≤ 1048576 := by rw [← hr1]; unfold lft; split <;> omega
    have HZ2 := Lib.hid (HZP.out r1 hr0 hr2)
    by_cases hsz2 : lft r1 (totG p) < 0
    · generalize lft r1 (totG p) = rr at *
      generalize g.es.length = n1 at *
      generalize g.i.length = n2 at *
      generalize g.o.length = n3 at *
      generalize p.es.length = m1 at *
      generalize p.i.length = m2 at *
      generalize p.o.length = m3 at *
      clear HTG HTP HZP hr1 hr0 hr2 htg
      go_enter Try.func4, Try.ntmps4
      go_wp2_with (first
        | (go_at_call 7
           with_reducible refine (HZ1.out _ HK0.out).mono ?_
           rintro e w2 ⟨rfl, hg⟩
           have hs2 := HS0.out.grown hg
           obtain ⟨x0, x1, x2, x3, _⟩ := bq4 hs2.hd
           obtain ⟨y0, y1, y2, y3, _⟩ := bq4 hs2.tl.hd
           have HS2 := Lib.hid hs2
           have HK2 := Lib.hid (show w.grownBy w2 none from hs2.tl.tl.hd)
           clear hg hs2)
        | (go_at_call 7
           with_reducible refine (HZ2.out _ HK2.out).mono ?_
           rintro e w3 ⟨rfl, hg⟩
           have hs3 := HS2.out.grown hg
           clear x0 x1 x2 x3 y0 y1 y2 y3
           have HS3 := Lib.hid hs3
           have HK3 := Lib.hid (show w.grownBy w3 none from hs3.tl.tl.hd)
           clear hg hs3))
      go_ret
      exact ⟨rfl, HK3.out⟩
    · have htp : totG p ≤ 1048576 := by unfold lft at hsz2; by_cases h : r1 - totG p < 0 <;> simp [h] at hsz2 <;> omega
      have HTG := Lib.hid (HTG.out htg)
      have HTP := Lib.hid (HTP.out htp)
      have hsg := Sm.of htg
      have hsp := Sm.of htp
      obtain ⟨M, hM⟩ : ∃ M, fstM g p = M := ⟨_, rfl⟩
      obtain ⟨b, hb⟩ : ∃ b, fsB g p = b := ⟨_, rfl⟩
      obtain ⟨s1, s2⟩ := (show M.W.length ≤ 1000 ∧ M.E.length ≤ 1000 from by rw [← hM]; exact fstM_small g p)
      have HEG := Lib.hid fun W u0 u1 u2 v0 v1 v2 (h : RdX W g u0 u1 u2) (h' : RdX W g v0 v1 v2) => eqGraph_sh g W u0 u1 u2 v0 v1 v2 h h' htg
      have HEP := Lib.hid fun W u0 u1 u2 v0 v1 v2 (h : RdX W p u0 u1 u2) (h' : RdX W p v0 v1 v2) => eqGraph_sh p W u0 u1 u2 v0 v1 v2 h h' htp
      have HMG := Lib.hid fun W u0 u1 u2 xs l (h : Sep W (OX3 u0 xs u1 g.i u2 g.o :: l)) (hx : eds xs = g.es) => markGraph_go u0 u1 u2 xs g 1 W l h hx htg (by decide) (by decide)
      have HMP := Lib.hid fun (k : Int) (h0 : 0 ≤ k) (h1 : k ≤ 10000000) W u0 u1 u2 xs l (h : Sep W (OX3 u0 xs u1 p.i u2 p.o :: l)) (hx : eds xs = p.es) => markGraph_go u0 u1 u2 xs p k W l h hx htp h0 (by omega)
      have HSP := Lib.hid fun W u0 u1 u2 v0 v1 v2 (h : RdX W g u0 u1 u2) (h' : RdX W p v0 v1 v2) => show Calls Try.prog 14 #[grV g.n u0 u1 u2, grV p.n v0 v1 v2] W fun e w' => ∃ a c a2 c2, e = .returned (.tuple #[.agg #[.slice a M.W.length c, .slice a2 M.E.length c2], .bool b]) ∧ Sep w' [OM1 (.slice a M.W.length c) (.slice a2 M.E.length c2) M, KeepA W] from
        (sFirst_any g p u0 u1 u2 v0 v1 v2 W h h' hsg hsp).mono fun e w' h => by unfold FsR at h; rw [hM, hb] at h; exact h
      have HIM := Lib.hid fun W u0 u1 u2 v0 v1 v2 (h : RdX W g u0 u1 u2) (h' : RdX W p v0 v1 v2) => show Calls Try.prog 15 #[grV g.n u0 u1 u2, grV p.n v0 v1 v2] W fun e w' => ∃ a c a2 c2, e = .returned (.tuple #[.agg #[.slice a M.W.length c, .slice a2 M.E.length c2], .bool b]) ∧ Sep w' [OM1 (.slice a M.W.length c) (.slice a2 M.E.length c2) M, KeepA W] from
        (iFirst_any g p u0 u1 u2 v0 v1 v2 W h h' hsg hsp).mono fun e w' h => by unfold FsR at h; rw [hM, hb] at h; exact h
      have HEQ := Lib.hid fun W u1 u2 v1 v2 (h : RdM1 W u1 u2 M) (h' : RdM1 W v1 v2 M) => eqMatch_same u1 u2 v1 v2 M.W M.E W h.1 h.2 h'.1 h'.2 (by omega) (by omega)
      have HMM := Lib.hid fun W u1 u2 l (h : Sep W (OM1 u1 u2 M :: l)) => markMatch_any u1 u2 M 1 W l h s1 s2 (by decide) (by decide)
      have HHM := Lib.hid fun W u1 u2 (h : RdM1 W u1 u2 (mkM 1 M)) => heldMatch_any u1 u2 M 1 W h s1 s2 (by decide) (by decide)
      obtain ⟨m, hm⟩ : ∃ m : Int, m = 1 + (wM M : Int) := ⟨_, rfl⟩
      rw [← hm] at HMM HHM
      have hm0 : ¬ m < 0 := by omega
      have hmm : (m != m) = false := by simp
      have hnb : (b != b) = false := by simp
      generalize lft r1 (totG p) = r2 at *
      unfold grV at HEG HEP HMG HMP HSP HIM
      clear htg htp hsg hsp hM hb s1 s2 hm hr1 hr0 hr2 HZP
      go_enter Try.func4, Try.ntmps4
      go_upto_region 8 with (first
        | (go_at_call 7
           with_reducible refine (HZ1.out _ HK0.out).mono ?_
           rintro e w2 ⟨rfl, hg⟩
           have hs2 := HS0.out.grown hg
           obtain ⟨x0, x1, x2, x3, _⟩ := bq4 hs2.hd
           obtain ⟨y0, y1, y2, y3, _⟩ := bq4 hs2.tl.hd
           have HS2 := Lib.hid hs2
           have HK2 := Lib.hid (show w.grownBy w2 none from hs2.tl.tl.hd)
           clear hg hs2)
        | (go_at_call 7
           with_reducible refine (HZ2.out _ HK2.out).mono ?_
           rintro e w3 ⟨rfl, hg⟩
           have hs3 := HS2.out.grown hg
           clear x0 x1 x2 x3 y0 y1 y2 y3
           have HS3 := Lib.hid hs3
           have HK3 := Lib.hid (show w.grownBy w3 none from hs3.tl.tl.hd)
           clear hg hs3))
      have HBM := Lib.hid fun (W1 : World) (L : List Asrt) (h : Sep W1 L) (hG : BxA w.heap.size #[.int .i64 g.n, .slice ag g.es.length cg, .slice pg g.i.length qg, .slice rg g.o.length sg] 25 ∈ L) (hP : BxA (w.heap.size + 1) #[.int .i64 p.n, .slice ap p.es.length cp, .slice pp p.i.length qp, .slice rp p.o.length sp] 25 ∈ L) => show (W1.cell? ⟨w.heap.size, 0, none⟩ = some (.int .i64 g.n) ∧ W1.cell? ⟨w.heap.size, 1, none⟩ = some (.slice ag g.es.length cg) ∧ W1.cell? ⟨w.heap.size, 2, none⟩ = some (.slice pg g.i.length qg) ∧ W1.cell? ⟨w.heap.size, 3, none⟩ = some (.slice rg g.o.length sg)) ∧ (W1.cell? ⟨w.heap.size + 1, 0, none⟩ = some (.int .i64 p.n) ∧ W1.cell? ⟨w.heap.size + 1, 1, none⟩ = some (.slice ap p.es.length cp) ∧ W1.cell? ⟨w.heap.size + 1, 2, none⟩ = some (.slice pp p.i.length qp) ∧ W1.cell? ⟨w.heap.size + 1, 3, none⟩ = some (.slice rp p.o.length sp)) from
        have q := bq4 (show W1.heap[w.heap.size]? = some (.cells #[.int .i64 g.n, .slice ag g.es.length cg, .slice pg g.i.length qg, .slice rg g.o.length sg] 25 (0, 0)) from Sep.all h _ hG)
        have q2 := bq4 (show W1.heap[w.heap.size + 1]? = some (.cells #[.int .i64 p.n, .slice ap p.es.length cp, .slice pp p.i.length qp, .slice rp p.o.length sp] 25 (0, 0)) from Sep.all h _ hP)
        ⟨⟨q.1, q.2.1, q.2.2.1, q.2.2.2.1⟩, ⟨q2.1, q2.2.1, q2.2.2.1, q2.2.2.2.1⟩⟩
      have HSA := Lib.hid HS3.out.dr
      have HKA := Lib.hid (show w.grownBy _ none from HSA.out.tl.tl.hd)
      go_cut [6, 7] from 27 to 35 (fun v6 v7 wx => ∃ (nb : Nat) (a0 d0 : Option Addr) (c0 f0 : Nat), v6 = .pointer (some ⟨nb, 0, none⟩) ∧ v7 = .bool b ∧ Sep wx [BxA nb #[.slice a0 M.W.length c0, .slice d0 M.E.length f0] 37, OM1 (.slice a0 M.W.length c0) (.slice d0 M.E.length f0) M, BxA (w.heap.size + 1) #[.int .i64 p.n, .slice ap p.es.length cp, .slice pp p.i.length qp, .slice rp p.o.length sp] 25, BxA w.heap.size #[.int .i64 g.n, .slice ag g.es.length cg, .slice pg g.i.length qg, .slice rg g.o.length sg] 25, KeepA w])
      case first =>
        have XA0 := Lib.hid (HBM.out _ _ HSA.out (by simp) (by simp))
        refine AnyL.start (fun W1 => (W1.cell? ⟨w.heap.size, 0, none⟩ = some (.int .i64 g.n) ∧ W1.cell? ⟨w.heap.size, 1, none⟩ = some (.slice ag g.es.length cg) ∧ W1.cell? ⟨w.heap.size, 2, none⟩ = some (.slice pg g.i.length qg) ∧ W1.cell? ⟨w.heap.size, 3, none⟩ = some (.slice rg g.o.length sg)) ∧ (W1.cell? ⟨w.heap.size + 1, 0, none⟩ = some (.int .i64 p.n) ∧ W1.cell? ⟨w.heap.size + 1, 1, none⟩ = some (.slice ap p.es.length cp) ∧ W1.cell? ⟨w.heap.size + 1, 2, none⟩ = some (.slice pp p.i.length qp) ∧ W1.cell? ⟨w.heap.size + 1, 3, none⟩ = some (.slice rp p.o.length sp))) (fun _ => True) 99 (by kernel_rfl) ?_
        refine AnyL.take (i := 0) (v := ?vx1) (by rfl) (by kernel_rfl) (by kernel_rfl) (by kernel_rfl) rfl (by exact fun _ _ _ h => h) (by rfl) ?hyx1 (by exact ⟨XA0.out, fun _ => trivial⟩) ?restx1
        case hyx1 => intro W hSW; (try dsimp only at hSW); first | (go_simp; done) | (go_simp; with_reducible rfl)
        try simp only [Act.put, List.setIfInBounds_toArray, List.set_cons_zero, List.set_cons_succ]
        refine AnyL.take (i := 2) (v := ?vx2) (by rfl) (by kernel_rfl) (by kernel_rfl) (by kernel_rfl) rfl (by exact fun _ _ _ h => h) (by rfl) ?hyx2 (by exact ⟨XA0.out, fun _ => trivial⟩) ?restx2
        case hyx2 => intro W hSW; (try dsimp only at hSW); first | (go_simp; done) | (go_simp; with_reducible rfl)
        try simp only [Act.put, List.setIfInBounds_toArray, List.set_cons_zero, List.set_cons_succ]
        refine AnyL.two (i := 1) (j := 8) (by kernel_rfl) (by rfl) (by rfl) (fun K hK => ?_) (fun K hK => ?_)
        · go_simp
          go_at_call 9
          with_reducible refine (HTG.out _ HKA.out).mono ?_
          rintro e wac ⟨aA, cA, pA, qA, rA, sA, xsA, rfl, hxs, hsg⟩
          have HXA := Lib.hid hxs
          have hs := HSA.out.graft1 hsg OX3_own
          have HSac := Lib.hid hs
          have HKac := Lib.hid (show w.grownBy _ none from hs.tl.tl.tl.hd)
          clear hsg hs hxs
          refine hK.out _ _ (by exact HBM.out _ _ HSac.out (by simp) (by simp)) (by exact fun _ => trivial) ?_
          clear hK K
          try simp only [Act.put, List.setIfInBounds_toArray, List.set_cons_zero, List.set_cons_succ]
          refine AnyL.two (i := 3) (j := 8) (by kernel_rfl) (by rfl) (by rfl) (fun K hK => ?_) (fun K hK => ?_)
          · go_simp
            go_at_call 9
            with_reducible refine (HTP.out _ HKac.out).mono ?_
            rintro e wacc ⟨aB, cB, pB, qB, rB, sB, xsB, rfl, hxs, hsg⟩
            have HXB := Lib.hid hxs
            have hs := HSac.out.graft1 hsg OX3_own
            have HSacc := Lib.hid hs
            have HKacc := Lib.hid (show w.grownBy _ none from hs.tl.tl.tl.tl.hd)
            clear hsg hs hxs
            refine hK.out _ _ (by exact HBM.out _ _ HSacc.out (by simp) (by simp)) (by exact fun _ => trivial) ?_
            clear hK K
            try simp only [Act.put, List.setIfInBounds_toArray, List.set_cons_zero, List.set_cons_succ]
            refine AnyL.two (i := 4) (j := 8) (by kernel_rfl) (by rfl) (by rfl) (fun K hK => ?_) (fun K hK => ?_)
            · go_simp
              have HCC := Lib.hid (HSP.out _ _ _ _ _ _ _ (OX3.read HSacc.out.tl.hd HXA.out) (OX3.read HSacc.out.hd HXB.out))
              go_at_call 14
              with_reducible refine HCC.out.mono ?_
              rintro e waccc ⟨a0, c0, d0, f0, rfl, hsg⟩
              have hs := Sep.cutA (X := [_]) (A := [_]) (Sep.cutA (X := [_, _]) (A := [_]) (HSacc.out.graft1 hsg OM1_own))
              have HSaccc := Lib.hid hs
              have HKaccc := Lib.hid (show w.grownBy _ none from hs.tl.tl.tl.hd)
              clear hsg hs
              refine hK.out _ _ (by exact HBM.out _ _ HSaccc.out (by simp) (by simp)) (by exact fun _ => trivial) ?_
              clear hK K
              try simp only [Act.put, List.setIfInBounds_toArray, List.set_cons_zero, List.set_cons_succ]
              refine AnyL.take (i := 5) (v := ?vx3) (by rfl) (by kernel_rfl) (by kernel_rfl) (by kernel_rfl) rfl (by exact fun _ _ _ h => h) (by rfl) ?hyx3 (by exact ⟨HBM.out _ _ HSaccc.out (by simp) (by simp), fun _ => trivial⟩) ?restx3
              case hyx3 => intro W hSW; (try dsimp only at hSW); first | (go_simp; done) | (go_simp; with_reducible rfl)
              try simp only [Act.put, List.setIfInBounds_toArray, List.set_cons_zero, List.set_cons_succ]
              refine AnyL.take (i := 6) (v := ?vx4) (by rfl) (by kernel_rfl) (by kernel_rfl) (by kernel_rfl) rfl (by exact fun _ _ _ h => h) (by rfl) ?hyx4 (by exact ⟨HBM.out _ _ HSaccc.out (by simp) (by simp), fun _ => trivial⟩) ?restx4
              case hyx4 => intro W hSW; (try dsimp only at hSW); first | (go_simp; done) | (go_simp; with_reducible rfl)
              try simp only [Act.put, List.setIfInBounds_toArray, List.set_cons_zero, List.set_cons_succ]
              refine AnyL.take (i := 7) (v := ?vx5) (by rfl) (by kernel_rfl) (by kernel_rfl) (by kernel_rfl) rfl (by exact fun _ _ _ h => h) (by rfl) ?hyx5 (by exact ⟨HBM.out _ _ HSaccc.out (by simp) (by simp), fun _ => trivial⟩) ?restx5
              case hyx5 => intro W hSW; (try dsimp only at hSW); first | (go_simp; done) | (go_simp; with_reducible rfl)
              try simp only [Act.put, List.setIfInBounds_toArray, List.set_cons_zero, List.set_cons_succ]
              refine AnyL.step (i := 8) (by kernel_rfl) (by rfl) (fun K hK => ?_)
              go_simp
              have HSacccz := Lib.hid (HSaccc.out.boxAt (waccc.heap.size) (by rfl) #[.slice none 0 0, .slice none 0 0] 37)
              refine hK.out _ (waccc.alloc (.cells #[.slice none 0 0, .slice none 0 0] 37)) (by exact HBM.out _ _ HSacccz.out (by simp) (by simp)) (by exact fun _ => trivial) ?_
              clear hK K
              try simp only [Act.put, List.setIfInBounds_toArray, List.set_cons_zero, List.set_cons_succ]
              generalize waccc.alloc (.cells #[.slice none 0 0, .slice none 0 0] 37) = wacccz at *
              generalize waccc.heap.size = nb at *
              have HKacccz := Lib.hid (show w.grownBy _ none from HSacccz.out.tl.tl.tl.tl.hd)
              have h8 := HSacccz.out
              obtain ⟨k0, k1⟩ := bq2 h8.hd
              obtain ⟨j0, j1⟩ := bf2 h8.hd
              have h9 := h8.setB 0 (.slice a0 M.W.length c0)
              obtain ⟨y0, y1⟩ := bq2 (x := .slice a0 M.W.length c0) (y := .slice none 0 0) (t := 37) h9.hd
              obtain ⟨i0, i1⟩ := bf2 (x := .slice a0 M.W.length c0) (y := .slice none 0 0) (t := 37) h9.hd
              have HZ9 := Lib.hid (h9.setB 1 (.slice d0 M.E.length f0))
              clear h8 h9
              refine AnyL.step (i := 9) (by kernel_rfl) (by rfl) (fun K hK => ?_)
              go_simp
              refine hK.out _ ((wacccz.setCell ⟨nb, 0, none⟩ (.slice a0 M.W.length c0)).setCell ⟨nb, 1, none⟩ (.slice d0 M.E.length f0)) (by exact HBM.out _ _ HZ9.out (by simp) (by simp)) (by exact fun _ => trivial) ?_
              clear hK K
              try simp only [Act.put, List.setIfInBounds_toArray, List.set_cons_zero, List.set_cons_succ]
              refine AnyL.take (i := 10) (v := ?vx10) (by rfl) (by kernel_rfl) (by kernel_rfl) (by kernel_rfl) rfl (by exact fun _ _ _ h => h) (by rfl) ?hyx10 (by exact ⟨HBM.out _ _ HZ9.out (by simp) (by simp), fun _ => trivial⟩) ?restx10
              case hyx10 => intro W hSW; (try dsimp only at hSW); first | (go_simp; done) | (go_simp; with_reducible rfl)
              try simp only [Act.put, List.setIfInBounds_toArray, List.set_cons_zero, List.set_cons_succ]
              refine AnyL.done (by kernel_rfl) ?_ _
              clear k0 k1 j0 j1 y0 y1 i0 i1
              go_wp2_with fail
              go_meet
              exact ⟨nb, a0, d0, c0, f0, rfl, rfl, HZ9.out⟩
            · go_simp
              have HSaccz := Lib.hid (HSacc.out.boxAt (wacc.heap.size) (by rfl) #[.slice none 0 0, .slice none 0 0] 37)
              refine hK.out _ (wacc.alloc (.cells #[.slice none 0 0, .slice none 0 0] 37)) (by exact HBM.out _ _ HSaccz.out (by simp) (by simp)) (by exact fun _ => trivial) ?_
              clear hK K
              try simp only [Act.put, List.setIfInBounds_toArray, List.set_cons_zero, List.set_cons_succ]
              generalize wacc.alloc (.cells #[.slice none 0 0, .slice none 0 0] 37) = waccz at *
              generalize wacc.heap.size = nb at *
              have HKaccz := Lib.hid (show w.grownBy _ none from HSaccz.out.tl.tl.tl.tl.tl.hd)
              refine AnyL.step (i := 4) (by kernel_rfl) (by rfl) (fun K hK => ?_)
              go_simp
              have HCC := Lib.hid (HSP.out _ _ _ _ _ _ _ (OX3.read HSaccz.out.tl.tl.hd HXA.out) (OX3.read HSaccz.out.tl.hd HXB.out))
              go_at_call 14
              with_reducible refine HCC.out.mono ?_
              rintro e wacczc ⟨a0, c0, d0, f0, rfl, hsg⟩
              have hs := Sep.cutA (X := [_, _]) (A := [_]) (Sep.cutA (X := [_, _, _]) (A := [_]) (HSaccz.out.graft1 hsg OM1_own))
              have HSacczc := Lib.hid hs
              have HKacczc := Lib.hid (show w.grownBy _ none from hs.tl.tl.tl.tl.hd)
              clear hsg hs
              refine hK.out _ _ (by exact HBM.out _ _ HSacczc.out (by simp) (by simp)) (by exact fun _ => trivial) ?_
              clear hK K
              try simp only [Act.put, List.setIfInBounds_toArray, List.set_cons_zero, List.set_cons_succ]
              refine AnyL.take (i := 5) (v := ?vx11) (by rfl) (by kernel_rfl) (by kernel_rfl) (by kernel_rfl) rfl (by exact fun _ _ _ h => h) (by rfl) ?hyx11 (by exact ⟨HBM.out _ _ HSacczc.out (by simp) (by simp), fun _ => trivial⟩) ?restx11
              case hyx11 => intro W hSW; (try dsimp only at hSW); first | (go_simp; done) | (go_simp; with_reducible rfl)
              try simp only [Act.put, List.setIfInBounds_toArray, List.set_cons_zero, List.set_cons_succ]
              refine AnyL.take (i := 6) (v := ?vx12) (by rfl) (by kernel_rfl) (by kernel_rfl) (by kernel_rfl) rfl (by exact fun _ _ _ h => h) (by rfl) ?hyx12 (by exact ⟨HBM.out _ _ HSacczc.out (by simp) (by simp), fun _ => trivial⟩) ?restx12
              case hyx12 => intro W hSW; (try dsimp only at hSW); first | (go_simp; done) | (go_simp; with_reducible rfl)
              try simp only [Act.put, List.setIfInBounds_toArray, List.set_cons_zero, List.set_cons_succ]
              refine AnyL.take (i := 7) (v := ?vx13) (by rfl) (by kernel_rfl) (by kernel_rfl) (by kernel_rfl) rfl (by exact fun _ _ _ h => h) (by rfl) ?hyx13 (by exact ⟨HBM.out _ _ HSacczc.out (by simp) (by simp), fun _ => trivial⟩) ?restx13
              case hyx13 => intro W hSW; (try dsimp only at hSW); first | (go_simp; done) | (go_simp; with_reducible rfl)
              try simp only [Act.put, List.setIfInBounds_toArray, List.set_cons_zero, List.set_cons_succ]
              have h8 := Sep.blk (A := [_]) (B := [_]) (HSacczc.out)
              obtain ⟨k0, k1⟩ := bq2 h8.hd
              obtain ⟨j0, j1⟩ := bf2 h8.hd
              have h9 := h8.setB 0 (.slice a0 M.W.length c0)
              obtain ⟨y0, y1⟩ := bq2 (x := .slice a0 M.W.length c0) (y := .slice none 0 0) (t := 37) h9.hd
              obtain ⟨i0, i1⟩ := bf2 (x := .slice a0 M.W.length c0) (y := .slice none 0 0) (t := 37) h9.hd
              have HZ9 := Lib.hid (h9.setB 1 (.slice d0 M.E.length f0))
              clear h8 h9
              refine AnyL.step (i := 9) (by kernel_rfl) (by rfl) (fun K hK => ?_)
              go_simp
              refine hK.out _ ((wacczc.setCell ⟨nb, 0, none⟩ (.slice a0 M.W.length c0)).setCell ⟨nb, 1, none⟩ (.slice d0 M.E.length f0)) (by exact HBM.out _ _ HZ9.out (by simp) (by simp)) (by exact fun _ => trivial) ?_
              clear hK K
              try simp only [Act.put, List.setIfInBounds_toArray, List.set_cons_zero, List.set_cons_succ]
              refine AnyL.take (i := 10) (v := ?vx14) (by rfl) (by kernel_rfl) (by kernel_rfl) (by kernel_rfl) rfl (by exact fun _ _ _ h => h) (by rfl) ?hyx14 (by exact ⟨HBM.out _ _ HZ9.out (by simp) (by simp), fun _ => trivial⟩) ?restx14
              case hyx14 => intro W hSW; (try dsimp only at hSW); first | (go_simp; done) | (go_simp; with_reducible rfl)
              try simp only [Act.put, List.setIfInBounds_toArray, List.set_cons_zero, List.set_cons_succ]
              refine AnyL.done (by kernel_rfl) ?_ _
              clear k0 k1 j0 j1 y0 y1 i0 i1
              go_wp2_with fail
              go_meet
              exact ⟨nb, a0, d0, c0, f0, rfl, rfl, HZ9.out⟩
          · go_simp
            have HSacz := Lib.hid (HSac.out.boxAt (wac.heap.size) (by rfl) #[.slice none 0 0, .slice none 0 0] 37)
            refine hK.out _ (wac.alloc (.cells #[.slice none 0 0, .slice none 0 0] 37)) (by exact HBM.out _ _ HSacz.out (by simp) (by simp)) (by exact fun _ => trivial) ?_
            clear hK K
            try simp only [Act.put, List.setIfInBounds_toArray, List.set_cons_zero, List.set_cons_succ]
            generalize wac.alloc (.cells #[.slice none 0 0, .slice none 0 0] 37) = wacz at *
            generalize wac.heap.size = nb at *
            have HKacz := Lib.hid (show w.grownBy _ none from HSacz.out.tl.tl.tl.tl.hd)
            refine AnyL.step (i := 3) (by kernel_rfl) (by rfl) (fun K hK => ?_)
            go_simp
            go_at_call 9
            with_reducible refine (HTP.out _ HKacz.out).mono ?_
            rintro e waczc ⟨aB, cB, pB, qB, rB, sB, xsB, rfl, hxs, hsg⟩
            have HXB := Lib.hid hxs
            have hs := HSacz.out.graft1 hsg OX3_own
            have HSaczc := Lib.hid hs
            have HKaczc := Lib.hid (show w.grownBy _ none from hs.tl.tl.tl.tl.tl.hd)
            clear hsg hs hxs
            refine hK.out _ _ (by exact HBM.out _ _ HSaczc.out (by simp) (by simp)) (by exact fun _ => trivial) ?_
            clear hK K
            try simp only [Act.put, List.setIfInBounds_toArray, List.set_cons_zero, List.set_cons_succ]
            refine AnyL.step (i := 4) (by kernel_rfl) (by rfl) (fun K hK => ?_)
            go_simp
            have HCC := Lib.hid (HSP.out _ _ _ _ _ _ _ (OX3.read HSaczc.out.tl.tl.hd HXA.out) (OX3.read HSaczc.out.hd HXB.out))
            go_at_call 14
            with_reducible refine HCC.out.mono ?_
            rintro e waczcc ⟨a0, c0, d0, f0, rfl, hsg⟩
            have hs := Sep.cutA (X := [_]) (A := [_]) (Sep.cutA (X := [_, _, _]) (A := [_]) (HSaczc.out.graft1 hsg OM1_own))
            have HSaczcc := Lib.hid hs
            have HKaczcc := Lib.hid (show w.grownBy _ none from hs.tl.tl.tl.tl.hd)
            clear hsg hs
            refine hK.out _ _ (by exact HBM.out _ _ HSaczcc.out (by simp) (by simp)) (by exact fun _ => trivial) ?_
            clear hK K
            try simp only [Act.put, List.setIfInBounds_toArray, List.set_cons_zero, List.set_cons_succ]
            refine AnyL.take (i := 5) (v := ?vx15) (by rfl) (by kernel_rfl) (by kernel_rfl) (by kernel_rfl) rfl (by exact fun _ _ _ h => h) (by rfl) ?hyx15 (by exact ⟨HBM.out _ _ HSaczcc.out (by simp) (by simp), fun _ => trivial⟩) ?restx15
            case hyx15 => intro W hSW; (try dsimp only at hSW); first | (go_simp; done) | (go_simp; with_reducible rfl)
            try simp only [Act.put, List.setIfInBounds_toArray, List.set_cons_zero, List.set_cons_succ]
            refine AnyL.take (i := 6) (v := ?vx16) (by rfl) (by kernel_rfl) (by kernel_rfl) (by kernel_rfl) rfl (by exact fun _ _ _ h => h) (by rfl) ?hyx16 (by exact ⟨HBM.out _ _ HSaczcc.out (by simp) (by simp), fun _ => trivial⟩) ?restx16
            case hyx16 => intro W hSW; (try dsimp only at hSW); first | (go_simp; done) | (go_simp; with_reducible rfl)
            try simp only [Act.put, List.setIfInBounds_toArray, List.set_cons_zero, List.set_cons_succ]
            refine AnyL.take (i := 7) (v := ?vx17) (by rfl) (by kernel_rfl) (by kernel_rfl) (by kernel_rfl) rfl (by exact fun _ _ _ h => h) (by rfl) ?hyx17 (by exact ⟨HBM.out _ _ HSaczcc.out (by simp) (by simp), fun _ => trivial⟩) ?restx17
            case hyx17 => intro W hSW; (try dsimp only at hSW); first | (go_simp; done) | (go_simp; with_reducible rfl)
            try simp only [Act.put, List.setIfInBounds_toArray, List.set_cons_zero, List.set_cons_succ]
            have h8 := Sep.blk (A := [_]) (B := [_]) (HSaczcc.out)
            obtain ⟨k0, k1⟩ := bq2 h8.hd
            obtain ⟨j0, j1⟩ := bf2 h8.hd
            have h9 := h8.setB 0 (.slice a0 M.W.length c0)
            obtain ⟨y0, y1⟩ := bq2 (x := .slice a0 M.W.length c0) (y := .slice none 0 0) (t := 37) h9.hd
            obtain ⟨i0, i1⟩ := bf2 (x := .slice a0 M.W.length c0) (y := .slice none 0 0) (t := 37) h9.hd
            have HZ9 := Lib.hid (h9.setB 1 (.slice d0 M.E.length f0))
            clear h8 h9
            refine AnyL.step (i := 9) (by kernel_rfl) (by rfl) (fun K hK => ?_)
            go_simp
            refine hK.out _ ((waczcc.setCell ⟨nb, 0, none⟩ (.slice a0 M.W.length c0)).setCell ⟨nb, 1, none⟩ (.slice d0 M.E.length f0)) (by exact HBM.out _ _ HZ9.out (by simp) (by simp)) (by exact fun _ => trivial) ?_
            clear hK K
            try simp only [Act.put, List.setIfInBounds_toArray, List.set_cons_zero, List.set_cons_succ]
            refine AnyL.take (i := 10) (v := ?vx18) (by rfl) (by kernel_rfl) (by kernel_rfl) (by kernel_rfl) rfl (by exact fun _ _ _ h => h) (by rfl) ?hyx18 (by exact ⟨HBM.out _ _ HZ9.out (by simp) (by simp), fun _ => trivial⟩) ?restx18
            case hyx18 => intro W hSW; (try dsimp only at hSW); first | (go_simp; done) | (go_simp; with_reducible rfl)
            try simp only [Act.put, List.setIfInBounds_toArray, List.set_cons_zero, List.set_cons_succ]
            refine AnyL.done (by kernel_rfl) ?_ _
            clear k0 k1 j0 j1 y0 y1 i0 i1
            go_wp2_with fail
            go_meet
            exact ⟨nb, a0, d0, c0, f0, rfl, rfl, HZ9.out⟩
        · go_simp
          have HSaz := Lib.hid (HSA.out.boxAt (w3.heap.size) (by rfl) #[.slice none 0 0, .slice none 0 0] 37)
          refine hK.out _ (w3.drew.alloc (.cells #[.slice none 0 0, .slice none 0 0] 37)) (by exact HBM.out _ _ HSaz.out (by simp) (by simp)) (by exact fun _ => trivial) ?_
          clear hK K
          try simp only [Act.put, List.setIfInBounds_toArray, List.set_cons_zero, List.set_cons_succ]
          generalize w3.drew.alloc (.cells #[.slice none 0 0, .slice none 0 0] 37) = waz at *
          generalize w3.heap.size = nb at *
          have HKaz := Lib.hid (show w.grownBy _ none from HSaz.out.tl.tl.tl.hd)
          refine AnyL.step (i := 1) (by kernel_rfl) (by rfl) (fun K hK => ?_)
          go_simp
          go_at_call 9
          with_reducible refine (HTG.out _ HKaz.out).mono ?_
          rintro e wazc ⟨aA, cA, pA, qA, rA, sA, xsA, rfl, hxs, hsg⟩
          have HXA := Lib.hid hxs
          have hs := HSaz.out.graft1 hsg OX3_own
          have HSazc := Lib.hid hs
          have HKazc := Lib.hid (show w.grownBy _ none from hs.tl.tl.tl.tl.hd)
          clear hsg hs hxs
          refine hK.out _ _ (by exact HBM.out _ _ HSazc.out (by simp) (by simp)) (by exact fun _ => trivial) ?_
          clear hK K
          try simp only [Act.put, List.setIfInBounds_toArray, List.set_cons_zero, List.set_cons_succ]
          refine AnyL.step (i := 3) (by kernel_rfl) (by rfl) (fun K hK => ?_)
          go_simp
          go_at_call 9
          with_reducible refine (HTP.out _ HKazc.out).mono ?_
          rintro e wazcc ⟨aB, cB, pB, qB, rB, sB, xsB, rfl, hxs, hsg⟩
          have HXB := Lib.hid hxs
          have hs := HSazc.out.graft1 hsg OX3_own
          have HSazcc := Lib.hid hs
          have HKazcc := Lib.hid (show w.grownBy _ none from hs.tl.tl.tl.tl.tl.hd)
          clear hsg hs hxs
          refine hK.out _ _ (by exact HBM.out _ _ HSazcc.out (by simp) (by simp)) (by exact fun _ => trivial) ?_
          clear hK K
          try simp only [Act.put, List.setIfInBounds_toArray, List.set_cons_zero, List.set_cons_succ]
          refine AnyL.step (i := 4) (by kernel_rfl) (by rfl) (fun K hK => ?_)
          go_simp
          have HCC := Lib.hid (HSP.out _ _ _ _ _ _ _ (OX3.read HSazcc.out.tl.hd HXA.out) (OX3.read HSazcc.out.hd HXB.out))
          go_at_call 14
          with_reducible refine HCC.out.mono ?_
          rintro e wazccc ⟨a0, c0, d0, f0, rfl, hsg⟩
          have hs := Sep.cutA (X := [_]) (A := [_]) (Sep.cutA (X := [_, _]) (A := [_]) (HSazcc.out.graft1 hsg OM1_own))
          have HSazccc := Lib.hid hs
          have HKazccc := Lib.hid (show w.grownBy _ none from hs.tl.tl.tl.tl.hd)
          clear hsg hs
          refine hK.out _ _ (by exact HBM.out _ _ HSazccc.out (by simp) (by simp)) (by exact fun _ => trivial) ?_
          clear hK K
          try simp only [Act.put, List.setIfInBounds_toArray, List.set_cons_zero, List.set_cons_succ]
          refine AnyL.take (i := 5) (v := ?vx19) (by rfl) (by kernel_rfl) (by kernel_rfl) (by kernel_rfl) rfl (by exact fun _ _ _ h => h) (by rfl) ?hyx19 (by exact ⟨HBM.out _ _ HSazccc.out (by simp) (by simp), fun _ => trivial⟩) ?restx19
          case hyx19 => intro W hSW; (try dsimp only at hSW); first | (go_simp; done) | (go_simp; with_reducible rfl)
          try simp only [Act.put, List.setIfInBounds_toArray, List.set_cons_zero, List.set_cons_succ]
          refine AnyL.take (i := 6) (v := ?vx20) (by rfl) (by kernel_rfl) (by kernel_rfl) (by kernel_rfl) rfl (by exact fun _ _ _ h => h) (by rfl) ?hyx20 (by exact ⟨HBM.out _ _ HSazccc.out (by simp) (by simp), fun _ => trivial⟩) ?restx20
          case hyx20 => intro W hSW; (try dsimp only at hSW); first | (go_simp; done) | (go_simp; with_reducible rfl)
          try simp only [Act.put, List.setIfInBounds_toArray, List.set_cons_zero, List.set_cons_succ]
          refine AnyL.take (i := 7) (v := ?vx21) (by rfl) (by kernel_rfl) (by kernel_rfl) (by kernel_rfl) rfl (by exact fun _ _ _ h => h) (by rfl) ?hyx21 (by exact ⟨HBM.out _ _ HSazccc.out (by simp) (by simp), fun _ => trivial⟩) ?restx21
          case hyx21 => intro W hSW; (try dsimp only at hSW); first | (go_simp; done) | (go_simp; with_reducible rfl)
          try simp only [Act.put, List.setIfInBounds_toArray, List.set_cons_zero, List.set_cons_succ]
          have h8 := Sep.blk (A := [_]) (B := [_]) (HSazccc.out)
          obtain ⟨k0, k1⟩ := bq2 h8.hd
          obtain ⟨j0, j1⟩ := bf2 h8.hd
          have h9 := h8.setB 0 (.slice a0 M.W.length c0)
          obtain ⟨y0, y1⟩ := bq2 (x := .slice a0 M.W.length c0) (y := .slice none 0 0) (t := 37) h9.hd
          obtain ⟨i0, i1⟩ := bf2 (x := .slice a0 M.W.length c0) (y := .slice none 0 0) (t := 37) h9.hd
          have HZ9 := Lib.hid (h9.setB 1 (.slice d0 M.E.length f0))
          clear h8 h9
          refine AnyL.step (i := 9) (by kernel_rfl) (by rfl) (fun K hK => ?_)
          go_simp
          refine hK.out _ ((wazccc.setCell ⟨nb, 0, none⟩ (.slice a0 M.W.length c0)).setCell ⟨nb, 1, none⟩ (.slice d0 M.E.length f0)) (by exact HBM.out _ _ HZ9.out (by simp) (by simp)) (by exact fun _ => trivial) ?_
          clear hK K
          try simp only [Act.put, List.setIfInBounds_toArray, List.set_cons_zero, List.set_cons_succ]
          refine AnyL.take (i := 10) (v := ?vx22) (by rfl) (by kernel_rfl) (by kernel_rfl) (by kernel_rfl) rfl (by exact fun _ _ _ h => h) (by rfl) ?hyx22 (by exact ⟨HBM.out _ _ HZ9.out (by simp) (by simp), fun _ => trivial⟩) ?restx22
          case hyx22 => intro W hSW; (try dsimp only at hSW); first | (go_simp; done) | (go_simp; with_reducible rfl)
          try simp only [Act.put, List.setIfInBounds_toArray, List.set_cons_zero, List.set_cons_succ]
          refine AnyL.done (by kernel_rfl) ?_ _
          clear k0 k1 j0 j1 y0 y1 i0 i1
          go_wp2_with fail
          go_meet
          exact ⟨nb, a0, d0, c0, f0, rfl, rfl, HZ9.out⟩
      case rest =>
        obtain ⟨nb0, a0, d0, c0, f0, rfl, rfl, hs6⟩ := hcut
        have HS6 := Lib.hid hs6
        have HK6 := Lib.hid (show w.grownBy _ none from hs6.tl.tl.tl.tl.hd)
        clear HS2 HS3 HS0 HK0 HK2 HK3 HSA HKA HZ1 HZ2 HSP hs6
        obtain ⟨x0, x1, x2, x3, _⟩ := bq4 HS6.out.tl.tl.hd
        obtain ⟨y0, y1, y2, y3, _⟩ := bq4 HS6.out.tl.tl.tl.hd
        go_upto_region 14 with (first
          | (go_at_call 9
             with_reducible refine (HTG.out _ HK6.out).mono ?_
             rintro e w7 ⟨aC, cC, pC, qC, rC, sC, xsC, rfl, hxs, hsg⟩
             have HXC := Lib.hid hxs
             have hs := HS6.out.graft1 hsg OX3_own
             have hs := hs.box #[.int .i64 g.n, .slice aC g.es.length cC, .slice pC g.i.length qC, .slice rC g.o.length sC] 29
             clear x0 x1 x2 x3 y0 y1 y2 y3
             obtain ⟨x0, x1, x2, x3, _⟩ := bq4 hs.tl.tl.tl.tl.hd
             obtain ⟨z0, z1, z2, z3, _⟩ := bq4 hs.hd
             have HS7 := Lib.hid hs
             have HK7 := Lib.hid (show w.grownBy _ none from hs.tl.tl.tl.tl.tl.tl.hd)
             clear hsg hs hxs)
          | (go_at_call 9
             with_reducible refine (HTP.out _ HK7.out).mono ?_
             rintro e w8 ⟨aD, cD, pD, qD, rD, sD, xsD, rfl, hxs, hsg⟩
             have HXD := Lib.hid hxs
             have hs := HS7.out.graft1 hsg OX3_own
             have hs := hs.box #[.int .i64 p.n, .slice aD p.es.length cD, .slice pD p.i.length qD, .slice rD p.o.length sD] 29
             clear x0 x1 x2 x3 z0 z1 z2 z3
             obtain ⟨x0, x1, x2, x3, _⟩ := bq4 hs.tl.tl.hd
             obtain ⟨y0, y1, y2, y3, _⟩ := bq4 hs.hd
             have HIM8 := Lib.hid (HIM.out _ _ _ _ _ _ _ (OX3.read hs.tl.tl.tl.hd HXC.out) (OX3.read hs.tl.hd hxs))
             have HS8 := Lib.hid hs
             clear hsg hs hxs)
          | (go_at_call 15
             with_reducible refine HIM8.out.mono ?_
             rintro e w9 ⟨a1, c1, d1, f1, rfl, hsg⟩
             have hs := (HS8.out.graft1 hsg OM1_own).box #[.slice a1 M.W.length c1, .slice d1 M.E.length f1] 37
             clear x0 x1 x2 x3 y0 y1 y2 y3
             obtain ⟨t0, t1⟩ := bq2 hs.hd
             obtain ⟨v0, v1⟩ := bq2 hs.tl.tl.tl.tl.tl.tl.hd
             have HEQ9 := Lib.hid (HEQ.out _ _ _ _ _ (OM1.read hs.tl.hd) (OM1.read hs.tl.tl.tl.tl.tl.tl.tl.hd))
             have HS9 := Lib.hid hs
             clear hsg hs)
          | (go_at_call 16
             with_reducible refine HEQ9.out.mono ?_
             rintro e w10 ⟨rfl, hg⟩
             have HS10 := Lib.hid (HS9.out.grown hg)
             clear hg t0 t1 v0 v1))
        clear HS7 HS8 HS9 HEQ9 HIM8
        have HSEa := Lib.hid HS10.out.dr
        have HKEa := Lib.hid (show w.grownBy _ none from HSEa.out.tl.tl.tl.tl.tl.tl.tl.tl.tl.tl.hd)
        have HBEa := Lib.hid fun (W1 : World) (L : List Asrt) (h : Sep W1 L) (hG : BxA w7.heap.size #[.int .i64 g.n, .slice aC g.es.length cC, .slice pC g.i.length qC, .slice rC g.o.length sC] 29 ∈ L) (hP : BxA (w.heap.size) #[.int .i64 g.n, .slice ag g.es.length cg, .slice pg g.i.length qg, .slice rg g.o.length sg] 25 ∈ L) => show (W1.cell? ⟨w7.heap.size, 0, none⟩ = some (.int .i64 g.n) ∧ W1.cell? ⟨w7.heap.size, 1, none⟩ = some (.slice aC g.es.length cC) ∧ W1.cell? ⟨w7.heap.size, 2, none⟩ = some (.slice pC g.i.length qC) ∧ W1.cell? ⟨w7.heap.size, 3, none⟩ = some (.slice rC g.o.length sC)) ∧ (W1.cell? ⟨w.heap.size, 0, none⟩ = some (.int .i64 g.n) ∧ W1.cell? ⟨w.heap.size, 1, none⟩ = some (.slice ag g.es.length cg) ∧ W1.cell? ⟨w.heap.size, 2, none⟩ = some (.slice pg g.i.length qg) ∧ W1.cell? ⟨w.heap.size, 3, none⟩ = some (.slice rg g.o.length sg)) from
          have q := bq4 (show W1.heap[w7.heap.size]? = some (.cells #[.int .i64 g.n, .slice aC g.es.length cC, .slice pC g.i.length qC, .slice rC g.o.length sC] 29 (0, 0)) from Sep.all h _ hG)
          have q2 := bq4 (show W1.heap[w.heap.size]? = some (.cells #[.int .i64 g.n, .slice ag g.es.length cg, .slice pg g.i.length qg, .slice rg g.o.length sg] 25 (0, 0)) from Sep.all h _ hP)
          ⟨⟨q.1, q.2.1, q.2.2.1, q.2.2.2.1⟩, ⟨q2.1, q2.2.1, q2.2.2.1, q2.2.2.2.1⟩⟩
        have XEa := Lib.hid (HBEa.out _ _ HSEa.out (by simp) (by simp))
        refine AnyL.start (fun W1 => (W1.cell? ⟨w7.heap.size, 0, none⟩ = some (.int .i64 g.n) ∧ W1.cell? ⟨w7.heap.size, 1, none⟩ = some (.slice aC g.es.length cC) ∧ W1.cell? ⟨w7.heap.size, 2, none⟩ = some (.slice pC g.i.length qC) ∧ W1.cell? ⟨w7.heap.size, 3, none⟩ = some (.slice rC g.o.length sC)) ∧ (W1.cell? ⟨w.heap.size, 0, none⟩ = some (.int .i64 g.n) ∧ W1.cell? ⟨w.heap.size, 1, none⟩ = some (.slice ag g.es.length cg) ∧ W1.cell? ⟨w.heap.size, 2, none⟩ = some (.slice pg g.i.length qg) ∧ W1.cell? ⟨w.heap.size, 3, none⟩ = some (.slice rg g.o.length sg))) (fun _ => True) 99 (by kernel_rfl) ?_
        refine AnyL.take (i := 0) (v := ?vx23) (by rfl) (by kernel_rfl) (by kernel_rfl) (by kernel_rfl) rfl (by exact fun _ _ _ h => h) (by rfl) ?hyx23 (by exact ⟨XEa.out, fun _ => trivial⟩) ?restx23
        case hyx23 => intro W hSW; (try dsimp only at hSW); first | (go_simp; done) | (go_simp; with_reducible rfl)
        try simp only [Act.put, List.setIfInBounds_toArray, List.set_cons_zero, List.set_cons_succ]
        refine AnyL.take (i := 1) (v := ?vx24) (by rfl) (by kernel_rfl) (by kernel_rfl) (by kernel_rfl) rfl (by exact fun _ _ _ h => h) (by rfl) ?hyx24 (by exact ⟨XEa.out, fun _ => trivial⟩) ?restx24
        case hyx24 => intro W hSW; (try dsimp only at hSW); first | (go_simp; done) | (go_simp; with_reducible rfl)
        try simp only [Act.put, List.setIfInBounds_toArray, List.set_cons_zero, List.set_cons_succ]
        refine AnyL.step (i := 2) (by kernel_rfl) (by rfl) (fun K hK => ?_)
        go_simp
        go_at_call 9
        with_reducible refine (HTG.out _ HKEa.out).mono ?_
        rintro e w11 ⟨aE, cE, pE, qE, rE, sE, xsE, rfl, hxs, hsg⟩
        have HXE := Lib.hid hxs
        have hs := HSEa.out.graft1 hsg OX3_own
        have HQEa := Lib.hid (HEG.out _ _ _ _ _ _ _ (OX3.read hs.tl.tl.tl.tl.tl.tl.hd HXC.out) (OX3.read hs.hd hxs))
        have HSFa := Lib.hid hs
        clear hsg hs hxs
        refine hK.out _ _ (by exact HBEa.out _ _ HSFa.out (by simp) (by simp)) (by exact fun _ => trivial) ?_
        clear hK K
        try simp only [Act.put, List.setIfInBounds_toArray, List.set_cons_zero, List.set_cons_succ]
        refine AnyL.step (i := 3) (by kernel_rfl) (by rfl) (fun K hK => ?_)
        go_simp
        go_at_call 11
        with_reducible refine HQEa.out.mono ?_
        rintro e w12 ⟨rfl, hg⟩
        have hs := (HSFa.out.grown hg).tl
        have HS12 := Lib.hid hs
        clear hg hs
        refine hK.out _ _ (by exact HBEa.out _ _ HS12.out (by simp) (by simp)) (by exact fun _ => trivial) ?_
        clear hK K
        try simp only [Act.put, List.setIfInBounds_toArray, List.set_cons_zero, List.set_cons_succ]
        refine AnyL.take (i := 4) (v := ?vx25) (by rfl) (by kernel_rfl) (by kernel_rfl) (by kernel_rfl) rfl (by exact fun _ _ _ h => h) (by rfl) ?hyx25 (by exact ⟨HBEa.out _ _ HS12.out (by simp) (by simp), fun _ => trivial⟩) ?restx25
        case hyx25 => intro W hSW; (try dsimp only at hSW); first | (go_simp; done) | (go_simp; with_reducible rfl)
        try simp only [Act.put, List.setIfInBounds_toArray, List.set_cons_zero, List.set_cons_succ]
        refine AnyL.done (by kernel_rfl) ?_ _
        clear HSEa HSFa XEa HBEa HQEa
        go_upto_region 16 with fail
        have HSEb := Lib.hid HS12.out.dr
        have HKEb := Lib.hid (show w.grownBy _ none from HSEb.out.tl.tl.tl.tl.tl.tl.tl.tl.tl.tl.hd)
        have HBEb := Lib.hid fun (W1 : World) (L : List Asrt) (h : Sep W1 L) (hG : BxA w8.heap.size #[.int .i64 p.n, .slice aD p.es.length cD, .slice pD p.i.length qD, .slice rD p.o.length sD] 29 ∈ L) (hP : BxA (w.heap.size + 1) #[.int .i64 p.n, .slice ap p.es.length cp, .slice pp p.i.length qp, .slice rp p.o.length sp] 25 ∈ L) => show (W1.cell? ⟨w8.heap.size, 0, none⟩ = some (.int .i64 p.n) ∧ W1.cell? ⟨w8.heap.size, 1, none⟩ = some (.slice aD p.es.length cD) ∧ W1.cell? ⟨w8.heap.size, 2, none⟩ = some (.slice pD p.i.length qD) ∧ W1.cell? ⟨w8.heap.size, 3, none⟩ = some (.slice rD p.o.length sD)) ∧ (W1.cell? ⟨w.heap.size + 1, 0, none⟩ = some (.int .i64 p.n) ∧ W1.cell? ⟨w.heap.size + 1, 1, none⟩ = some (.slice ap p.es.length cp) ∧ W1.cell? ⟨w.heap.size + 1, 2, none⟩ = some (.slice pp p.i.length qp) ∧ W1.cell? ⟨w.heap.size + 1, 3, none⟩ = some (.slice rp p.o.length sp)) from
          have q := bq4 (show W1.heap[w8.heap.size]? = some (.cells #[.int .i64 p.n, .slice aD p.es.length cD, .slice pD p.i.length qD, .slice rD p.o.length sD] 29 (0, 0)) from Sep.all h _ hG)
          have q2 := bq4 (show W1.heap[w.heap.size + 1]? = some (.cells #[.int .i64 p.n, .slice ap p.es.length cp, .slice pp p.i.length qp, .slice rp p.o.length sp] 25 (0, 0)) from Sep.all h _ hP)
          ⟨⟨q.1, q.2.1, q.2.2.1, q.2.2.2.1⟩, ⟨q2.1, q2.2.1, q2.2.2.1, q2.2.2.2.1⟩⟩
        have XEb := Lib.hid (HBEb.out _ _ HSEb.out (by simp) (by simp))
        refine AnyL.start (fun W1 => (W1.cell? ⟨w8.heap.size, 0, none⟩ = some (.int .i64 p.n) ∧ W1.cell? ⟨w8.heap.size, 1, none⟩ = some (.slice aD p.es.length cD) ∧ W1.cell? ⟨w8.heap.size, 2, none⟩ = some (.slice pD p.i.length qD) ∧ W1.cell? ⟨w8.heap.size, 3, none⟩ = some (.slice rD p.o.length sD)) ∧ (W1.cell? ⟨w.heap.size + 1, 0, none⟩ = some (.int .i64 p.n) ∧ W1.cell? ⟨w.heap.size + 1, 1, none⟩ = some (.slice ap p.es.length cp) ∧ W1.cell? ⟨w.heap.size + 1, 2, none⟩ = some (.slice pp p.i.length qp) ∧ W1.cell? ⟨w.heap.size + 1, 3, none⟩ = some (.slice rp p.o.length sp))) (fun _ => True) 99 (by kernel_rfl) ?_
        refine AnyL.take (i := 0) (v := ?vx26) (by rfl) (by kernel_rfl) (by kernel_rfl) (by kernel_rfl) rfl (by exact fun _ _ _ h => h) (by rfl) ?hyx26 (by exact ⟨XEb.out, fun _ => trivial⟩) ?restx26
        case hyx26 => intro W hSW; (try dsimp only at hSW); first | (go_simp; done) | (go_simp; with_reducible rfl)
        try simp only [Act.put, List.setIfInBounds_toArray, List.set_cons_zero, List.set_cons_succ]
        refine AnyL.take (i := 1) (v := ?vx27) (by rfl) (by kernel_rfl) (by kernel_rfl) (by kernel_rfl) rfl (by exact fun _ _ _ h => h) (by rfl) ?hyx27 (by exact ⟨XEb.out, fun _ => trivial⟩) ?restx27
        case hyx27 => intro W hSW; (try dsimp only at hSW); first | (go_simp; done) | (go_simp; with_reducible rfl)
        try simp only [Act.put, List.setIfInBounds_toArray, List.set_cons_zero, List.set_cons_succ]
        refine AnyL.step (i := 2) (by kernel_rfl) (by rfl) (fun K hK => ?_)
        go_simp
        go_at_call 9
        with_reducible refine (HTP.out _ HKEb.out).mono ?_
        rintro e w13 ⟨aF, cF, pF, qF, rF, sF, xsF, rfl, hxs, hsg⟩
        have HXF := Lib.hid hxs
        have hs := HSEb.out.graft1 hsg OX3_own
        have HQEb := Lib.hid (HEP.out _ _ _ _ _ _ _ (OX3.read hs.tl.tl.tl.tl.hd HXD.out) (OX3.read hs.hd hxs))
        have HSFb := Lib.hid hs
        clear hsg hs hxs
        refine hK.out _ _ (by exact HBEb.out _ _ HSFb.out (by simp) (by simp)) (by exact fun _ => trivial) ?_
        clear hK K
        try simp only [Act.put, List.setIfInBounds_toArray, List.set_cons_zero, List.set_cons_succ]
        refine AnyL.step (i := 3) (by kernel_rfl) (by rfl) (fun K hK => ?_)
        go_simp
        go_at_call 11
        with_reducible refine HQEb.out.mono ?_
        rintro e w14 ⟨rfl, hg⟩
        have hs := (HSFb.out.grown hg).tl
        have HS14 := Lib.hid hs
        clear hg hs
        refine hK.out _ _ (by exact HBEb.out _ _ HS14.out (by simp) (by simp)) (by exact fun _ => trivial) ?_
        clear hK K
        try simp only [Act.put, List.setIfInBounds_toArray, List.set_cons_zero, List.set_cons_succ]
        refine AnyL.take (i := 4) (v := ?vx28) (by rfl) (by kernel_rfl) (by kernel_rfl) (by kernel_rfl) rfl (by exact fun _ _ _ h => h) (by rfl) ?hyx28 (by exact ⟨HBEb.out _ _ HS14.out (by simp) (by simp), fun _ => trivial⟩) ?restx28
        case hyx28 => intro W hSW; (try dsimp only at hSW); first | (go_simp; done) | (go_simp; with_reducible rfl)
        try simp only [Act.put, List.setIfInBounds_toArray, List.set_cons_zero, List.set_cons_succ]
        refine AnyL.done (by kernel_rfl) ?_ _
        clear HSEb HSFb XEb HBEb HQEb
        obtain ⟨x0, x1, x2, x3, _⟩ := bq4 HS14.out.tl.tl.tl.tl.hd
        obtain ⟨y0, y1, y2, y3, _⟩ := bq4 HS14.out.tl.tl.hd
        have HS14b := Lib.hid (Sep.blk (A := [_, _, _, _, _]) (B := [_]) (HS14.out))
        have HMG14 := Lib.hid (HMG.out _ _ _ _ _ _ HS14b.out HXC.out)
        go_upto_region 31 with (first
          | (go_at_call 12
             with_reducible refine HMG14.out.mono ?_
             rintro e w15 ⟨r15, rfl, h15a, h15b, hs15⟩
             clear x0 x1 x2 x3 y0 y1 y2 y3
             obtain ⟨x0, x1, x2, x3, _⟩ := bq4 hs15.tl.tl.hd
             have hs := Sep.blk (A := [_, _, _]) (B := [_]) (hs15)
             have HMP15 := Lib.hid (HMP.out r15 h15a (by omega) _ _ _ _ _ _ hs HXD.out)
             clear hs15 hs h15a h15b)
          | (go_at_call 12
             with_reducible refine HMP15.out.mono ?_
             rintro e w16 ⟨r16, rfl, h16a, h16b, hs16⟩
             clear x0 x1 x2 x3
             have hr16 : ¬ r16 < 0 := by omega
             obtain ⟨t0, t1⟩ := bq2 hs16.hd
             obtain ⟨v0, v1⟩ := bq2 hs16.tl.tl.tl.tl.hd
             have HS16 := Lib.hid hs16
             have HEQ16 := Lib.hid (HEQ.out _ _ _ _ _ (OM1.read hs16.tl.hd) (OM1.read hs16.tl.tl.tl.tl.tl.hd))
             clear hs16 h16a h16b)
          | (go_at_call 16
             with_reducible refine HEQ16.out.mono ?_
             rintro e w17 ⟨rfl, hg⟩
             have hs := Sep.blk (A := [_]) (B := [_]) (HS16.out.grown hg)
             clear t0 t1 v0 v1
             obtain ⟨t0, t1⟩ := bq2 hs.tl.hd
             have HMM17 := Lib.hid (HMM.out _ _ _ _ hs)
             clear hg hs)
          | (go_at_call 17
             with_reducible refine HMM17.out.mono ?_
             rintro e w18 ⟨rfl, hs18⟩
             clear t0 t1
             obtain ⟨t0, t1⟩ := bq2 hs18.tl.hd
             have HS18 := Lib.hid hs18
             have HHM18 := Lib.hid (HHM.out _ _ _ (OM1.read hs18.hd))
             clear hs18)
          | (go_at_call 18
             with_reducible refine HHM18.out.mono ?_
             rintro e w19 ⟨rfl, hg⟩
             have HS19 := Lib.hid (HS18.out.grown hg)
             clear hg t0 t1))
        have HSH := Lib.hid (show Sep _ [OM1 (.slice a1 M.W.length c1) (.slice d1 M.E.length f1) (mkM 1 M), BxA w9.heap.size #[.slice a1 M.W.length c1, .slice d1 M.E.length f1] 37, BxA nb0 #[.slice a0 M.W.length c0, .slice d0 M.E.length f0] 37, OM1 (.slice a0 M.W.length c0) (.slice d0 M.E.length f0) M, BxA (w.heap.size + 1) #[.int .i64 p.n, .slice ap p.es.length cp, .slice pp p.i.length qp, .slice rp p.o.length sp] 25, BxA w.heap.size #[.int .i64 g.n, .slice ag g.es.length cg, .slice pg g.i.length qg, .slice rg g.o.length sg] 25, KeepA w] from Sep.cutA (X := [_, _]) (A := [_]) (Sep.cutA (X := [_, _]) (A := [_]) (HS19.out.dr)))
        have HKH := Lib.hid (show w.grownBy _ none from HSH.out.tl.tl.tl.tl.tl.tl.hd)
        clear HS14 HS14b HS16 HS18 HMG14 HEQ16 HMM17 HHM18 HMP15 HS6 HS10 HS12
        go_cut [15, 16] from 94 to 102 (fun v6 v7 wx => ∃ (nb : Nat) (a2 d2 : Option Addr) (c2 f2 : Nat), v6 = .pointer (some ⟨nb, 0, none⟩) ∧ v7 = .bool b ∧ Sep wx [BxA nb #[.slice a2 M.W.length c2, .slice d2 M.E.length f2] 37, OM1 (.slice a2 M.W.length c2) (.slice d2 M.E.length f2) M, OM1 (.slice a1 M.W.length c1) (.slice d1 M.E.length f1) (mkM 1 M), BxA w9.heap.size #[.slice a1 M.W.length c1, .slice d1 M.E.length f1] 37, BxA nb0 #[.slice a0 M.W.length c0, .slice d0 M.E.length f0] 37, OM1 (.slice a0 M.W.length c0) (.slice d0 M.E.length f0) M, BxA (w.heap.size + 1) #[.int .i64 p.n, .slice ap p.es.length cp, .slice pp p.i.length qp, .slice rp p.o.length sp] 25, BxA w.heap.size #[.int .i64 g.n, .slice ag g.es.length cg, .slice pg g.i.length qg, .slice rg g.o.length sg] 25, KeepA w])
        case first =>
          have XH0 := Lib.hid (HBM.out _ _ HSH.out (by simp) (by simp))
          refine AnyL.start (fun W1 => (W1.cell? ⟨w.heap.size, 0, none⟩ = some (.int .i64 g.n) ∧ W1.cell? ⟨w.heap.size, 1, none⟩ = some (.slice ag g.es.length cg) ∧ W1.cell? ⟨w.heap.size, 2, none⟩ = some (.slice pg g.i.length qg) ∧ W1.cell? ⟨w.heap.size, 3, none⟩ = some (.slice rg g.o.length sg)) ∧ (W1.cell? ⟨w.heap.size + 1, 0, none⟩ = some (.int .i64 p.n) ∧ W1.cell? ⟨w.heap.size + 1, 1, none⟩ = some (.slice ap p.es.length cp) ∧ W1.cell? ⟨w.heap.size + 1, 2, none⟩ = some (.slice pp p.i.length qp) ∧ W1.cell? ⟨w.heap.size + 1, 3, none⟩ = some (.slice rp p.o.length sp))) (fun _ => True) 99 (by kernel_rfl) ?_
          refine AnyL.take (i := 0) (v := ?vx29) (by rfl) (by kernel_rfl) (by kernel_rfl) (by kernel_rfl) rfl (by exact fun _ _ _ h => h) (by rfl) ?hyx29 (by exact ⟨XH0.out, fun _ => trivial⟩) ?restx29
          case hyx29 => intro W hSW; (try dsimp only at hSW); first | (go_simp; done) | (go_simp; with_reducible rfl)
          try simp only [Act.put, List.setIfInBounds_toArray, List.set_cons_zero, List.set_cons_succ]
          refine AnyL.take (i := 2) (v := ?vx30) (by rfl) (by kernel_rfl) (by kernel_rfl) (by kernel_rfl) rfl (by exact fun _ _ _ h => h) (by rfl) ?hyx30 (by exact ⟨XH0.out, fun _ => trivial⟩) ?restx30
          case hyx30 => intro W hSW; (try dsimp only at hSW); first | (go_simp; done) | (go_simp; with_reducible rfl)
          try simp only [Act.put, List.setIfInBounds_toArray, List.set_cons_zero, List.set_cons_succ]
          refine AnyL.two (i := 1) (j := 8) (by kernel_rfl) (by rfl) (by rfl) (fun K hK => ?_) (fun K hK => ?_)
          · go_simp
            go_at_call 9
            with_reducible refine (HTG.out _ HKH.out).mono ?_
            rintro e wdc ⟨aG, cG, pG, qG, rG, sG, xsG, rfl, hxs, hsg⟩
            have HXG := Lib.hid hxs
            have hs := HSH.out.graft1 hsg OX3_own
            have HSdc := Lib.hid hs
            have HKdc := Lib.hid (show w.grownBy _ none from hs.tl.tl.tl.tl.tl.tl.tl.hd)
            clear hsg hs hxs
            refine hK.out _ _ (by exact HBM.out _ _ HSdc.out (by simp) (by simp)) (by exact fun _ => trivial) ?_
            clear hK K
            try simp only [Act.put, List.setIfInBounds_toArray, List.set_cons_zero, List.set_cons_succ]
            refine AnyL.two (i := 3) (j := 8) (by kernel_rfl) (by rfl) (by rfl) (fun K hK => ?_) (fun K hK => ?_)
            · go_simp
              go_at_call 9
              with_reducible refine (HTP.out _ HKdc.out).mono ?_
              rintro e wdcc ⟨aH, cH, pH, qH, rH, sH, xsH, rfl, hxs, hsg⟩
              have HXH := Lib.hid hxs
              have hs := HSdc.out.graft1 hsg OX3_own
              have HSdcc := Lib.hid hs
              have HKdcc := Lib.hid (show w.grownBy _ none from hs.tl.tl.tl.tl.tl.tl.tl.tl.hd)
              clear hsg hs hxs
              refine hK.out _ _ (by exact HBM.out _ _ HSdcc.out (by simp) (by simp)) (by exact fun _ => trivial) ?_
              clear hK K
              try simp only [Act.put, List.setIfInBounds_toArray, List.set_cons_zero, List.set_cons_succ]
              refine AnyL.two (i := 4) (j := 8) (by kernel_rfl) (by rfl) (by rfl) (fun K hK => ?_) (fun K hK => ?_)
              · go_simp
                have HCC := Lib.hid (HIM.out _ _ _ _ _ _ _ (OX3.read HSdcc.out.tl.hd HXG.out) (OX3.read HSdcc.out.hd HXH.out))
                go_at_call 15
                with_reducible refine HCC.out.mono ?_
                rintro e wdccc ⟨a2, c2, d2, f2, rfl, hsg⟩
                have hs := Sep.cutA (X := [_]) (A := [_]) (Sep.cutA (X := [_, _]) (A := [_]) (HSdcc.out.graft1 hsg OM1_own))
                have HSdccc := Lib.hid hs
                have HKdccc := Lib.hid (show w.grownBy _ none from hs.tl.tl.tl.tl.tl.tl.tl.hd)
                clear hsg hs
                refine hK.out _ _ (by exact HBM.out _ _ HSdccc.out (by simp) (by simp)) (by exact fun _ => trivial) ?_
                clear hK K
                try simp only [Act.put, List.setIfInBounds_toArray, List.set_cons_zero, List.set_cons_succ]
                refine AnyL.take (i := 5) (v := ?vx31) (by rfl) (by kernel_rfl) (by kernel_rfl) (by kernel_rfl) rfl (by exact fun _ _ _ h => h) (by rfl) ?hyx31 (by exact ⟨HBM.out _ _ HSdccc.out (by simp) (by simp), fun _ => trivial⟩) ?restx31
                case hyx31 => intro W hSW; (try dsimp only at hSW); first | (go_simp; done) | (go_simp; with_reducible rfl)
                try simp only [Act.put, List.setIfInBounds_toArray, List.set_cons_zero, List.set_cons_succ]
                refine AnyL.take (i := 6) (v := ?vx32) (by rfl) (by kernel_rfl) (by kernel_rfl) (by kernel_rfl) rfl (by exact fun _ _ _ h => h) (by rfl) ?hyx32 (by exact ⟨HBM.out _ _ HSdccc.out (by simp) (by simp), fun _ => trivial⟩) ?restx32
                case hyx32 => intro W hSW; (try dsimp only at hSW); first | (go_simp; done) | (go_simp; with_reducible rfl)
                try simp only [Act.put, List.setIfInBounds_toArray, List.set_cons_zero, List.set_cons_succ]
                refine AnyL.take (i := 7) (v := ?vx33) (by rfl) (by kernel_rfl) (by kernel_rfl) (by kernel_rfl) rfl (by exact fun _ _ _ h => h) (by rfl) ?hyx33 (by exact ⟨HBM.out _ _ HSdccc.out (by simp) (by simp), fun _ => trivial⟩) ?restx33
                case hyx33 => intro W hSW; (try dsimp only at hSW); first | (go_simp; done) | (go_simp; with_reducible rfl)
                try simp only [Act.put, List.setIfInBounds_toArray, List.set_cons_zero, List.set_cons_succ]
                refine AnyL.step (i := 8) (by kernel_rfl) (by rfl) (fun K hK => ?_)
                go_simp
                have HSdcccz := Lib.hid (HSdccc.out.boxAt (wdccc.heap.size) (by rfl) #[.slice none 0 0, .slice none 0 0] 37)
                refine hK.out _ (wdccc.alloc (.cells #[.slice none 0 0, .slice none 0 0] 37)) (by exact HBM.out _ _ HSdcccz.out (by simp) (by simp)) (by exact fun _ => trivial) ?_
                clear hK K
                try simp only [Act.put, List.setIfInBounds_toArray, List.set_cons_zero, List.set_cons_succ]
                generalize wdccc.alloc (.cells #[.slice none 0 0, .slice none 0 0] 37) = wdcccz at *
                generalize wdccc.heap.size = nb at *
                have HKdcccz := Lib.hid (show w.grownBy _ none from HSdcccz.out.tl.tl.tl.tl.tl.tl.tl.tl.hd)
                have h8 := HSdcccz.out
                obtain ⟨k0, k1⟩ := bq2 h8.hd
                obtain ⟨j0, j1⟩ := bf2 h8.hd
                have h9 := h8.setB 0 (.slice a2 M.W.length c2)
                obtain ⟨y0, y1⟩ := bq2 (x := .slice a2 M.W.length c2) (y := .slice none 0 0) (t := 37) h9.hd
                obtain ⟨i0, i1⟩ := bf2 (x := .slice a2 M.W.length c2) (y := .slice none 0 0) (t := 37) h9.hd
                have HZ9 := Lib.hid (h9.setB 1 (.slice d2 M.E.length f2))
                clear h8 h9
                refine AnyL.step (i := 9) (by kernel_rfl) (by rfl) (fun K hK => ?_)
                go_simp
                refine hK.out _ ((wdcccz.setCell ⟨nb, 0, none⟩ (.slice a2 M.W.length c2)).setCell ⟨nb, 1, none⟩ (.slice d2 M.E.length f2)) (by exact HBM.out _ _ HZ9.out (by simp) (by simp)) (by exact fun _ => trivial) ?_
                clear hK K
                try simp only [Act.put, List.setIfInBounds_toArray, List.set_cons_zero, List.set_cons_succ]
                refine AnyL.take (i := 10) (v := ?vx38) (by rfl) (by kernel_rfl) (by kernel_rfl) (by kernel_rfl) rfl (by exact fun _ _ _ h => h) (by rfl) ?hyx38 (by exact ⟨HBM.out _ _ HZ9.out (by simp) (by simp), fun _ => trivial⟩) ?restx38
                case hyx38 => intro W hSW; (try dsimp only at hSW); first | (go_simp; done) | (go_simp; with_reducible rfl)
                try simp only [Act.put, List.setIfInBounds_toArray, List.set_cons_zero, List.set_cons_succ]
                refine AnyL.done (by kernel_rfl) ?_ _
                clear k0 k1 j0 j1 y0 y1 i0 i1
                go_wp2_with fail
                go_meet
                exact ⟨nb, a2, d2, c2, f2, rfl, rfl, HZ9.out⟩
              · go_simp
                have HSdccz := Lib.hid (HSdcc.out.boxAt (wdcc.heap.size) (by rfl) #[.slice none 0 0, .slice none 0 0] 37)
                refine hK.out _ (wdcc.alloc (.cells #[.slice none 0 0, .slice none 0 0] 37)) (by exact HBM.out _ _ HSdccz.out (by simp) (by simp)) (by exact fun _ => trivial) ?_
                clear hK K
                try simp only [Act.put, List.setIfInBounds_toArray, List.set_cons_zero, List.set_cons_succ]
                generalize wdcc.alloc (.cells #[.slice none 0 0, .slice none 0 0] 37) = wdccz at *
                generalize wdcc.heap.size = nb at *
                have HKdccz := Lib.hid (show w.grownBy _ none from HSdccz.out.tl.tl.tl.tl.tl.tl.tl.tl.tl.hd)
                refine AnyL.step (i := 4) (by kernel_rfl) (by rfl) (fun K hK => ?_)
                go_simp
                have HCC := Lib.hid (HIM.out _ _ _ _ _ _ _ (OX3.read HSdccz.out.tl.tl.hd HXG.out) (OX3.read HSdccz.out.tl.hd HXH.out))
                go_at_call 15
                with_reducible refine HCC.out.mono ?_
                rintro e wdcczc ⟨a2, c2, d2, f2, rfl, hsg⟩
                have hs := Sep.cutA (X := [_, _]) (A := [_]) (Sep.cutA (X := [_, _, _]) (A := [_]) (HSdccz.out.graft1 hsg OM1_own))
                have HSdcczc := Lib.hid hs
                have HKdcczc := Lib.hid (show w.grownBy _ none from hs.tl.tl.tl.tl.tl.tl.tl.tl.hd)
                clear hsg hs
                refine hK.out _ _ (by exact HBM.out _ _ HSdcczc.out (by simp) (by simp)) (by exact fun _ => trivial) ?_
                clear hK K
                try simp only [Act.put, List.setIfInBounds_toArray, List.set_cons_zero, List.set_cons_succ]
                refine AnyL.take (i := 5) (v := ?vx39) (by rfl) (by kernel_rfl) (by kernel_rfl) (by kernel_rfl) rfl (by exact fun _ _ _ h => h) (by rfl) ?hyx39 (by exact ⟨HBM.out _ _ HSdcczc.out (by simp) (by simp), fun _ => trivial⟩) ?restx39
                case hyx39 => intro W hSW; (try dsimp only at hSW); first | (go_simp; done) | (go_simp; with_reducible rfl)
                try simp only [Act.put, List.setIfInBounds_toArray, List.set_cons_zero, List.set_cons_succ]
                refine AnyL.take (i := 6) (v := ?vx40) (by rfl) (by kernel_rfl) (by kernel_rfl) (by kernel_rfl) rfl (by exact fun _ _ _ h => h) (by rfl) ?hyx40 (by exact ⟨HBM.out _ _ HSdcczc.out (by simp) (by simp), fun _ => trivial⟩) ?restx40
                case hyx40 => intro W hSW; (try dsimp only at hSW); first | (go_simp; done) | (go_simp; with_reducible rfl)
                try simp only [Act.put, List.setIfInBounds_toArray, List.set_cons_zero, List.set_cons_succ]
                refine AnyL.take (i := 7) (v := ?vx41) (by rfl) (by kernel_rfl) (by kernel_rfl) (by kernel_rfl) rfl (by exact fun _ _ _ h => h) (by rfl) ?hyx41 (by exact ⟨HBM.out _ _ HSdcczc.out (by simp) (by simp), fun _ => trivial⟩) ?restx41
                case hyx41 => intro W hSW; (try dsimp only at hSW); first | (go_simp; done) | (go_simp; with_reducible rfl)
                try simp only [Act.put, List.setIfInBounds_toArray, List.set_cons_zero, List.set_cons_succ]
                have h8 := Sep.blk (A := [_]) (B := [_]) (HSdcczc.out)
                obtain ⟨k0, k1⟩ := bq2 h8.hd
                obtain ⟨j0, j1⟩ := bf2 h8.hd
                have h9 := h8.setB 0 (.slice a2 M.W.length c2)
                obtain ⟨y0, y1⟩ := bq2 (x := .slice a2 M.W.length c2) (y := .slice none 0 0) (t := 37) h9.hd
                obtain ⟨i0, i1⟩ := bf2 (x := .slice a2 M.W.length c2) (y := .slice none 0 0) (t := 37) h9.hd
                have HZ9 := Lib.hid (h9.setB 1 (.slice d2 M.E.length f2))
                clear h8 h9
                refine AnyL.step (i := 9) (by kernel_rfl) (by rfl) (fun K hK => ?_)
                go_simp
                refine hK.out _ ((wdcczc.setCell ⟨nb, 0, none⟩ (.slice a2 M.W.length c2)).setCell ⟨nb, 1, none⟩ (.slice d2 M.E.length f2)) (by exact HBM.out _ _ HZ9.out (by simp) (by simp)) (by exact fun _ => trivial) ?_
                clear hK K
                try simp only [Act.put, List.setIfInBounds_toArray, List.set_cons_zero, List.set_cons_succ]
                refine AnyL.take (i := 10) (v := ?vx42) (by rfl) (by kernel_rfl) (by kernel_rfl) (by kernel_rfl) rfl (by exact fun _ _ _ h => h) (by rfl) ?hyx42 (by exact ⟨HBM.out _ _ HZ9.out (by simp) (by simp), fun _ => trivial⟩) ?restx42
                case hyx42 => intro W hSW; (try dsimp only at hSW); first | (go_simp; done) | (go_simp; with_reducible rfl)
                try simp only [Act.put, List.setIfInBounds_toArray, List.set_cons_zero, List.set_cons_succ]
                refine AnyL.done (by kernel_rfl) ?_ _
                clear k0 k1 j0 j1 y0 y1 i0 i1
                go_wp2_with fail
                go_meet
                exact ⟨nb, a2, d2, c2, f2, rfl, rfl, HZ9.out⟩
            · go_simp
              have HSdcz := Lib.hid (HSdc.out.boxAt (wdc.heap.size) (by rfl) #[.slice none 0 0, .slice none 0 0] 37)
              refine hK.out _ (wdc.alloc (.cells #[.slice none 0 0, .slice none 0 0] 37)) (by exact HBM.out _ _ HSdcz.out (by simp) (by simp)) (by exact fun _ => trivial) ?_
              clear hK K
              try simp only [Act.put, List.setIfInBounds_toArray, List.set_cons_zero, List.set_cons_succ]
              generalize wdc.alloc (.cells #[.slice none 0 0, .slice none 0 0] 37) = wdcz at *
              generalize wdc.heap.size = nb at *
              have HKdcz := Lib.hid (show w.grownBy _ none from HSdcz.out.tl.tl.tl.tl.tl.tl.tl.tl.hd)
              refine AnyL.step (i := 3) (by kernel_rfl) (by rfl) (fun K hK => ?_)
              go_simp
              go_at_call 9
              with_reducible refine (HTP.out _ HKdcz.out).mono ?_
              rintro e wdczc ⟨aH, cH, pH, qH, rH, sH, xsH, rfl, hxs, hsg⟩
              have HXH := Lib.hid hxs
              have hs := HSdcz.out.graft1 hsg OX3_own
              have HSdczc := Lib.hid hs
              have HKdczc := Lib.hid (show w.grownBy _ none from hs.tl.tl.tl.tl.tl.tl.tl.tl.tl.hd)
              clear hsg hs hxs
              refine hK.out _ _ (by exact HBM.out _ _ HSdczc.out (by simp) (by simp)) (by exact fun _ => trivial) ?_
              clear hK K
              try simp only [Act.put, List.setIfInBounds_toArray, List.set_cons_zero, List.set_cons_succ]
              refine AnyL.step (i := 4) (by kernel_rfl) (by rfl) (fun K hK => ?_)
              go_simp
              have HCC := Lib.hid (HIM.out _ _ _ _ _ _ _ (OX3.read HSdczc.out.tl.tl.hd HXG.out) (OX3.read HSdczc.out.hd HXH.out))
              go_at_call 15
              with_reducible refine HCC.out.mono ?_
              rintro e wdczcc ⟨a2, c2, d2, f2, rfl, hsg⟩
              have hs := Sep.cutA (X := [_]) (A := [_]) (Sep.cutA (X := [_, _, _]) (A := [_]) (HSdczc.out.graft1 hsg OM1_own))
              have HSdczcc := Lib.hid hs
              have HKdczcc := Lib.hid (show w.grownBy _ none from hs.tl.tl.tl.tl.tl.tl.tl.tl.hd)
              clear hsg hs
              refine hK.out _ _ (by exact HBM.out _ _ HSdczcc.out (by simp) (by simp)) (by exact fun _ => trivial) ?_
              clear hK K
              try simp only [Act.put, List.setIfInBounds_toArray, List.set_cons_zero, List.set_cons_succ]
              refine AnyL.take (i := 5) (v := ?vx43) (by rfl) (by kernel_rfl) (by kernel_rfl) (by kernel_rfl) rfl (by exact fun _ _ _ h => h) (by rfl) ?hyx43 (by exact ⟨HBM.out _ _ HSdczcc.out (by simp) (by simp), fun _ => trivial⟩) ?restx43
              case hyx43 => intro W hSW; (try dsimp only at hSW); first | (go_simp; done) | (go_simp; with_reducible rfl)
              try simp only [Act.put, List.setIfInBounds_toArray, List.set_cons_zero, List.set_cons_succ]
              refine AnyL.take (i := 6) (v := ?vx44) (by rfl) (by kernel_rfl) (by kernel_rfl) (by kernel_rfl) rfl (by exact fun _ _ _ h => h) (by rfl) ?hyx44 (by exact ⟨HBM.out _ _ HSdczcc.out (by simp) (by simp), fun _ => trivial⟩) ?restx44
              case hyx44 => intro W hSW; (try dsimp only at hSW); first | (go_simp; done) | (go_simp; with_reducible rfl)
              try simp only [Act.put, List.setIfInBounds_toArray, List.set_cons_zero, List.set_cons_succ]
              refine AnyL.take (i := 7) (v := ?vx45) (by rfl) (by kernel_rfl) (by kernel_rfl) (by kernel_rfl) rfl (by exact fun _ _ _ h => h) (by rfl) ?hyx45 (by exact ⟨HBM.out _ _ HSdczcc.out (by simp) (by simp), fun _ => trivial⟩) ?restx45
              case hyx45 => intro W hSW; (try dsimp only at hSW); first | (go_simp; done) | (go_simp; with_reducible rfl)
              try simp only [Act.put, List.setIfInBounds_toArray, List.set_cons_zero, List.set_cons_succ]
              have h8 := Sep.blk (A := [_]) (B := [_]) (HSdczcc.out)
              obtain ⟨k0, k1⟩ := bq2 h8.hd
              obtain ⟨j0, j1⟩ := bf2 h8.hd
              have h9 := h8.setB 0 (.slice a2 M.W.length c2)
              obtain ⟨y0, y1⟩ := bq2 (x := .slice a2 M.W.length c2) (y := .slice none 0 0) (t := 37) h9.hd
              obtain ⟨i0, i1⟩ := bf2 (x := .slice a2 M.W.length c2) (y := .slice none 0 0) (t := 37) h9.hd
              have HZ9 := Lib.hid (h9.setB 1 (.slice d2 M.E.length f2))
              clear h8 h9
              refine AnyL.step (i := 9) (by kernel_rfl) (by rfl) (fun K hK => ?_)
              go_simp
              refine hK.out _ ((wdczcc.setCell ⟨nb, 0, none⟩ (.slice a2 M.W.length c2)).setCell ⟨nb, 1, none⟩ (.slice d2 M.E.length f2)) (by exact HBM.out _ _ HZ9.out (by simp) (by simp)) (by exact fun _ => trivial) ?_
              clear hK K
              try simp only [Act.put, List.setIfInBounds_toArray, List.set_cons_zero, List.set_cons_succ]
              refine AnyL.take (i := 10) (v := ?vx46) (by rfl) (by kernel_rfl) (by kernel_rfl) (by kernel_rfl) rfl (by exact fun _ _ _ h => h) (by rfl) ?hyx46 (by exact ⟨HBM.out _ _ HZ9.out (by simp) (by simp), fun _ => trivial⟩) ?restx46
              case hyx46 => intro W hSW; (try dsimp only at hSW); first | (go_simp; done) | (go_simp; with_reducible rfl)
              try simp only [Act.put, List.setIfInBounds_toArray, List.set_cons_zero, List.set_cons_succ]
              refine AnyL.done (by kernel_rfl) ?_ _
              clear k0 k1 j0 j1 y0 y1 i0 i1
              go_wp2_with fail
              go_meet
              exact ⟨nb, a2, d2, c2, f2, rfl, rfl, HZ9.out⟩
          · go_simp
            have HSdz := Lib.hid (HSH.out.boxAt (w19.heap.size) (by rfl) #[.slice none 0 0, .slice none 0 0] 37)
            refine hK.out _ (w19.drew.alloc (.cells #[.slice none 0 0, .slice none 0 0] 37)) (by exact HBM.out _ _ HSdz.out (by simp) (by simp)) (by exact fun _ => trivial) ?_
            clear hK K
            try simp only [Act.put, List.setIfInBounds_toArray, List.set_cons_zero, List.set_cons_succ]
            generalize w19.drew.alloc (.cells #[.slice none 0 0, .slice none 0 0] 37) = wdz at *
            generalize w19.heap.size = nb at *
            have HKdz := Lib.hid (show w.grownBy _ none from HSdz.out.tl.tl.tl.tl.tl.tl.tl.hd)
            refine AnyL.step (i := 1) (by kernel_rfl) (by rfl) (fun K hK => ?_)
            go_simp
            go_at_call 9
            with_reducible refine (HTG.out _ HKdz.out).mono ?_
            rintro e wdzc ⟨aG, cG, pG, qG, rG, sG, xsG, rfl, hxs, hsg⟩
            have HXG := Lib.hid hxs
            have hs := HSdz.out.graft1 hsg OX3_own
            have HSdzc := Lib.hid hs
            have HKdzc := Lib.hid (show w.grownBy _ none from hs.tl.tl.tl.tl.tl.tl.tl.tl.hd)
            clear hsg hs hxs
            refine hK.out _ _ (by exact HBM.out _ _ HSdzc.out (by simp) (by simp)) (by exact fun _ => trivial) ?_
            clear hK K
            try simp only [Act.put, List.setIfInBounds_toArray, List.set_cons_zero, List.set_cons_succ]
            refine AnyL.step (i := 3) (by kernel_rfl) (by rfl) (fun K hK => ?_)
            go_simp
            go_at_call 9
            with_reducible refine (HTP.out _ HKdzc.out).mono ?_
            rintro e wdzcc ⟨aH, cH, pH, qH, rH, sH, xsH, rfl, hxs, hsg⟩
            have HXH := Lib.hid hxs
            have hs := HSdzc.out.graft1 hsg OX3_own
            have HSdzcc := Lib.hid hs
            have HKdzcc := Lib.hid (show w.grownBy _ none from hs.tl.tl.tl.tl.tl.tl.tl.tl.tl.hd)
            clear hsg hs hxs
            refine hK.out _ _ (by exact HBM.out _ _ HSdzcc.out (by simp) (by simp)) (by exact fun _ => trivial) ?_
            clear hK K
            try simp only [Act.put, List.setIfInBounds_toArray, List.set_cons_zero, List.set_cons_succ]
            refine AnyL.step (i := 4) (by kernel_rfl) (by rfl) (fun K hK => ?_)
            go_simp
            have HCC := Lib.hid (HIM.out _ _ _ _ _ _ _ (OX3.read HSdzcc.out.tl.hd HXG.out) (OX3.read HSdzcc.out.hd HXH.out))
            go_at_call 15
            with_reducible refine HCC.out.mono ?_
            rintro e wdzccc ⟨a2, c2, d2, f2, rfl, hsg⟩
            have hs := Sep.cutA (X := [_]) (A := [_]) (Sep.cutA (X := [_, _]) (A := [_]) (HSdzcc.out.graft1 hsg OM1_own))
            have HSdzccc := Lib.hid hs
            have HKdzccc := Lib.hid (show w.grownBy _ none from hs.tl.tl.tl.tl.tl.tl.tl.tl.hd)
            clear hsg hs
            refine hK.out _ _ (by exact HBM.out _ _ HSdzccc.out (by simp) (by simp)) (by exact fun _ => trivial) ?_
            clear hK K
            try simp only [Act.put, List.setIfInBounds_toArray, List.set_cons_zero, List.set_cons_succ]
            refine AnyL.take (i := 5) (v := ?vx47) (by rfl) (by kernel_rfl) (by kernel_rfl) (by kernel_rfl) rfl (by exact fun _ _ _ h => h) (by rfl) ?hyx47 (by exact ⟨HBM.out _ _ HSdzccc.out (by simp) (by simp), fun _ => trivial⟩) ?restx47
            case hyx47 => intro W hSW; (try dsimp only at hSW); first | (go_simp; done) | (go_simp; with_reducible rfl)
            try simp only [Act.put, List.setIfInBounds_toArray, List.set_cons_zero, List.set_cons_succ]
            refine AnyL.take (i := 6) (v := ?vx48) (by rfl) (by kernel_rfl) (by kernel_rfl) (by kernel_rfl) rfl (by exact fun _ _ _ h => h) (by rfl) ?hyx48 (by exact ⟨HBM.out _ _ HSdzccc.out (by simp) (by simp), fun _ => trivial⟩) ?restx48
            case hyx48 => intro W hSW; (try dsimp only at hSW); first | (go_simp; done) | (go_simp; with_reducible rfl)
            try simp only [Act.put, List.setIfInBounds_toArray, List.set_cons_zero, List.set_cons_succ]
            refine AnyL.take (i := 7) (v := ?vx49) (by rfl) (by kernel_rfl) (by kernel_rfl) (by kernel_rfl) rfl (by exact fun _ _ _ h => h) (by rfl) ?hyx49 (by exact ⟨HBM.out _ _ HSdzccc.out (by simp) (by simp), fun _ => trivial⟩) ?restx49
            case hyx49 => intro W hSW; (try dsimp only at hSW); first | (go_simp; done) | (go_simp; with_reducible rfl)
            try simp only [Act.put, List.setIfInBounds_toArray, List.set_cons_zero, List.set_cons_succ]
            have h8 := Sep.blk (A := [_]) (B := [_]) (HSdzccc.out)
            obtain ⟨k0, k1⟩ := bq2 h8.hd
            obtain ⟨j0, j1⟩ := bf2 h8.hd
            have h9 := h8.setB 0 (.slice a2 M.W.length c2)
            obtain ⟨y0, y1⟩ := bq2 (x := .slice a2 M.W.length c2) (y := .slice none 0 0) (t := 37) h9.hd
            obtain ⟨i0, i1⟩ := bf2 (x := .slice a2 M.W.length c2) (y := .slice none 0 0) (t := 37) h9.hd
            have HZ9 := Lib.hid (h9.setB 1 (.slice d2 M.E.length f2))
            clear h8 h9
            refine AnyL.step (i := 9) (by kernel_rfl) (by rfl) (fun K hK => ?_)
            go_simp
            refine hK.out _ ((wdzccc.setCell ⟨nb, 0, none⟩ (.slice a2 M.W.length c2)).setCell ⟨nb, 1, none⟩ (.slice d2 M.E.length f2)) (by exact HBM.out _ _ HZ9.out (by simp) (by simp)) (by exact fun _ => trivial) ?_
            clear hK K
            try simp only [Act.put, List.setIfInBounds_toArray, List.set_cons_zero, List.set_cons_succ]
            refine AnyL.take (i := 10) (v := ?vx50) (by rfl) (by kernel_rfl) (by kernel_rfl) (by kernel_rfl) rfl (by exact fun _ _ _ h => h) (by rfl) ?hyx50 (by exact ⟨HBM.out _ _ HZ9.out (by simp) (by simp), fun _ => trivial⟩) ?restx50
            case hyx50 => intro W hSW; (try dsimp only at hSW); first | (go_simp; done) | (go_simp; with_reducible rfl)
            try simp only [Act.put, List.setIfInBounds_toArray, List.set_cons_zero, List.set_cons_succ]
            refine AnyL.done (by kernel_rfl) ?_ _
            clear k0 k1 j0 j1 y0 y1 i0 i1
            go_wp2_with fail
            go_meet
            exact ⟨nb, a2, d2, c2, f2, rfl, rfl, HZ9.out⟩
        case rest =>
          obtain ⟨nb2, a2, d2, c2, f2, rfl, rfl, hs22⟩ := hcut
          obtain ⟨t0, t1⟩ := bq2 hs22.hd
          obtain ⟨v0, v1⟩ := bq2 hs22.tl.tl.tl.tl.hd
          have HS22 := Lib.hid hs22
          have HEQ22 := Lib.hid (HEQ.out _ _ _ _ _ (OM1.read hs22.tl.hd) (OM1.read hs22.tl.tl.tl.tl.tl.hd))
          clear hs22 HSH HKH
          go_wp2_with (first
            | (go_at_call 16
               with_reducible refine HEQ22.out.mono ?_
               rintro e w23 ⟨rfl, hg⟩
               have hs := HS22.out.grown hg
               clear t0 t1 v0 v1
               obtain ⟨t0, t1⟩ := bq2 hs.tl.tl.tl.hd
               have HHM23 := Lib.hid (HHM.out _ _ _ (OM1.read hs.tl.tl.hd))
               have HK23 := Lib.hid (show w.grownBy w23 none from hs.tl.tl.tl.tl.tl.tl.tl.tl.hd)
               clear hg hs)
            | (go_at_call 18
               with_reducible refine HHM23.out.mono ?_
               rintro e w24 ⟨rfl, hg⟩
               have HK24 := Lib.hid (grownBy_trans HK23.out hg)
               clear hg))
          go_ret
          exact ⟨rfl, HK24.out⟩
end Go.Proofs.Ytlpgjnjhhgjkmaa

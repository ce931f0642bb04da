/-
  One graph as one part of memory; what the exact laws ask of it. Conditions: lists are small.
-/
import Derived.Test.YtlpgjnjhhgjkmaaBa07
import Derived.Test.YtlpgjnjhhgjkmaaBa06
import Derived.Test.YtlpgjnjhhgjkmaaYq00
import Derived.Test.YtlpgjnjhhgjkmaaYq02
import Derived.Deep.AppendSrc
import Derived.Deep.Upon
namespace Go.Proofs.Ytlpgjnjhhgjkmaa
open Go.RowKit
set_option linter.unusedVariables false
set_option maxRecDepth 100000

/-- A graph that is the call's own. -/
def OX3 (ev : Value) (xs : List XE) (iv : Value) (is : List Int) (ov : Value) (os : List Int) : Asrt := Bag [OE ev xs, OI iv is, OI ov os]
/-- A graph that can be read. -/
def RdX (w : World) (g : Gr) (ev iv ov : Value) : Prop := RdE edgeE w ev g.es ∧ IntsV w iv g.i ∧ IntsV w ov g.o
theorem OX3_own {ev : Value} {xs : List XE} {iv : Value} {is : List Int} {ov : Value} {os : List Int} : ∀ k, (OX3 ev xs iv is ov os).sees k → (OX3 ev xs iv is ov os).foot k := by
  rintro k ⟨A, hA, hk⟩
  refine ⟨A, hA, ?_⟩
  simp only [List.mem_cons, List.not_mem_nil, or_false] at hA
  rcases hA with rfl | rfl | rfl
  · exact OE_own k hk
  · exact hk
  · exact hk
theorem OX3.read {w : World} {g : Gr} {ev : Value} {xs : List XE} {iv ov : Value} (h : (OX3 ev xs iv g.i ov g.o).holds w) (hx : eds xs = g.es) : RdX w g ev iv ov := by
  have hs : Sep w [OE ev xs, OI iv g.i, OI ov g.o] := h
  have he := OE.read hs.hd
  rw [hx] at he
  exact ⟨he, OwnInts.read (show OwnInts 0 w iv g.i from hs.tl.hd), OwnInts.read (show OwnInts 0 w ov g.o from hs.tl.tl.hd)⟩
/-- What hands back a graph of its own, told by the slices. -/
def Gives3 (K : Gr) (w : World) (out : Value → Value) (e : Ending) (w' : World) : Prop :=
  ∃ a c p q r s xs, e = .returned (out (.agg #[.int .i64 K.n, .slice a K.es.length c, .slice p K.i.length q, .slice r K.o.length s])) ∧ eds xs = K.es ∧
    Sep w' [OX3 (.slice a K.es.length c) xs (.slice p K.i.length q) K.i (.slice r K.o.length s) K.o, KeepA w]
theorem gives3_of {K : Gr} {w w' : World} {out : Value → Value} {e : Ending} {u0 : Value} {xs : List XE} {u1 u2 : Value} (he : e = .returned (out (grV K.n u0 u1 u2))) (hx : eds xs = K.es) (hs : Sep w' [OE u0 xs, OI u1 K.i, OI u2 K.o, KeepA w]) : Gives3 K w out e w' := by
  obtain ⟨a, c, rfl⟩ := OE.shape hs.hd
  obtain ⟨p, q, rfl⟩ := own_shape (show OwnInts 0 w' u1 K.i from hs.tl.hd)
  obtain ⟨r, s, rfl⟩ := own_shape (show OwnInts 0 w' u2 K.o from hs.tl.tl.hd)
  have hl : xs.length = K.es.length := by rw [← hx, eds_len]
  rw [hl] at hs he
  exact ⟨a, c, p, q, r, s, xs, he, hx, Sep.bag (l := [_, _, _]) hs⟩
theorem toGraph_sh (g : Gr) (ev iv ov : Value) (w : World) (he : RdE argEdE w ev g.es) (hi : IntsV w iv g.i) (ho : IntsV w ov g.o) (ht : totG g ≤ 1048576) :
    Calls Try.prog 9 #[grV g.n ev iv ov] w (Gives3 g w id) := by
  have hsm := Sm.of ht
  refine (toGraph_any ev iv ov g w he hi ho (by have := hsm.es; omega) (by have := hsm.i; omega) (by have := hsm.o; omega) (fun e he => by have := hsm.ed e he; omega)).mono ?_
  rintro e w' ⟨u0, xs, u1, u2, rfl, hx, hs⟩
  exact gives3_of rfl hx hs
theorem eqGraph_sh (g : Gr) (w : World) (u0 u1 u2 v0 v1 v2 : Value) (h : RdX w g u0 u1 u2) (k : RdX w g v0 v1 v2) (ht : totG g ≤ 1048576) :
    Calls Try.prog 11 #[grV g.n u0 u1 u2, grV g.n v0 v1 v2] w fun e w' => e = .returned (.bool true) ∧ w.grownBy w' none := by
  have hsm := Sm.of ht
  exact eqGraph_same u0 u1 u2 v0 v1 v2 g w h.1 h.2.1 h.2.2 k.1 k.2.1 k.2.2 (by have := hsm.es; omega) (by have := hsm.i; omega) (by have := hsm.o; omega) (fun e he => by have := hsm.ed e he; omega)
/-- How far a graph counts. -/
def wX (g : Gr) : Nat := wEs g.es + g.i.length + g.o.length
/-- A graph whose numbers are marks from k on. -/
def mkX3 (k : Int) (g : Gr) : Gr := ⟨g.n, mkEs k g.es, cntI (k + wEs g.es) g.i.length, cntI (k + wEs g.es + g.i.length) g.o.length⟩
theorem markGraph_sh (u0 u1 u2 : Value) (xs : List XE) (g : Gr) (k : Int) (w : World) (l : List Asrt) (hs : Sep w (OX3 u0 xs u1 g.i u2 g.o :: l)) (hx : eds xs = g.es) (hl : totG g ≤ 1048576) (h0 : 0 ≤ k) (h1 : k ≤ 1000000) :
    Calls Try.prog 12 #[grV g.n u0 u1 u2, .int .i64 k] w fun e w' => e = .returned (.int .i64 (k + wX g)) ∧ Sep w' (OX3 u0 (mkXs k xs) u1 (mkX3 k g).i u2 (mkX3 k g).o :: l) ∧ eds (mkXs k xs) = (mkX3 k g).es := by
  refine (markGraph_any u0 u1 u2 xs g k w l (Sep.unbag hs) hx hl h0 h1).mono ?_
  rintro e w' ⟨rfl, hsg⟩
  refine ⟨by unfold wX; rw [show (k + wEs g.es + g.i.length + g.o.length : Int) = k + ((wEs g.es + g.i.length + g.o.length : Nat) : Int) by omega], Sep.bag (l := [_, _, _]) hsg, ?_⟩
  rw [eds_mk, hx]
  rfl
theorem heldGraph_sh (u0 u1 u2 : Value) (g : Gr) (k : Int) (w : World) (h : RdX w (mkX3 k g) u0 u1 u2) (hl : totG g ≤ 1048576) (h0 : 0 ≤ k) (h1 : k ≤ 1000000) :
    Calls Try.prog 13 #[grV g.n u0 u1 u2, .int .i64 k] w fun e w' => e = .returned (.int .i64 (k + wX g)) ∧ w.grownBy w' none := by
  refine (heldGraph_any u0 u1 u2 g k w h.1 h.2.1 h.2.2 hl h0 h1).mono ?_
  rintro e w' ⟨rfl, hg⟩
  exact ⟨by unfold wX; rw [show (k + wEs g.es + g.i.length + g.o.length : Int) = k + ((wEs g.es + g.i.length + g.o.length : Nat) : Int) by omega], hg⟩
/-- A valid graph is small. -/
theorem grB_small {g : Gr} (h : grB g = true) : totG g ≤ 1048576 := by
  obtain ⟨m, hm, hm1, hg1, hg2, hg3, _, hle, _⟩ := grB_n h
  have he : ∀ e ∈ g.es, totE e ≤ 4 := fun e he => by
    have := hle e he
    unfold totE
    omega
  have ht : ∀ es : List Ed, (∀ e ∈ es, totE e ≤ 4) → totEs es ≤ 4 * es.length := fun es => by
    induction es with
    | nil => intro _; simp [totEs]
    | cons e es ih => intro h; have := ih (fun x hx => h x (by simp [hx])); have := h e (by simp); simp only [totEs, List.length_cons]; omega
  have := ht g.es he
  unfold totG
  omega
end Go.Proofs.Ytlpgjnjhhgjkmaa

/-
  All matches and the first one, in the program, checked. Conditions: lists are small.
-/
namespace Go.Proofs.Ytlpgjnjhhgjkmaa
open Go.RowKit
set_option linter.unusedVariables false
set_option maxRecDepth 100000

def mtB (g p : Gr) : Bool := mgB g && mgB p && decide (p.es.length ≤ 12)
noncomputable def mtL (g p : Gr) : List Mt := if mtB g p = true then (allMt g p).take 100 else []
/-- What hands back all matches. -/
def MatR (g p : Gr) (w : World) (e : Ending) (w' : World) : Prop :=
  ∃ v xs, e = .returned (.tuple #[v, .bool (mtB g p)]) ∧ mts xs = mtL g p ∧ Sep w' [OR matchE v xs, Bag (rowsM xs), KeepA w]
theorem two_all (g p : Gr) : [g, p].all mgB = (mgB g && mgB p) := by simp
theorem mgB_gr {g : Gr} (h : mgB g = true) : grB g = true := by unfold mgB at h; rw [Bool.and_eq_true] at h; exact h.1
theorem Sep.nilM {w : World} {l : List Asrt} (h : Sep w l) : Sep w (OR matchE nilS [] :: Bag (rowsM []) :: l) := Sep.nilR matchE (Sep.bag (l := rowsM []) h)
/-- The first match and whether there is one. -/
def fstB (g p : Gr) : Prop := mtB g p = true ∧ allMt g p ≠ []
theorem take_one {α : Type} {l : List α} {x : α} {r : List α} (h : l = x :: r) : l.take 1 = [x] ∧ l.take 100 = x :: r.take 99 := by rw [h]; exact ⟨rfl, rfl⟩
/-- What hands back the first match. -/
def FstR (g p : Gr) (w : World) (e : Ending) (w' : World) : Prop :=
  ∃ (b : Bool) (u1 u2 : Value) (M : Mt), e = .returned (.tuple #[.agg #[u1, u2], .bool b]) ∧ (b = true → ∃ r, mtL g p = M :: r) ∧ (b = false → mtL g p = [] ∧ M = ⟨[], []⟩) ∧ Sep w' [OI u1 M.W, OI u2 M.E, KeepA w]
theorem bagM_own {xs : List XM} : ∀ k, (Bag (rowsM xs)).sees k → (Bag (rowsM xs)).foot k := by
  rintro k ⟨A, hA, hk⟩
  refine ⟨A, hA, ?_⟩
  obtain ⟨x, _, hx⟩ := List.mem_flatMap.1 hA
  simp only [List.mem_cons, List.not_mem_nil, or_false] at hx
  rcases hx with rfl | rfl <;> exact hk
set_option maxHeartbeats 4000000 in
theorem iMatchesOf_any (g p : Gr) (gev giv gov pev piv pov : Value) (w : World) (hg : RdX w g gev giv gov) (hp : RdX w p pev piv pov) (sg : Sm g) (sp : Sm p) :
    Calls Try.prog 20 #[grV g.n gev giv gov, grV p.n pev piv pov] w (MatR g p w) := by
  have HRG := Lib.hid fun W (h : w.grownBy W none) => show RdX W g gev giv gov from ⟨hg.1.carry h, hg.2.1.carry h, hg.2.2.carry h⟩
  have HRP := Lib.hid fun W (h : w.grownBy W none) => show RdX W p pev piv pov from ⟨hp.1.carry h, hp.2.1.carry h, hp.2.2.carry h⟩
  have HMT := Lib.hid fun (hb : grB g = true) (hc : grB p = true) (most : Nat) (h1 : 1 ≤ most) (h2 : most ≤ 1000) W (h : w.grownBy W none) => matches_any g p hb hc gev giv gov pev piv pov most h1 h2 W (HRG.out W h).1 (HRP.out W h).1
  unfold grV at HMT
  unfold grV
  obtain ⟨ga, gc, rfl⟩ := hg.1.shape
  obtain ⟨gi, gd, rfl⟩ := hg.2.1.shape
  obtain ⟨go, gf, rfl⟩ := hg.2.2.shape
  obtain ⟨pa, pc, rfl⟩ := hp.1.shape
  obtain ⟨pi, pd, rfl⟩ := hp.2.1.shape
  obtain ⟨po, pf, rfl⟩ := hp.2.2.shape
  have hs0 := ((Sep.start w).box #[.int .i64 g.n, .slice ga g.es.length gc, .slice gi g.i.length gd, .slice go g.o.length gf] 29).box #[.int .i64 p.n, .slice pa p.es.length pc, .slice pi p.i.length pd, .slice po p.o.length pf] 29
  simp only [show ∀ (W : World) o, (W.alloc o).heap.size = W.heap.size + 1 from fun W o => by simp] at hs0
  obtain ⟨WR, hWR⟩ : ∃ W, W = w := ⟨_, rfl⟩
  have hK := (show w.grownBy _ none from hs0.tl.tl.hd)
  have hmo := areMono_any (.slice (some ⟨w.heap.size + 1 + 1, 0, none⟩) 2 2) [g, p] _ (by
    have := rdGs_two (HRG.out _ hK).1 (HRG.out _ hK).2.1 (HRG.out _ hK).2.2 (HRP.out _ hK).1 (HRP.out _ hK).2.1 (HRP.out _ hK).2.2
    simp only [show ∀ (W : World) o, (W.alloc o).heap.size = W.heap.size + 1 from fun W o => by simp] at this
    exact this) (by simp) (fun x hx => by
    simp only [List.mem_cons, List.not_mem_nil, or_false] at hx
    rcases hx with rfl | rfl
    · exact sg
    · exact sp)
  rw [two_all] at hmo
  clear WR hWR
  obtain ⟨x0, x1, x2, x3, _⟩ := bq4 hs0.tl.hd
  obtain ⟨y0, y1, y2, y3, _⟩ := bq4 hs0.hd
  have HS0 := Lib.hid hs0
  have HMB := Lib.hid (show mtB g p = (mgB g && mgB p && decide (p.es.length ≤ 12)) from rfl)
  clear hs0 hK hg hp sg sp
  cases hb : (mgB g && mgB p) with
  | false =>
    rw [hb] at hmo
    have HMO := Lib.hid hmo
    have HF := Lib.hid (show mtB g p = false from by rw [HMB.out, hb]; rfl)
    clear hmo hb HMT HRG HRP
    go_enter Try.func20, Try.ntmps20
    go_wp2_with (
      go_at_call 44
      with_reducible refine HMO.out.mono ?_
      rintro e w3 ⟨rfl, hg3⟩
      have HS3 := Lib.hid ((HS0.out.al _).grown hg3)
      clear hg3)
    go_ret2
    exact ⟨nilS, [], by rw [HF.out]; rfl, by unfold mtL; rw [HF.out]; rfl, HS3.out.tl.tl.nilM⟩
  | true =>
    rw [hb] at hmo
    have HMO := Lib.hid hmo
    rw [Bool.and_eq_true] at hb
    have hgg := mgB_gr hb.1
    have hpp := mgB_gr hb.2
    by_cases hl : p.es.length ≤ 12
    · have HT := Lib.hid (show mtB g p = true from by rw [HMB.out, hb.1, hb.2, decide_eq_true hl]; rfl)
      have HMC := Lib.hid (HMT.out hgg hpp 100 (by decide) (by decide))
      have hl2 : ¬ ((12 : Int) < (p.es.length : Int)) := by omega
      clear hmo hb HMT HRG HRP hgg hpp hl
      go_enter Try.func20, Try.ntmps20
      go_wp2_with (first
        | (go_at_call 44
           with_reducible refine HMO.out.mono ?_
           rintro e w3 ⟨rfl, hg3⟩
           have hs3 := (HS0.out.al (.cells #[.int .i64 g.n, .slice ga g.es.length gc, .slice gi g.i.length gd, .slice go g.o.length gf, .int .i64 p.n, .slice pa p.es.length pc, .slice pi p.i.length pd, .slice po p.o.length pf] 29)).grown hg3
           obtain ⟨z0, z1, z2, z3, _⟩ := bq4 hs3.tl.hd
           obtain ⟨v0, v1, v2, v3, _⟩ := bq4 hs3.hd
           have hm3 := HMC.out w3 (show w.grownBy w3 none from hs3.tl.tl.hd)
           rw [show ((100 : Nat) : Int) = 100 from rfl] at hm3
           have HM3 := Lib.hid hm3
           have HS3 := Lib.hid hs3
           clear hg3 hs3 hm3 x0 x1 x2 x3 y0 y1 y2 y3)
        | (go_at_call 45
           with_reducible refine HM3.out.mono ?_
           rintro e w4 ⟨v, xs, rfl, hxs, hsg⟩
           have HX := Lib.hid hxs
           have HS4 := Lib.hid ((HS3.out.graft2 hsg (fun k hk => hk) (fun k hk => bagM_own k hk)).under (fun h => h.under (fun h => h.tl.tl) (by simp +contextual)) (by simp +contextual))
           clear hsg hxs))
      go_ret2
      exact ⟨v, xs, by rw [HT.out]; rfl, by unfold mtL; rw [if_pos HT.out]; exact HX.out, HS4.out⟩
    · have HF := Lib.hid (show mtB g p = false from by rw [HMB.out, decide_eq_false hl]; simp)
      have hl2 : (12 : Int) < (p.es.length : Int) := by omega
      clear hmo hb HMT HRG HRP hgg hpp hl
      go_enter Try.func20, Try.ntmps20
      go_wp2_with (
        go_at_call 44
        with_reducible refine HMO.out.mono ?_
        rintro e w3 ⟨rfl, hg3⟩
        have hs3 := (HS0.out.al (.cells #[.int .i64 g.n, .slice ga g.es.length gc, .slice gi g.i.length gd, .slice go g.o.length gf, .int .i64 p.n, .slice pa p.es.length pc, .slice pi p.i.length pd, .slice po p.o.length pf] 29)).grown hg3
        obtain ⟨v0, v1, v2, v3, _⟩ := bq4 hs3.hd
        have HS3 := Lib.hid hs3
        clear hg3 hs3)
      go_ret2
      exact ⟨nilS, [], by rw [HF.out]; rfl, by unfold mtL; rw [HF.out]; rfl, HS3.out.tl.tl.nilM⟩
end Go.Proofs.Ytlpgjnjhhgjkmaa

/-
  From which edge each wire comes, to which it goes, in the reference. Conditions: the graph is valid.
-/
namespace Go.Proofs.Ytlpgjnjhhgjkmaa
open Go.RowKit
set_option linter.unusedVariables false
set_option maxRecDepth 100000

/-- A list tells of each wire an edge that holds it, -1 where none does. -/
def OrgOk (S : Ed → List Int) (es : List Ed) (n : Nat) (L : List Int) : Prop :=
  L.length = n ∧ ∀ w : Nat, w < n → (L.getD w 0 = -1 ∧ ∀ e, e < es.length → (w : Int) ∉ S (es.getD e e0)) ∨ ∃ e, e < es.length ∧ L.getD w 0 = (e : Int) ∧ (w : Int) ∈ S (es.getD e e0)
/-- So far: the edges below k, and t wires of edge k. -/
def OrgAt (S : Ed → List Int) (es : List Ed) (n k t : Nat) (L : List Int) : Prop :=
  L.length = n ∧ ∀ w : Nat, w < n → (L.getD w 0 = -1 ∧ (∀ e, e < k → (w : Int) ∉ S (es.getD e e0)) ∧ (w : Int) ∉ (S (es.getD k e0)).take t) ∨ ∃ e, e < es.length ∧ L.getD w 0 = (e : Int) ∧ (w : Int) ∈ S (es.getD e e0)
theorem OrgAt.start {S : Ed → List Int} {es : List Ed} {n : Nat} : OrgAt S es n 0 0 (List.replicate n (-1)) := by
  refine ⟨by simp, fun w hw => Or.inl ⟨by rw [List.getD_eq_getElem?_getD, List.getElem?_replicate, if_pos hw]; rfl, fun e he => absurd he (by omega), by simp⟩⟩
theorem OrgAt.step {S : Ed → List Int} {es : List Ed} {n k t v : Nat} {L : List Int} (h : OrgAt S es n k t L) (hk : k < es.length) (ht : t < (S (es.getD k e0)).length) (hv : (S (es.getD k e0)).getD t 0 = (v : Int)) (hvn : v < n) : OrgAt S es n k (t + 1) (L.set v (k : Int)) := by
  refine ⟨by rw [List.length_set]; exact h.1, fun w hw => ?_⟩
  rw [gd_set (by rw [h.1]; exact hvn)]
  by_cases e : v = w
  · subst e
    exact Or.inr ⟨k, hk, by rw [if_pos rfl], by rw [← hv]; exact getD_mem' ht⟩
  · rw [if_neg e]
    rcases h.2 w hw with ⟨h1, h2, h3⟩ | h1
    · refine Or.inl ⟨h1, h2, fun hm => ?_⟩
      rw [List.take_succ_eq_append_getElem ht] at hm
      rcases List.mem_append.1 hm with hm | hm
      · exact h3 hm
      · rw [List.mem_singleton] at hm
        rw [List.getD_eq_getElem?_getD, List.getElem?_eq_getElem ht] at hv
        simp only [Option.getD_some] at hv
        omega
    · exact Or.inr h1
theorem OrgAt.next {S : Ed → List Int} {es : List Ed} {n k t : Nat} {L : List Int} (h : OrgAt S es n k t L) (ht : t = (S (es.getD k e0)).length) : OrgAt S es n (k + 1) 0 L := by
  refine ⟨h.1, fun w hw => ?_⟩
  rcases h.2 w hw with ⟨h1, h2, h3⟩ | h1
  · rw [ht, List.take_length] at h3
    refine Or.inl ⟨h1, fun e he => ?_, by simp⟩
    by_cases e2 : e = k
    · rw [e2]; exact h3
    · exact h2 e (by omega)
  · exact Or.inr h1
theorem OrgAt.done {S : Ed → List Int} {es : List Ed} {n : Nat} {L : List Int} (h : OrgAt S es n es.length 0 L) : OrgOk S es n L := by
  refine ⟨h.1, fun w hw => ?_⟩
  rcases h.2 w hw with ⟨h1, h2, _⟩ | h1
  · exact Or.inl ⟨h1, h2⟩
  · exact Or.inr h1
theorem fillN_set {n k : Nat} (hk : k < n) : (List.replicate k (-1 : Int) ++ List.replicate (n - k) 0).set k (-1) = List.replicate (k + 1) (-1) ++ List.replicate (n - (k + 1)) 0 := repl_set hk
set_option maxHeartbeats 4000000 in
theorem origins_any (ev iv ov : Value) (g : Gr) (w : World) (he : RdE edgeE w ev g.es) (hg : grB g = true) :
    Calls Try.prog 104 #[grV g.n ev iv ov] w fun e w' => ∃ a c L, e = .returned (.slice a L.length c) ∧ OrgOk Ed.o g.es g.n.toNat L ∧ Sep w' [OI (.slice a L.length c) L, KeepA w] := by
  obtain ⟨i0, hii, hz0, hz1, hz2⟩ := info_parts info_int
  have HI := Lib.hid hii; have HZ0 := Lib.hid hz0; have HZ1 := Lib.hid hz1; have HZ2 := Lib.hid hz2
  obtain ⟨m, hm, hm1, hg1, _, _, hrn, hle, _⟩ := grB_n hg
  have HRE := Lib.hid fun W (h : w.grownBy W none) => he.carry h
  have HW := Lib.hid fun (k : Nat) (hk : k < g.es.length) (x : Int) (hx : x ∈ (g.es.getD k e0).o) => show 0 ≤ x ∧ x < (m : Int) from by
    rw [← hm]
    refine rng_at hrn (List.mem_append_right _ (List.mem_append_right _ (List.mem_flatMap.2 ⟨g.es.getD k e0, ?_, ?_⟩)))
    · rw [List.getD_eq_getElem?_getD, List.getElem?_eq_getElem hk]; exact List.getElem_mem hk
    · simp only [List.mem_append]; exact Or.inr hx
  have HL := Lib.hid fun (k : Nat) (hk : k < g.es.length) => hle (g.es.getD k e0) (by rw [List.getD_eq_getElem?_getD, List.getElem?_eq_getElem hk]; exact List.getElem_mem hk)
  unfold grV
  rw [hm, Int.toNat_natCast]
  obtain ⟨ea, ec, rfl⟩ := he.shape
  have HS0 := Lib.hid ((Sep.start w).box #[.int .i64 m, .slice ea g.es.length ec, iv, ov] 29)
  obtain ⟨x0, x1, _⟩ := bq4 HS0.out.hd
  have hge : g.es.length ≤ 60 := hg1
  clear he hg hm hrn hle hii hz0 hz1 hz2 hg1
  go_enter Try.func104, Try.ntmps104
  go_wp2_with (
    at_make
    refine wpList_make_full _ rfl _ _ 23 rfl (w.heap.size + 1) 3 i0 (.int .i64 0) 1 Try.underlying23 HI.out HZ0.out HZ1.out _ _ _ _ m rfl rfl rfl rfl (by rw [HZ2.out]; omega) (by unfold maxLen; omega) (by simp) ?_
    intro w1 hown' hgr'
    have hs1 : Sep w1 (OI (.slice (some ⟨w.heap.size + 1, 0, none⟩) m m) (List.replicate m 0) :: [BxA w.heap.size #[.int .i64 m, .slice ea g.es.length ec, iv, ov] 29, KeepA w]) := HS0.out.newI hgr' (by
      rw [madeCells_int] at hown'
      unfold OwnInts
      rw [List.length_replicate]
      simpa using hown')
    have HS := Lib.hid hs1
    clear hs1 hown' hgr')
  clear x0 x1
  go_loopw [4, 14] (fun _ i wr => ∃ k : Nat, k ≤ m ∧ i = .int .i64 k ∧ Sep wr (OI (.slice (some ⟨w.heap.size + 1, 0, none⟩) m m) (List.replicate k (-1) ++ List.replicate (m - k) 0) :: [BxA w.heap.size #[.int .i64 m, .slice ea g.es.length ec, iv, ov] 29, KeepA w])) (fun _ i _ => m - (intOf i).toNat)
  case atStart => exact ⟨0, by omega, rfl, by simpa using HS.out⟩
  case round =>
    obtain ⟨k, hk, rfl, hs⟩ := hrel
    have HSR := Lib.hid hs
    clear HS hs
    by_cases hlt : k < m
    · have hlen : m = (List.replicate k (-1 : Int) ++ List.replicate (m - k) (0 : Int)).length := by simp; omega
      have hc := own_at (show OwnInts 0 wr _ _ from HSR.out.hd) hlen hlt
      have hf := (show OwnInts 0 wr _ _ from HSR.out.hd).free hlen k
      have hs2 := HSR.out.setI hlen k (-1)
      rw [fillN_set hlt] at hs2
      have HS2 := Lib.hid hs2
      generalize (List.replicate k (-1 : Int) ++ List.replicate (m - k) (0 : Int)).getD k 0 = y at *
      clear hs2 hlen
      go_wp2
      go_roundw
      case rel => exact ⟨k + 1, by omega, by go_num, HS2.out⟩
      case measure => simp [intOf]; omega
    · have hkn : k = m := by omega
      subst hkn
      have hs := HSR.out
      rw [Nat.sub_self, List.replicate_zero, List.append_nil] at hs
      obtain ⟨x0, x1, _⟩ := bq4 hs.tl.hd
      have HSE := Lib.hid hs
      clear hs HSR hlt
      go_wp2
      clear x0 x1
      go_loopw [5, 6, 8, 24] (fun _ _ _ i wr => ∃ (q : Nat) (L : List Int), q ≤ g.es.length ∧ i = .int .i64 q ∧ OrgAt Ed.o g.es k q 0 L ∧ Sep wr (OI (.slice (some ⟨w.heap.size + 1, 0, none⟩) k k) L :: [KeepA w])) (fun _ _ _ i _ => g.es.length - (intOf i).toNat)
      case atStart => exact ⟨0, _, by omega, rfl, OrgAt.start, HSE.out.drop2⟩
      case round =>
        obtain ⟨q, L, hq, rfl, hor, hs⟩ := hrel
        have HOR := Lib.hid hor
        have HSR := Lib.hid hs
        clear hor HSE
        by_cases hlt : q < g.es.length
        · obtain ⟨b, o, iv2, ov2, hea, hat⟩ := (HRE.out _ (grownBy_refl w none)).atK rfl rfl hlt
          have hK : w.grownBy wr none := hs.tl.hd
          obtain ⟨eq, heq⟩ : ∃ eq, eq = g.es.getD q e0 := ⟨_, rfl⟩
          have hwq := fun x hx => HW.out q hlt x hx
          have hl2 := HL.out q hlt
          rw [← heq] at hat hwq hl2
          obtain ⟨ia2, ic2, rfl⟩ := (hat wr hK).2.1.shape
          obtain ⟨oa2, oc2, rfl⟩ := (hat wr hK).2.2.shape
          obtain ⟨y0, y1, y2, y3⟩ := (hat wr hK).1
          subst hea
          have HWQ := Lib.hid hwq
          have HQ := Lib.hid hlt
          have hs7 := Sep.s2 (hs.box #[.int .i64 eq.k, .int .i64 eq.v, .slice ia2 eq.i.length ic2, .slice oa2 eq.o.length oc2] 69)
          obtain ⟨z0, z1, z2, z3, _⟩ := bq4 hs7.tl.hd
          have HS7 := Lib.hid hs7
          have HAT := Lib.hid fun W (h : w.grownBy W none) => (hat W h).2.2
          have hqi : (q : Int) < (g.es.length : Int) := by omega
          have HEQ := Lib.hid heq
          clear hs hs7 hat hK heq hwq
          go_wp2
          go_loopw [8, 32] (fun _ i wr => ∃ (t : Nat) (L : List Int), t ≤ eq.o.length ∧ i = .int .i64 t ∧ OrgAt Ed.o g.es k q t L ∧ Sep wr (OI (.slice (some ⟨w.heap.size + 1, 0, none⟩) k k) L :: [KeepA w])) (fun _ i _ => eq.o.length - (intOf i).toNat)
          case atStart => exact ⟨0, L, by omega, rfl, HOR.out, HS7.out.drop2⟩
          case round =>
            obtain ⟨t, L2, ht, rfl, hor2, hs2⟩ := hrel
            have HOR2 := Lib.hid hor2
            have HSI := Lib.hid hs2
            clear hor2 HOR HSR HS7 y0 y1 y2 y3 z0 z1 z2 z3
            by_cases htl : t < eq.o.length
            · obtain ⟨b3, o3, hsa, _, hc⟩ := (HAT.out wr hs2.tl.hd).atD (i := t) htl
              have hx := HWQ.out _ (getD_mem' htl)
              obtain ⟨v, hv⟩ := Int.eq_ofNat_of_zero_le hx.1
              have hvk : v < k := by omega
              have HST := Lib.hid (HOR2.out.step HQ.out (by rw [← HEQ.out]; exact htl) (by rw [← HEQ.out]; exact hv) hvk)
              rw [hv] at hc
              have hln : k = L2.length := HOR2.out.1.symm
              have c0 := own_at (show OwnInts 0 wr _ L2 from hs2.hd) hln hvk
              have c1 := (show OwnInts 0 wr _ L2 from hs2.hd).free hln v
              have HS3 := Lib.hid (hs2.setI hln v (q : Int))
              have hvi : (v : Int) < (k : Int) := by omega
              have hti : (t : Int) < (eq.o.length : Int) := by omega
              generalize L2.getD v 0 = old at c0
              subst hsa
              clear hx hv hs2 hln
              go_wp2
              go_roundw
              case rel => exact ⟨t + 1, _, by omega, by go_num, HST.out, HS3.out⟩
              case measure => simp [intOf]; omega
            · have HTN := Lib.hid (HOR2.out.next (by rw [← HEQ.out]; omega))
              clear hs2
              go_wp2
              go_roundw
              case rel => exact ⟨q + 1, L2, by omega, by go_num, HTN.out, HSI.out⟩
              case measure => simp [intOf]; omega
        · have hqn : q = g.es.length := by omega
          subst hqn
          have HD := Lib.hid HOR.out.done
          have hL := HOR.out.1
          have HFS := Lib.hid (show Sep wr (OI (.slice (some ⟨w.heap.size + 1, 0, none⟩) L.length k) L :: [KeepA w]) from by rw [hL]; exact hs)
          have HLL := Lib.hid hL
          clear hs hL
          go_wp2
          go_ret
          exact ⟨_, _, L, by rw [HLL.out]; rfl, HD.out, HFS.out⟩
set_option maxHeartbeats 4000000 in
theorem ends_any (ev iv ov : Value) (g : Gr) (w : World) (he : RdE edgeE w ev g.es) (hg : grB g = true) :
    Calls Try.prog 105 #[grV g.n ev iv ov] w fun e w' => ∃ a c L, e = .returned (.slice a L.length c) ∧ OrgOk Ed.i g.es g.n.toNat L ∧ Sep w' [OI (.slice a L.length c) L, KeepA w] := by
  obtain ⟨i0, hii, hz0, hz1, hz2⟩ := info_parts info_int
  have HI := Lib.hid hii; have HZ0 := Lib.hid hz0; have HZ1 := Lib.hid hz1; have HZ2 := Lib.hid hz2
  obtain ⟨m, hm, hm1, hg1, _, _, hrn, hle, _⟩ := grB_n hg
  have HRE := Lib.hid fun W (h : w.grownBy W none) => he.carry h
  have HW := Lib.hid fun (k : Nat) (hk : k < g.es.length) (x : Int) (hx : x ∈ (g.es.getD k e0).i) => show 0 ≤ x ∧ x < (m : Int) from by
    rw [← hm]
    refine rng_at hrn (List.mem_append_right _ (List.mem_append_right _ (List.mem_flatMap.2 ⟨g.es.getD k e0, ?_, ?_⟩)))
    · rw [List.getD_eq_getElem?_getD, List.getElem?_eq_getElem hk]; exact List.getElem_mem hk
    · simp only [List.mem_append]; exact Or.inl hx
  have HL := Lib.hid fun (k : Nat) (hk : k < g.es.length) => hle (g.es.getD k e0) (by rw [List.getD_eq_getElem?_getD, List.getElem?_eq_getElem hk]; exact List.getElem_mem hk)
  unfold grV
  rw [hm, Int.toNat_natCast]
  obtain ⟨ea, ec, rfl⟩ := he.shape
  have HS0 := Lib.hid ((Sep.start w).box #[.int .i64 m, .slice ea g.es.length ec, iv, ov] 29)
  obtain ⟨x0, x1, _⟩ := bq4 HS0.out.hd
  have hge : g.es.length ≤ 60 := hg1
  clear he hg hm hrn hle hii hz0 hz1 hz2 hg1
  go_enter Try.func105, Try.ntmps105
  go_wp2_with (
    at_make
    refine wpList_make_full _ rfl _ _ 23 rfl (w.heap.size + 1) 3 i0 (.int .i64 0) 1 Try.underlying23 HI.out HZ0.out HZ1.out _ _ _ _ m rfl rfl rfl rfl (by rw [HZ2.out]; omega) (by unfold maxLen; omega) (by simp) ?_
    intro w1 hown' hgr'
    have hs1 : Sep w1 (OI (.slice (some ⟨w.heap.size + 1, 0, none⟩) m m) (List.replicate m 0) :: [BxA w.heap.size #[.int .i64 m, .slice ea g.es.length ec, iv, ov] 29, KeepA w]) := HS0.out.newI hgr' (by
      rw [madeCells_int] at hown'
      unfold OwnInts
      rw [List.length_replicate]
      simpa using hown')
    have HS := Lib.hid hs1
    clear hs1 hown' hgr')
  clear x0 x1
  go_loopw [4, 14] (fun _ i wr => ∃ k : Nat, k ≤ m ∧ i = .int .i64 k ∧ Sep wr (OI (.slice (some ⟨w.heap.size + 1, 0, none⟩) m m) (List.replicate k (-1) ++ List.replicate (m - k) 0) :: [BxA w.heap.size #[.int .i64 m, .slice ea g.es.length ec, iv, ov] 29, KeepA w])) (fun _ i _ => m - (intOf i).toNat)
  case atStart => exact ⟨0, by omega, rfl, by simpa using HS.out⟩
  case round =>
    obtain ⟨k, hk, rfl, hs⟩ := hrel
    have HSR := Lib.hid hs
    clear HS hs
    by_cases hlt : k < m
    · have hlen : m = (List.replicate k (-1 : Int) ++ List.replicate (m - k) (0 : Int)).length := by simp; omega
      have hc := own_at (show OwnInts 0 wr _ _ from HSR.out.hd) hlen hlt
      have hf := (show OwnInts 0 wr _ _ from HSR.out.hd).free hlen k
      have hs2 := HSR.out.setI hlen k (-1)
      rw [fillN_set hlt] at hs2
      have HS2 := Lib.hid hs2
      generalize (List.replicate k (-1 : Int) ++ List.replicate (m - k) (0 : Int)).getD k 0 = y at *
      clear hs2 hlen
      go_wp2
      go_roundw
      case rel => exact ⟨k + 1, by omega, by go_num, HS2.out⟩
      case measure => simp [intOf]; omega
    · have hkn : k = m := by omega
      subst hkn
      have hs := HSR.out
      rw [Nat.sub_self, List.replicate_zero, List.append_nil] at hs
      obtain ⟨x0, x1, _⟩ := bq4 hs.tl.hd
      have HSE := Lib.hid hs
      clear hs HSR hlt
      go_wp2
      clear x0 x1
      go_loopw [5, 6, 8, 24] (fun _ _ _ i wr => ∃ (q : Nat) (L : List Int), q ≤ g.es.length ∧ i = .int .i64 q ∧ OrgAt Ed.i g.es k q 0 L ∧ Sep wr (OI (.slice (some ⟨w.heap.size + 1, 0, none⟩) k k) L :: [KeepA w])) (fun _ _ _ i _ => g.es.length - (intOf i).toNat)
      case atStart => exact ⟨0, _, by omega, rfl, OrgAt.start, HSE.out.drop2⟩
      case round =>
        obtain ⟨q, L, hq, rfl, hor, hs⟩ := hrel
        have HOR := Lib.hid hor
        have HSR := Lib.hid hs
        clear hor HSE
        by_cases hlt : q < g.es.length
        · obtain ⟨b, o, iv2, ov2, hea, hat⟩ := (HRE.out _ (grownBy_refl w none)).atK rfl rfl hlt
          have hK : w.grownBy wr none := hs.tl.hd
          obtain ⟨eq, heq⟩ : ∃ eq, eq = g.es.getD q e0 := ⟨_, rfl⟩
          have hwq := fun x hx => HW.out q hlt x hx
          have hl2 := HL.out q hlt
          rw [← heq] at hat hwq hl2
          obtain ⟨ia2, ic2, rfl⟩ := (hat wr hK).2.1.shape
          obtain ⟨oa2, oc2, rfl⟩ := (hat wr hK).2.2.shape
          obtain ⟨y0, y1, y2, y3⟩ := (hat wr hK).1
          subst hea
          have HWQ := Lib.hid hwq
          have HQ := Lib.hid hlt
          have hs7 := Sep.s2 (hs.box #[.int .i64 eq.k, .int .i64 eq.v, .slice ia2 eq.i.length ic2, .slice oa2 eq.o.length oc2] 69)
          obtain ⟨z0, z1, z2, z3, _⟩ := bq4 hs7.tl.hd
          have HS7 := Lib.hid hs7
          have HAT := Lib.hid fun W (h : w.grownBy W none) => (hat W h).2.1
          have hqi : (q : Int) < (g.es.length : Int) := by omega
          have HEQ := Lib.hid heq
          clear hs hs7 hat hK heq hwq
          go_wp2
          go_loopw [8, 32] (fun _ i wr => ∃ (t : Nat) (L : List Int), t ≤ eq.i.length ∧ i = .int .i64 t ∧ OrgAt Ed.i g.es k q t L ∧ Sep wr (OI (.slice (some ⟨w.heap.size + 1, 0, none⟩) k k) L :: [KeepA w])) (fun _ i _ => eq.i.length - (intOf i).toNat)
          case atStart => exact ⟨0, L, by omega, rfl, HOR.out, HS7.out.drop2⟩
          case round =>
            obtain ⟨t, L2, ht, rfl, hor2, hs2⟩ := hrel
            have HOR2 := Lib.hid hor2
            have HSI := Lib.hid hs2
            clear hor2 HOR HSR HS7 y0 y1 y2 y3 z0 z1 z2 z3
            by_cases htl : t < eq.i.length
            · obtain ⟨b3, o3, hsa, _, hc⟩ := (HAT.out wr hs2.tl.hd).atD (i := t) htl
              have hx := HWQ.out _ (getD_mem' htl)
              obtain ⟨v, hv⟩ := Int.eq_ofNat_of_zero_le hx.1
              have hvk : v < k := by omega
              have HST := Lib.hid (HOR2.out.step HQ.out (by rw [← HEQ.out]; exact htl) (by rw [← HEQ.out]; exact hv) hvk)
              rw [hv] at hc
              have hln : k = L2.length := HOR2.out.1.symm
              have c0 := own_at (show OwnInts 0 wr _ L2 from hs2.hd) hln hvk
              have c1 := (show OwnInts 0 wr _ L2 from hs2.hd).free hln v
              have HS3 := Lib.hid (hs2.setI hln v (q : Int))
              have hvi : (v : Int) < (k : Int) := by omega
              have hti : (t : Int) < (eq.i.length : Int) := by omega
              generalize L2.getD v 0 = old at c0
              subst hsa
              clear hx hv hs2 hln
              go_wp2
              go_roundw
              case rel => exact ⟨t + 1, _, by omega, by go_num, HST.out, HS3.out⟩
              case measure => simp [intOf]; omega
            · have HTN := Lib.hid (HOR2.out.next (by rw [← HEQ.out]; omega))
              clear hs2
              go_wp2
              go_roundw
              case rel => exact ⟨q + 1, L2, by omega, by go_num, HTN.out, HSI.out⟩
              case measure => simp [intOf]; omega
        · have hqn : q = g.es.length := by omega
          subst hqn
          have HD := Lib.hid HOR.out.done
          have hL := HOR.out.1
          have HFS := Lib.hid (show Sep wr (OI (.slice (some ⟨w.heap.size + 1, 0, none⟩) L.length k) L :: [KeepA w]) from by rw [hL]; exact hs)
          have HLL := Lib.hid hL
          clear hs hL
          go_wp2
          go_ret
          exact ⟨_, _, L, by rw [HLL.out]; rfl, HD.out, HFS.out⟩
end Go.Proofs.Ytlpgjnjhhgjkmaa

/-
  A part of a match is grown along its edges, in plain Lean. Conditions: as each says.
-/
namespace Go.Proofs.Ytlpgjnjhhgjkmaa
open Go.RowKit
set_option linter.unusedVariables false

/-- A part in which every edge that has an image has its wires' images too. -/
structure Gd (g p : Gr) (W E : List Int) : Prop where
  lw : W.length = p.n.toNat
  le : E.length = p.es.length
  rw : ∀ x ∈ W, x = -1 ∨ (0 ≤ x ∧ x < g.n)
  re : ∀ x ∈ E, x = -1 ∨ (0 ≤ x ∧ x < (g.es.length : Int))
  inj : InjL W
  inE : InjL E
  ed : ∀ j, j < p.es.length → 0 ≤ E.getD j 0 → (∀ x ∈ (p.es.getD j e0).i ++ (p.es.getD j e0).o, 0 ≤ W.getD x.toNat 0) ∧ edAt g.es (E.getD j 0) = ⟨(p.es.getD j e0).k, (p.es.getD j e0).v, (p.es.getD j e0).i.map (lkL W), (p.es.getD j e0).o.map (lkL W)⟩
section
variable {g p : Gr} {W E : List Int}
theorem Gd.edge (hf : Fine g p) (h : Gd g p W E) {j f : Nat} (hj : j < p.es.length) (hfl : f < g.es.length) (h0 : E.getD j 0 < 0) (hn : (f : Int) ∉ E) (hk : (p.es.getD j e0).k = (g.es.getD f e0).k) (hv : (p.es.getD j e0).v = (g.es.getD f e0).v)
    {W' : List Int} (hs : setsL W (pairsOf (p.es.getD j e0) (g.es.getD f e0)) = some W') : Gd g p W' (E.set j (f : Int)) := by
  have hle := h.le
  have hpk := pairs_ok hf hj hfl
  have hkk := hf.kk j f hj hfl hk
  obtain ⟨f1, f2, f3, f4⟩ := setsL_facts (n := g.n) (by rw [h.lw]; exact hpk) hs h.inj h.rw
  have hse : setL E j (f : Int) = some (E.set j (f : Int)) := by unfold setL; rw [if_neg (by omega), if_neg hn]
  refine ⟨by rw [setsL_len hs, h.lw], by rw [List.length_set, h.le], f2, setL_rng hse h.re ⟨by omega, by omega⟩, f1, setL_inj hse (by omega) h.inE, fun i hi hge => ?_⟩
  rw [gd_set (by omega)] at hge ⊢
  by_cases e : j = i
  · subst e
    rw [if_pos rfl, edAt_eq rfl]
    have hall : ∀ x ∈ pairsOf (p.es.getD j e0) (g.es.getD f e0), lkL W' x.1 = x.2 := fun x hx => by rw [lk_eq (hpk x hx).1.1]; exact f4 x hx
    have hm := (pairs_iff (f := lkL W') hkk.1 hkk.2).2 hall
    refine ⟨fun x hx => ?_, by rw [hk, hv, hm.1, hm.2]⟩
    obtain ⟨t, ht, rfl⟩ := List.mem_iff_getElem.1 hx
    have hlen : ((p.es.getD j e0).i ++ (p.es.getD j e0).o).length = ((g.es.getD f e0).i ++ (g.es.getD f e0).o).length := by rw [List.length_append, List.length_append, hkk.1, hkk.2]
    have hz : (((p.es.getD j e0).i ++ (p.es.getD j e0).o)[t], ((g.es.getD f e0).i ++ (g.es.getD f e0).o)[t]'(by omega)) ∈ pairsOf (p.es.getD j e0) (g.es.getD f e0) := by
      unfold pairsOf
      rw [← List.getElem_zip (h := by rw [List.length_zip]; omega)]
      exact List.getElem_mem _
    have := f4 _ hz
    have h0 := (hpk _ hz).2.1
    simp only at this h0
    rw [this]; exact h0
  · rw [if_neg e] at hge ⊢
    obtain ⟨d1, d2⟩ := h.ed i hi hge
    refine ⟨fun x hx => by rw [f3 _ (d1 x hx)]; exact d1 x hx, ?_⟩
    rw [d2]
    have hw : ∀ x ∈ (p.es.getD i e0).i ++ (p.es.getD i e0).o, lkL W' x = lkL W x := fun x hx => by
      have h0 := (hf.wp i hi x hx).1
      rw [lk_eq h0, lk_eq h0]; exact f3 _ (d1 x hx)
    congr 1
    · exact List.map_congr_left fun x hx => (hw x (List.mem_append_left _ hx)).symm
    · exact List.map_congr_left fun x hx => (hw x (List.mem_append_right _ hx)).symm
/-- One wire more, where no edge asks. -/
theorem Gd.wire (h : Gd g p W E) {w v : Nat} (hw : w < W.length) (h0 : W.getD w 0 = -1) (hv : (v : Int) < g.n) (hn : (v : Int) ∉ W) : Gd g p (W.set w (v : Int)) E := by
  have hs : setL W w (v : Int) = some (W.set w (v : Int)) := by unfold setL; rw [if_neg (by omega), if_neg hn]
  have hg := setL_get hs hw
  refine ⟨by rw [List.length_set, h.lw], h.le, setL_rng hs h.rw ⟨by omega, hv⟩, h.re, setL_inj hs hw h.inj, h.inE, fun j hj hge => ?_⟩
  obtain ⟨d1, d2⟩ := h.ed j hj hge
  refine ⟨fun x hx => by rw [hg.2 _ (d1 x hx)]; exact d1 x hx, ?_⟩
  rw [d2]
  have hq : ∀ x ∈ (p.es.getD j e0).i ++ (p.es.getD j e0).o, lkL (W.set w (v : Int)) x = lkL W x := fun x hx => by
    unfold lkL
    split
    · exact hg.2 _ (d1 x hx)
    · rfl
  congr 1
  · exact List.map_congr_left fun x hx => (hq x (List.mem_append_left _ hx)).symm
  · exact List.map_congr_left fun x hx => (hq x (List.mem_append_right _ hx)).symm
theorem Gd.whole (h : Gd g p W E) (hW : (-1 : Int) ∉ W) (hE : (-1 : Int) ∉ E) : IsMt g p ⟨W, E⟩ := by
  have hr : ∀ x ∈ W, 0 ≤ x ∧ x < g.n := fun x hx => by
    rcases h.rw x hx with rfl | h
    · exact absurd hx hW
    · exact h
  have hr2 : ∀ x ∈ E, 0 ≤ x ∧ x < (g.es.length : Int) := fun x hx => by
    rcases h.re x hx with rfl | h
    · exact absurd hx hE
    · exact h
  have nd : ∀ {L : List Int}, InjL L → (∀ x ∈ L, 0 ≤ x) → L.Nodup := fun {L} hi hp => by
    refine List.pairwise_iff_getElem.2 ?_
    intro a b ha hb hab he
    have e2 : L.getD a 0 = L.getD b 0 := by rw [List.getD_eq_getElem?_getD, List.getD_eq_getElem?_getD, List.getElem?_eq_getElem ha, List.getElem?_eq_getElem hb]; exact he
    have := hi a b ha hb (hp _ (getD_mem' ha)) e2
    omega
  refine ⟨h.lw, h.le, hr, hr2, nd h.inj fun x hx => (hr x hx).1, nd h.inE fun x hx => (hr2 x hx).1, fun j hj => (h.ed j hj ?_).2⟩
  exact (hr2 _ (getD_mem' (by rw [h.le]; exact hj))).1
theorem Gd.start : Gd g p (List.replicate p.n.toNat (-1)) (List.replicate p.es.length (-1)) := by
  have hm : ∀ n i, i < n → (List.replicate n (-1 : Int)).getD i 0 = -1 := fun n i hi => by
    rw [List.getD_eq_getElem?_getD, List.getElem?_replicate, if_pos hi]; rfl
  have hi : ∀ n, InjL (List.replicate n (-1 : Int)) := fun n a b ha hb h0 _ => by
    rw [hm n a (by simpa using ha)] at h0
    exact absurd h0 (by decide)
  refine ⟨by simp, by simp, fun x hx => Or.inl (List.eq_of_mem_replicate hx), fun x hx => Or.inl (List.eq_of_mem_replicate hx), hi _, hi _, fun j hj h0 => ?_⟩
  rw [hm _ j hj] at h0
  exact absurd h0 (by decide)
/-- What a match tells of an edge and its image. -/
theorem mt_tells (hf : Fine g p) {j f : Nat} (hj : j < p.es.length) (hfl : f < g.es.length) {M : Mt} (hM : IsMt g p M) (he : M.E.getD j 0 = (f : Int)) :
    (p.es.getD j e0).k = (g.es.getD f e0).k ∧ (p.es.getD j e0).v = (g.es.getD f e0).v ∧ ∀ x ∈ pairsOf (p.es.getD j e0) (g.es.getD f e0), M.W.getD x.1.toNat 0 = x.2 := by
  have hed := hM.ed j hj
  rw [edAt_eq he] at hed
  have hk : (p.es.getD j e0).k = (g.es.getD f e0).k := by rw [hed]
  have hv : (p.es.getD j e0).v = (g.es.getD f e0).v := by rw [hed]
  have hkk := hf.kk j f hj hfl hk
  refine ⟨hk, hv, fun x hxp => ?_⟩
  have := (pairs_iff (f := lkL M.W) hkk.1 hkk.2).1 ⟨by rw [hed], by rw [hed]⟩ x hxp
  rw [lk_eq (pairs_ok hf hj hfl x hxp).1.1] at this
  exact this
end
/-- A wire is in one edge's list alone. -/
theorem uniq_flat {S : Ed → List Int} {es : List Ed} (h : (es.flatMap S).Nodup) {a b : Nat} {x : Int} (ha : a < es.length) (hb : b < es.length) (h1 : x ∈ S (es.getD a e0)) (h2 : x ∈ S (es.getD b e0)) : a = b := by
  have hp := (List.pairwise_flatMap.1 h).2
  rw [List.pairwise_iff_getElem] at hp
  have ga : es.getD a e0 = es[a] := by rw [List.getD_eq_getElem?_getD, List.getElem?_eq_getElem ha]; rfl
  have gb : es.getD b e0 = es[b] := by rw [List.getD_eq_getElem?_getD, List.getElem?_eq_getElem hb]; rfl
  rw [ga] at h1
  rw [gb] at h2
  rcases Nat.lt_trichotomy a b with hl | hl | hl
  · exact absurd rfl (hp a b ha hb hl x h1 x h2)
  · exact hl
  · exact absurd rfl (hp b a hb ha hl x h2 x h1)
/-- What is asked of the end of a wire: S is 'the outputs' or 'the inputs'. -/
theorem push_ok {S : Ed → List Int} {g p : Gr} {L K : List Int} {n m : Nat} (hL : OrgOk S p.es n L) (hK : OrgOk S g.es m K) (hnd : (g.es.flatMap S).Nodup) {w v : Nat} (hw : w < n) (hv : v < m) {M : Mt}
    (hS : ∀ e, e < p.es.length → S (edAt g.es (M.E.getD e 0)) = (S (p.es.getD e e0)).map (lkL M.W)) (hE : ∀ e, e < p.es.length → 0 ≤ M.E.getD e 0 ∧ M.E.getD e 0 < (g.es.length : Int)) (hMW : M.W.getD w 0 = (v : Int)) (h0 : 0 ≤ L.getD w 0) :
    M.E.getD (L.getD w 0).toNat 0 = K.getD v 0 := by
  rcases hL.2 w hw with ⟨h1, _⟩ | ⟨e, he, h1, h2⟩
  · omega
  · rw [h1, Int.toNat_natCast]
    obtain ⟨q, hq⟩ := Int.eq_ofNat_of_zero_le (hE e he).1
    have hql : q < g.es.length := by have := (hE e he).2; omega
    have hin : (v : Int) ∈ S (g.es.getD q e0) := by
      have := hS e he
      rw [edAt_eq hq] at this
      rw [this, List.mem_map]
      exact ⟨(w : Int), h2, by rw [lk_eq (by omega), Int.toNat_natCast]; exact hMW⟩
    rcases hK.2 v hv with ⟨_, h3⟩ | ⟨f, hf, h3, h4⟩
    · exact absurd hin (h3 q hql)
    · rw [h3, hq, uniq_flat hnd hql hf hin h4]
theorem isMt_side {g p : Gr} {M : Mt} (h : IsMt g p M) : (∀ e, e < p.es.length → Ed.o (edAt g.es (M.E.getD e 0)) = (Ed.o (p.es.getD e e0)).map (lkL M.W)) ∧ (∀ e, e < p.es.length → Ed.i (edAt g.es (M.E.getD e 0)) = (Ed.i (p.es.getD e e0)).map (lkL M.W)) ∧ ∀ e, e < p.es.length → 0 ≤ M.E.getD e 0 ∧ M.E.getD e 0 < (g.es.length : Int) :=
  ⟨fun e he => by rw [h.ed e he], fun e he => by rw [h.ed e he], fun e he => h.re _ (getD_mem' (by rw [h.le]; exact he))⟩
theorem mon_nodup {g : Gr} (h : mgB g = true) : (g.es.flatMap Ed.o).Nodup ∧ (g.es.flatMap Ed.i).Nodup := by
  unfold mgB monB permB fromL toL at h
  simp only [Bool.and_eq_true, decide_eq_true_iff] at h
  exact ⟨(List.nodup_append.1 h.2.1.2).2.1, (List.nodup_append.1 h.2.2.2).2.1⟩
end Go.Proofs.Ytlpgjnjhhgjkmaa

/-
  Queues of numbers: an own slice that is cut at its front and appended to. Conditions: lengths are small.
-/
namespace Go.Proofs.Ytlpgjnjhhgjkmaa
open Go.RowKit
set_option linter.unusedVariables false
set_option maxRecDepth 100000

/-- A queue as a part of the memory. -/
def QA (v : Value) (zs : List Int) : Asrt := ⟨QHits v, QHits v, fun w => QRow w v zs, fun _ h => h, fun w k h hk => h.lt k hk, fun w w' h ho => h.only ho fun k hk h' => h' hk⟩
theorem OwnInts.queue {B : Nat} {w : World} {v : Value} {zs : List Int} (h : OwnInts B w v zs) : QRow w v zs := by
  obtain ⟨a, c, rfl⟩ := own_shape h
  rcases h.2 with ⟨he, h0⟩ | ⟨g, cap, cur, he, _, hg, hn, hm, hs, ht⟩
  · injection he with e1 e2 e3
    exact ⟨a, c, rfl, by omega, by rw [e3]; exact Nat.zero_le _, fun hc => by omega⟩
  · injection he with e1 e2 e3
    subst e1 e3
    refine ⟨_, _, rfl, hn, hm, fun hc => ⟨g, 0, rfl, blk_lt hg, fun j hj => ?_, fun j hj => ?_⟩⟩
    · rw [Nat.zero_add]
      refine ⟨?_, frozen_of_row w g j _ _ hg⟩
      rw [cell_of_row w g j _ _ _ hg]
      rw [Array.getElem?_eq_getElem (by omega)]
      rfl
    · rw [Nat.zero_add, List.getD_eq_getElem?_getD, List.getElem?_eq_getElem hj]
      exact h.cell rfl hj
theorem Sep.queue {w : World} {v : Value} {zs : List Int} {l : List Asrt} (h : Sep w (OI v zs :: l)) : Sep w (QA v zs :: l) := by
  refine h.upd' (Only.refl _ _) h.hd.queue fun k hk => Or.inl ?_
  cases v with
  | slice a n c =>
    cases a with
    | none => exact hk.elim
    | some ad => exact congrArg some hk.2
  | _ => exact hk.elim
theorem QRow.head {w : World} {v : Value} {x : Int} {zs : List Int} (h : QRow w v (x :: zs)) : ∃ g off cap, v = .slice (some ⟨g, off, none⟩) (zs.length + 1) (cap + 1) ∧ w.cell? ⟨g, off, none⟩ = some (.int .i64 x) := by
  obtain ⟨a, cap, rfl, h1, _, h⟩ := h
  simp only [List.length_cons] at h1
  obtain ⟨c', rfl⟩ : ∃ c', cap = c' + 1 := ⟨cap - 1, by omega⟩
  obtain ⟨g, off, rfl, _, _, h4⟩ := h (by omega)
  exact ⟨g, off, c', rfl, h4 0 (by simp)⟩
/-- The first is taken off: the rest lies one further on. -/
theorem Sep.cutQ {w : World} {g off n cap : Nat} {x : Int} {zs : List Int} {l : List Asrt} (h : Sep w (QA (.slice (some ⟨g, off, none⟩) n (cap + 1)) (x :: zs) :: l)) : Sep w (QA (.slice (some ⟨g, off + 1, none⟩) zs.length cap) zs :: l) := by
  refine h.upd' (Only.refl _ _) ?_ fun k hk => Or.inl ⟨by omega, hk.2⟩
  obtain ⟨a, c, he, h1, h2, h3⟩ := h.hd
  injection he with e1 e2 e3
  subst e1 e3
  simp only [List.length_cons] at h1
  refine ⟨_, cap, rfl, by omega, by omega, fun hc => ?_⟩
  obtain ⟨g', off', ha, hg, h4, h5⟩ := h3 (by omega)
  injection ha with ha
  injection ha with hb ho
  subst hb ho
  refine ⟨g, off + 1, rfl, hg, fun j hj => ?_, fun j hj => ?_⟩
  · have := h4 (j + 1) (by omega)
    rwa [show off + (j + 1) = off + 1 + j by omega] at this
  · have := h5 (j + 1) (by simp; omega)
    rw [show off + (j + 1) = off + 1 + j by omega] at this
    exact this
theorem Sep.cutQ0 {w : World} {a : Option Addr} {g off n : Nat} {x : Int} {zs : List Int} {l : List Asrt} (h : Sep w (QA (.slice (some ⟨g, off, none⟩) n 1) (x :: zs) :: l)) : Sep w (QA (.slice a 0 0) [] :: l) := by
  refine h.upd' (Only.refl _ _) ⟨a, 0, rfl, Nat.le_refl _, Nat.zero_le _, fun hc => absurd hc (Nat.lt_irrefl _)⟩ fun k hk => ?_
  cases a with
  | none => exact hk.elim
  | some ad => exact absurd hk.1 (Nat.lt_irrefl _)
theorem only_setCells (g : Nat) : ∀ (vs : List Value) (o : Nat) (w : World), Only (fun k => k = g) w (w.setCells g o vs)
  | [], _, w => Only.refl _ w
  | v :: r, o, w => (set_only w ⟨g, o, none⟩ v).trans (only_setCells g r (o + 1) _)
theorem ints_src {w : World} {u : Value} {ys : List Int} (hu : IntsV w u ys) : Src Try.prog 1 23 u ys.length (ys.map (Value.int .i64)) w := by
  obtain ⟨ua, ucap, rfl, hr⟩ := hu
  cases ua with
  | none =>
    have hy : ys = [] := by
      cases ys with
      | nil => rfl
      | cons z zs => obtain ⟨d, hd, _⟩ := hr (by simp); cases hd
    subst hy
    exact Src.ofNil w Try.underlying23 ucap
  | some d =>
    refine Src.ofSlice w Try.underlying23 d ys.length ucap (ys.map (Value.int .i64)) (by simp) (fun j x hj => ?_) (fun x hx => by obtain ⟨z, _, rfl⟩ := List.mem_map.1 hx; rfl)
    have hjy : j < ys.length := by
      rcases Nat.lt_or_ge j ys.length with h | h
      · exact h
      · rw [List.getElem?_eq_none (by simpa using h)] at hj; cases hj
    obtain ⟨d', hd, hsp, hdb, hc⟩ := hr (by intro h; rw [h] at hjy; simp at hjy)
    cases hd
    have := hc j hjy
    simp [hjy] at hj
    subst hj
    obtain ⟨db, dof, _⟩ := d
    simp only at hsp
    subst hsp
    unfold Addr.add; split
    · next h0 => subst h0; simpa using this
    · exact this
theorem queue_new {W : World} {X : Array Value} {G b : Nat} {zs : List Int} (hb : b = W.heap.size) (hX : X.size = G) (hG : zs.length ≤ G) (hm : G ≤ maxLen) (hz : ∀ j, j < zs.length → X[j]? = some (.int .i64 (zs.getD j 0))) :
    QRow (W.alloc (.cells X 3)) (.slice (some ⟨b, 0, none⟩) zs.length G) zs := by
  subst hb
  have h := alloc_heap_new W (.cells X 3)
  refine ⟨_, G, rfl, hG, hm, fun hc => ⟨W.heap.size, 0, rfl, blk_lt h, fun j hj => ?_, fun j hj => ?_⟩⟩
  · rw [Nat.zero_add]
    refine ⟨?_, frozen_of_row _ _ j _ _ h⟩
    rw [cell_of_row _ _ j _ _ _ h, Array.getElem?_eq_getElem (by omega)]
    rfl
  · rw [Nat.zero_add, cell_of_row _ _ j _ _ _ h]
    exact hz j hj
theorem run_app_Q {w : World} {v u : Value} {zs ys : List Int} {l : List Asrt} (ty : TypeId) (H : Sep w (QA v zs :: l)) (hu : IntsV w u ys) (hl : zs.length + ys.length ≤ 1000000000) :
    ∃ v' w', (Builtin.append_ #[23, 23] ty #[v, u]).run Try.prog w = .ok v' w' ∧ Sep w' (QA v' (zs ++ ys) :: l) := by
  obtain ⟨i0, hi, hz0, hz1, hz2⟩ := info_parts info_int
  have hs := ints_src hu
  obtain ⟨a, cap, rfl, h1, h2, h3⟩ := H.hd
  by_cases hn : ys.length = 0
  · have hy : ys = [] := List.eq_nil_of_length_eq_zero hn
    subst hy
    have := run_append_nothing (P := Try.prog) w 23 23 ty 3 i0 Try.underlying23 hi a zs.length cap h1 u (by rw [hz1]; exact hs)
    exact ⟨_, _, this, by rw [List.append_nil]; exact H⟩
  have hnews : (ys.map (Value.int .i64)).length = ys.length := by simp
  by_cases hroom : zs.length + ys.length ≤ cap
  · obtain ⟨g, off, rfl, hg, h4, h5⟩ := h3 (by omega)
    have hrun := run_append_room_src (P := Try.prog) w 23 23 ty 3 i0 Try.underlying23 hi g off zs.length cap u ys.length (ys.map (Value.int .i64)) (by rw [hz1]; exact hs) hroom
      (fun j hj => by rw [hz1, Nat.mul_one, Nat.add_assoc]; exact (h4 (zs.length + j) (by omega)).1) (fun j hj => by rw [hz1, Nat.mul_one, Nat.add_assoc]; exact (h4 (zs.length + j) (by omega)).2)
    rw [hz1, Nat.mul_one] at hrun
    refine ⟨_, _, hrun, ?_⟩
    have hO := only_setCells g (ys.map (Value.int .i64)) (off + zs.length) w
    refine H.upd' (hO.mono fun k hk => ?_) ?_ fun k hk => Or.inl ?_
    · subst hk; exact ⟨by omega, rfl⟩
    · refine ⟨_, cap, by rw [List.length_append], by rw [List.length_append]; exact hroom, h2, fun hc => ⟨g, off, rfl, Nat.lt_of_lt_of_le hg hO.size, fun j hj => ?_, fun j hj => ?_⟩⟩
      · refine ⟨World.isSome_setCells g _ _ _ _ (h4 j hj).1, ?_⟩
        rw [World.frozen?_setCells]
        exact (h4 j hj).2
      · rw [List.length_append] at hj
        by_cases hjz : j < zs.length
        · rw [World.cell?_setCells_out g _ _ _ ⟨g, off + j, none⟩ (fun _ _ => Or.inl (by simp; omega)), h5 j hjz]
          rw [List.getD_eq_getElem?_getD, List.getD_eq_getElem?_getD, List.getElem?_append_left hjz]
        · have hk : j - zs.length < (ys.map (Value.int .i64)).length := by rw [hnews]; omega
          have := World.cell?_setCells_in g (ys.map (Value.int .i64)) (off + zs.length) w (fun i hi' => by rw [Nat.add_assoc]; exact (h4 (zs.length + i) (by rw [hnews] at hi'; omega)).1) (j - zs.length) hk
          rw [show off + zs.length + (j - zs.length) = off + j by omega] at this
          rw [this, List.getElem_map, List.getD_eq_getElem?_getD, List.getElem?_append_right (by omega), List.getElem?_eq_getElem (by rw [hnews] at hk; exact hk)]
          rfl
    · exact hk
  · have hold : (Builtin.firstCells i0.size zs.length (.slice a zs.length cap)).run Try.prog w.drew = .ok (zs.map (Value.int .i64)).toArray w.drew := by
      rw [hz1]
      by_cases hc : 0 < cap
      · obtain ⟨g, off, rfl, hg, h4, h5⟩ := h3 hc
        refine run_firstCells_some w.drew 1 zs.length ⟨g, off, none⟩ zs.length cap (zs.map (Value.int .i64)) (by simp) fun j x hj => ?_
        have hjz : j < zs.length := by
          rcases Nat.lt_or_ge j zs.length with h | h
          · exact h
          · rw [List.getElem?_eq_none (by simpa using h)] at hj; cases hj
        have h6 := h5 j hjz
        rw [List.getD_eq_getElem?_getD, List.getElem?_eq_getElem hjz] at h6
        simp [hjz] at hj
        subst hj
        show w.cell? _ = _
        unfold Addr.add
        split
        · next h0 => subst h0; simpa using h6
        · exact h6
      · have hz : zs = [] := List.eq_nil_of_length_eq_zero (by omega)
        subst hz
        cases a with
        | none => exact run_firstCells_none w.drew 1 0 0 cap
        | some ad => exact run_firstCells_some w.drew 1 0 ad 0 cap [] (by simp) (fun j x hj => by simp at hj)
    have hrun := run_append_grow_src (P := Try.prog) w 23 23 ty 3 i0 (.int .i64 0) Try.underlying23 hi hz0 a zs.length cap (zs.map (Value.int .i64)) hold u ys.length (ys.map (Value.int .i64)) (by rw [hz1]; exact hs) (by omega) (by omega) (growslice_fits (by omega) (by rw [hz2]; omega))
    refine ⟨_, _, hrun, ?_⟩
    have hge := grownCap_ge w (zs.length + ys.length) cap 3
    have hcm := grownCap_le_maxLen w (zs.length + ys.length) cap 3 (by unfold maxLen; omega)
    generalize hG : grownCap w (zs.length + ys.length) cap 3 = G at *
    have hsz : ((zs.map (Value.int .i64) ++ ys.map (Value.int .i64)).toArray ++ Builtin.zeroCells (Value.int .i64 0).cells (G - (zs.length + ys.length))).size = G := by
      rw [Array.size_append, List.size_toArray, List.length_append, List.length_map, List.length_map, size_zeroCells]
      show zs.length + ys.length + (G - (zs.length + ys.length)) * 1 = G
      omega
    generalize hX : (zs.map (Value.int .i64) ++ ys.map (Value.int .i64)).toArray ++ Builtin.zeroCells (Value.int .i64 0).cells (G - (zs.length + ys.length)) = X at *
    have hq : QRow (w.drew.alloc (.cells X 3)) (.slice (some ⟨w.heap.size, 0, none⟩) (zs ++ ys).length G) (zs ++ ys) := by
      refine queue_new rfl hsz (by rw [List.length_append]; exact hge) hcm fun j hj => ?_
      rw [List.length_append] at hj
      rw [← hX, Array.getElem?_append_left (by simp; omega), List.getElem?_toArray, ← List.map_append, List.getElem?_map, List.getD_eq_getElem?_getD, List.getElem?_eq_getElem (by simp; omega)]
      rfl
    rw [List.length_append] at hq
    refine H.upd' (A' := QA (.slice (some ⟨w.heap.size, 0, none⟩) (zs.length + ys.length) G) (zs ++ ys)) ((Only.drew _ w).trans (Only.of_grown (grownBy_alloc w.drew _ none) (by simp))) hq fun k hk => Or.inr ?_
    exact Nat.le_of_eq hk.2
/-- 'todo = append(todo, ys...)', todo a queue. -/
theorem app_Q {ops : Array Oper} {rest : List Oper} {o : Oper} {a : Act} {Q : Exit → Act → World → Prop} (hgd : o.guard = none) (s x : Operand)
    (ho : o.op = .call { callee := .builtin .append, args := #[s, x], argTypes := #[23, 23] })
    {w : World} {v u : Value} {zs ys : List Int} {l : List Asrt} (hs : a.eval s = v) (hx : a.eval x = u) (H : Sep w (QA v zs :: l)) (hu : IntsV w u ys) (hl : zs.length + ys.length ≤ 1000000000)
    (h : ∀ v' w', Sep w' (QA v' (zs ++ ys) :: l) → wpList Try.prog ops Q rest (a.put o.dst v') w') : wpList Try.prog ops Q (o :: rest) a w := by
  refine wpList_plain hgd fun K hK => ?_
  obtain ⟨v', w', hrun, hsep⟩ := run_app_Q o.type H hu hl
  unfold Oper.wp execOp
  simp only [ho, resolve, invoke, builtin, Sem.run_bind, Sem.run_pure, Result.andThen_ok, List.map_toArray, List.map_cons, List.map_nil, hs, hx, hrun]
  exact hK _ _ (h v' w' hsep)
end Go.Proofs.Ytlpgjnjhhgjkmaa

/-
  Growing a part, in plain Lean: what holds at each round. Conditions: as each says.
-/
namespace Go.Proofs.Ytlpgjnjhhgjkmaa
open Go.RowKit
set_option linter.unusedVariables false

/-- What is given stays given. -/
def MonoL (A B : List Int) : Prop := ∀ i, 0 ≤ A.getD i (-1) → B.getD i (-1) = A.getD i (-1)
theorem MonoL.refl (A : List Int) : MonoL A A := fun _ _ => rfl
theorem MonoL.fits {A B m : List Int} (h : MonoL A B) (hf : Fits B m) : Fits A m := fun i hi => by
  have h1 := h i hi
  rw [← h1]
  exact hf i (by rw [h1]; exact hi)
/-- The four lists of the wires' ends. -/
structure Ends (g p : Gr) (F T GF GT : List Int) : Prop where
  f : OrgOk Ed.o p.es p.n.toNat F
  t : OrgOk Ed.i p.es p.n.toNat T
  gf : OrgOk Ed.o g.es g.n.toNat GF
  gt : OrgOk Ed.i g.es g.n.toNat GT
theorem OrgOk.rng {S : Ed → List Int} {es : List Ed} {n : Nat} {L : List Int} (h : OrgOk S es n L) {w : Nat} (hw : w < n) : -1 ≤ L.getD w 0 ∧ L.getD w 0 < (es.length : Int) := by
  rcases h.2 w hw with ⟨h1, _⟩ | ⟨e, he, h1, _⟩ <;> omega
def pshT (F T : List Int) (ps : List (Int × Int)) : List Int := ps.flatMap fun x => [F.getD x.1.toNat 0, T.getD x.1.toNat 0]
def pshI (GF GT : List Int) (ps : List (Int × Int)) : List Int := ps.flatMap fun x => [GF.getD x.2.toNat 0, GT.getD x.2.toNat 0]
theorem pshT_snoc (F T : List Int) (ps : List (Int × Int)) (x : Int × Int) : pshT F T (ps ++ [x]) = pshT F T ps ++ [F.getD x.1.toNat 0, T.getD x.1.toNat 0] := by simp [pshT]
theorem pshI_snoc (GF GT : List Int) (ps : List (Int × Int)) (x : Int × Int) : pshI GF GT (ps ++ [x]) = pshI GF GT ps ++ [GF.getD x.2.toNat 0, GT.getD x.2.toNat 0] := by simp [pshI]
theorem pshT_len (F T : List Int) (ps : List (Int × Int)) : (pshT F T ps).length = 2 * ps.length := by
  induction ps with
  | nil => rfl
  | cons x ps ih => show (_ :: _ :: pshT F T ps).length = _; simp only [List.length_cons, ih]; omega
theorem pshI_len (F T : List Int) (ps : List (Int × Int)) : (pshI F T ps).length = 2 * ps.length := by
  induction ps with
  | nil => rfl
  | cons x ps ih => show (_ :: _ :: pshI F T ps).length = _; simp only [List.length_cons, ih]; omega
/-- The pairs of the queue agree with a match. -/
def Agree (M : Mt) : List Int → List Int → Prop
  | x :: T, y :: I => (0 ≤ x → M.E.getD x.toNat 0 = y) ∧ Agree M T I
  | _, _ => True
theorem Agree.app {M : Mt} : ∀ {T I T' I' : List Int}, T.length = I.length → Agree M T I → Agree M T' I' → Agree M (T ++ T') (I ++ I')
  | [], [], _, _, _, _, h => h
  | x :: T, y :: I, T', I', hl, h, h' => ⟨h.1, Agree.app (by simpa using hl) h.2 h'⟩
theorem Agree.psh {g p : Gr} {F T GF GT : List Int} (hf : Ends g p F T GF GT) (hnd : (g.es.flatMap Ed.o).Nodup ∧ (g.es.flatMap Ed.i).Nodup) {M : Mt} (hM : IsMt g p M) : ∀ {ps : List (Int × Int)}, PairOk p.n.toNat g.n ps → (∀ x ∈ ps, M.W.getD x.1.toNat 0 = x.2) → Agree M (pshT F T ps) (pshI GF GT ps)
  | [], _, _ => trivial
  | x :: ps, hp, hv => by
    have hx := hp x (by simp)
    obtain ⟨v, hvv⟩ := Int.eq_ofNat_of_zero_le hx.2.1
    have hw : x.1.toNat < p.n.toNat := by omega
    have hv2 : v < g.n.toNat := by omega
    have hMW : M.W.getD x.1.toNat 0 = (v : Int) := by rw [hv x (by simp), hvv]
    obtain ⟨s1, s2, s3⟩ := isMt_side hM
    have ev : x.2.toNat = v := by omega
    refine ⟨fun h0 => ?_, fun h0 => ?_, Agree.psh hf hnd hM (fun y hy => hp y (by simp [hy])) fun y hy => hv y (by simp [hy])⟩
    · rw [ev]; exact push_ok hf.f hf.gf hnd.1 hw hv2 s1 s3 hMW h0
    · rw [ev]; exact push_ok hf.t hf.gt hnd.2 hw hv2 s2 s3 hMW h0
/-- What holds at the head of a round. -/
structure GSt (g p : Gr) (W0 E0 : List Int) (e f : Nat) (W E T I : List Int) : Prop where
  gd : Gd g p W E
  mw : MonoL W0 W
  me : MonoL E0 E
  tr : ∀ x ∈ T, -1 ≤ x ∧ x < (p.es.length : Int)
  ir : ∀ y ∈ I, -1 ≤ y ∧ y < (g.es.length : Int)
  len : T.length = I.length
  all : ∀ M, IsMt g p M → Ext ⟨W0, E0⟩ M → M.E.getD e 0 = (f : Int) → Ext ⟨W, E⟩ M ∧ Agree M T I
  fst : (E.getD e 0 = (f : Int) ∧ negs E + 1 ≤ negs E0) ∨ (T = [(e : Int)] ∧ I = [(f : Int)] ∧ E = E0)
section
variable {g p : Gr} {W0 E0 W E T I : List Int} {e f : Nat}
theorem GSt.start (hg : Gd g p W0 E0) (he : e < p.es.length) (hf : f < g.es.length) : GSt g p W0 E0 e f W0 E0 [(e : Int)] [(f : Int)] :=
  ⟨hg, MonoL.refl _, MonoL.refl _, fun x hx => by rw [List.mem_singleton.1 hx]; omega, fun x hx => by rw [List.mem_singleton.1 hx]; omega, rfl, fun M hM hx hE => ⟨hx, fun _ => by rw [Int.toNat_natCast]; exact hE, trivial⟩, Or.inr ⟨rfl, rfl, rfl⟩⟩
theorem GSt.skip {x y : Int} (h : GSt g p W0 E0 e f W E (x :: T) (y :: I)) (h0 : x < 0) : GSt g p W0 E0 e f W E T I := by
  refine ⟨h.gd, h.mw, h.me, fun z hz => h.tr z (by simp [hz]), fun z hz => h.ir z (by simp [hz]), by have := h.len; simpa using this, fun M hM hx hE => ⟨(h.all M hM hx hE).1, (h.all M hM hx hE).2.2⟩, ?_⟩
  rcases h.fst with h1 | ⟨h1, _, _⟩
  · exact Or.inl h1
  · injection h1 with h1 _
    omega
theorem GSt.same {x y : Int} (h : GSt g p W0 E0 e f W E (x :: T) (y :: I)) (hx : 0 ≤ x) (hy : 0 ≤ y) (h1 : E.getD x.toNat 0 = y) (h0 : E0.getD e 0 = -1) : GSt g p W0 E0 e f W E T I := by
  refine ⟨h.gd, h.mw, h.me, fun z hz => h.tr z (by simp [hz]), fun z hz => h.ir z (by simp [hz]), by have := h.len; simpa using this, fun M hM hx hE => ⟨(h.all M hM hx hE).1, (h.all M hM hx hE).2.2⟩, ?_⟩
  rcases h.fst with h2 | ⟨h2, h3, h4⟩
  · exact Or.inl h2
  · exfalso
    injection h2 with h2 _
    subst h2
    rw [Int.toNat_natCast, h4, h0] at h1
    omega
/-- No match goes on so. -/
def NoMt (g p : Gr) (W0 E0 : List Int) (e f : Nat) : Prop := ∀ M, IsMt g p M → Ext ⟨W0, E0⟩ M → M.E.getD e 0 ≠ (f : Int)
theorem GSt.no_image {x y : Int} (h : GSt g p W0 E0 e f W E (x :: T) (y :: I)) (hx : 0 ≤ x) (hy : y < 0) : NoMt g p W0 E0 e f := fun M hM hX hE => by
  have := ((h.all M hM hX hE).2).1 hx
  have hr := (isMt_side hM).2.2 x.toNat (by have := h.tr x (by simp); omega)
  omega
theorem GSt.no_other {x y : Int} (h : GSt g p W0 E0 e f W E (x :: T) (y :: I)) (hx : 0 ≤ x) (h1 : 0 ≤ E.getD x.toNat 0) (h2 : E.getD x.toNat 0 ≠ y) : NoMt g p W0 E0 e f := fun M hM hX hE => by
  obtain ⟨ha, hb⟩ := h.all M hM hX hE
  have hl : x.toNat < E.length := by rw [h.gd.le]; have := h.tr x (by simp); omega
  have := ha.2 x.toNat (by rw [gd_gd hl (-1) 0]; exact h1)
  rw [gd_gd hl (-1) 0, hb.1 hx] at this
  exact h2 this.symm
theorem GSt.no_twice {x y : Int} (h : GSt g p W0 E0 e f W E (x :: T) (y :: I)) (hx : 0 ≤ x) (hy : 0 ≤ y) (h1 : E.getD x.toNat 0 < 0) (h2 : y ∈ E) : NoMt g p W0 E0 e f := fun M hM hX hE => by
  obtain ⟨ha, hb⟩ := h.all M hM hX hE
  obtain ⟨j, hj, hv⟩ := mem_gd.1 h2
  have hl : x.toNat < p.es.length := by have := h.tr x (by simp); omega
  have h3 := ha.2 j (by rw [gd_gd hj (-1) 0, hv]; exact hy)
  rw [gd_gd hj (-1) 0, hv, ← hb.1 hx] at h3
  have := h.gd.le
  have hme := hM.le
  rw [List.getD_eq_getElem?_getD, List.getD_eq_getElem?_getD, List.getElem?_eq_getElem (by omega), List.getElem?_eq_getElem (by omega)] at h3
  have := (List.getElem_inj hM.de).1 h3
  subst this
  omega
theorem GSt.no_kind (hf : Fine g p) {x y : Nat} (h : GSt g p W0 E0 e f W E ((x : Int) :: T) ((y : Int) :: I)) (h1 : (p.es.getD x e0).k ≠ (g.es.getD y e0).k ∨ (p.es.getD x e0).v ≠ (g.es.getD y e0).v) : NoMt g p W0 E0 e f := fun M hM hX hE => by
  have hb := (h.all M hM hX hE).2.1 (by omega)
  rw [Int.toNat_natCast] at hb
  have hx := h.tr x (by simp)
  have hy := h.ir y (by simp)
  obtain ⟨a, b, _⟩ := mt_tells hf (j := x) (f := y) (by omega) (by omega) hM hb
  rcases h1 with h1 | h1
  · exact h1 a
  · exact h1 b
theorem GSt.no_set (hf : Fine g p) {x y : Nat} (h : GSt g p W0 E0 e f W E ((x : Int) :: T) ((y : Int) :: I)) (h1 : setsL W (pairsOf (p.es.getD x e0) (g.es.getD y e0)) = none) : NoMt g p W0 E0 e f := fun M hM hX hE => by
  obtain ⟨ha, hb⟩ := h.all M hM hX hE
  have hb := hb.1 (by omega)
  rw [Int.toNat_natCast] at hb
  have hx := h.tr x (by simp)
  have hy := h.ir y (by simp)
  obtain ⟨_, _, c⟩ := mt_tells hf (j := x) (f := y) (by omega) (by omega) hM hb
  obtain ⟨W', h2, _⟩ := setsL_fits (b := g.n) (by rw [h.gd.lw]; exact pairs_ok hf (by omega) (by omega)) ha.1 (by rw [hM.lw, h.gd.lw]) hM.dw c
  rw [h1] at h2
  cases h2
theorem GSt.set (hf : Fine g p) {F2 T2 GF GT : List Int} (hen : Ends g p F2 T2 GF GT) (hnd : (g.es.flatMap Ed.o).Nodup ∧ (g.es.flatMap Ed.i).Nodup) {x y : Nat} (h : GSt g p W0 E0 e f W E ((x : Int) :: T) ((y : Int) :: I)) (h1 : E.getD x 0 < 0) (h2 : (y : Int) ∉ E)
    (hk : (p.es.getD x e0).k = (g.es.getD y e0).k) (hv : (p.es.getD x e0).v = (g.es.getD y e0).v) {W' : List Int} (hs : setsL W (pairsOf (p.es.getD x e0) (g.es.getD y e0)) = some W') (h0 : E0.getD e 0 = -1) (he : e < E0.length) :
    GSt g p W0 E0 e f W' (E.set x (y : Int)) (T ++ pshT F2 T2 (pairsOf (p.es.getD x e0) (g.es.getD y e0))) (I ++ pshI GF GT (pairsOf (p.es.getD x e0) (g.es.getD y e0))) := by
  have hx := h.tr x (by simp)
  have hy := h.ir y (by simp)
  have hxl : x < p.es.length := by omega
  have hyl : y < g.es.length := by omega
  have hpk := pairs_ok hf hxl hyl
  have hle := h.gd.le
  obtain ⟨f1, f2, f3, f4⟩ := setsL_facts (n := g.n) (by rw [h.gd.lw]; exact hpk) hs h.gd.inj h.gd.rw
  have hl : T.length = I.length := by have := h.len; simpa using this
  have hng := negs_set (W := E) (w := x) (v := (y : Int)) (by omega) h1 (by omega)
  refine ⟨h.gd.edge hf hxl hyl h1 h2 hk hv hs, fun i hi => ?_, fun i hi => ?_, fun z hz => ?_, fun z hz => ?_, by rw [List.length_append, List.length_append, pshT_len, pshI_len, hl], fun M hM hX hE => ?_, Or.inl ⟨?_, ?_⟩⟩
  · have e1 := h.mw i hi
    have hlt : i < W.length := by
      rcases Nat.lt_or_ge i W.length with h | h
      · exact h
      · rw [gd_out h] at e1; rw [← e1] at hi; exact absurd hi (by decide)
    rw [← e1, gd_gd hlt (-1) 0, gd_gd (by rw [setsL_len hs]; exact hlt) (-1) 0]
    exact f3 i (by rw [← gd_gd hlt (-1) 0, e1]; exact hi)
  · have e1 := h.me i hi
    rw [gd_set (by omega)]
    by_cases e2 : x = i
    · subst e2
      exfalso
      rw [gd_gd (by omega) (-1) 0] at e1
      rw [← e1] at hi
      omega
    · rw [if_neg e2]; exact e1
  · rcases List.mem_append.1 hz with hz | hz
    · exact h.tr z (by simp [hz])
    · obtain ⟨q, hq, hz⟩ := List.mem_flatMap.1 hz
      have := hpk q hq
      simp only [List.mem_cons, List.not_mem_nil, or_false] at hz
      rcases hz with rfl | rfl
      · exact hen.f.rng (by omega)
      · exact hen.t.rng (by omega)
  · rcases List.mem_append.1 hz with hz | hz
    · exact h.ir z (by simp [hz])
    · obtain ⟨q, hq, hz⟩ := List.mem_flatMap.1 hz
      have := hpk q hq
      simp only [List.mem_cons, List.not_mem_nil, or_false] at hz
      rcases hz with rfl | rfl
      · exact hen.gf.rng (by omega)
      · exact hen.gt.rng (by omega)
  · obtain ⟨ha, hb⟩ := h.all M hM hX hE
    have hbe := hb.1 (by omega)
    rw [Int.toNat_natCast] at hbe
    obtain ⟨_, _, c⟩ := mt_tells hf hxl hyl hM hbe
    obtain ⟨W2, h3, h4⟩ := setsL_fits (b := g.n) (by rw [h.gd.lw]; exact hpk) ha.1 (by rw [hM.lw, h.gd.lw]) hM.dw c
    rw [hs] at h3
    obtain rfl := Option.some.inj h3
    refine ⟨⟨h4, fun i hi => ?_⟩, Agree.app hl hb.2 (Agree.psh hen hnd hM hpk c)⟩
    simp only at hi ⊢
    rw [gd_set (by omega)] at hi ⊢
    by_cases e2 : x = i
    · rw [if_pos e2, ← e2]; exact hbe
    · rw [if_neg e2] at hi ⊢; exact ha.2 i hi
  · rcases h.fst with ⟨h5, _⟩ | ⟨h5, h6, _⟩
    · rw [gd_set (by omega)]
      by_cases e2 : x = e
      · rw [← e2] at h5; omega
      · rw [if_neg e2]; exact h5
    · injection h5 with h5 _
      injection h6 with h6 _
      have e5 : x = e := by omega
      have e6 : y = f := by omega
      rw [gd_set (by omega), if_pos e5, e6]
  · rcases h.fst with ⟨_, h5⟩ | ⟨_, _, h5⟩
    · omega
    · rw [h5] at hng ⊢; omega
/-- At the end: the part that is handed back. -/
theorem GSt.fin (h : GSt g p W0 E0 e f W E [] []) (he : e < p.es.length) : Gd g p W E ∧ E.getD e 0 = (f : Int) ∧ negs E + 1 ≤ negs E0 ∧ ∀ M, IsMt g p M → ((Ext ⟨W0, E0⟩ M ∧ M.E.getD e 0 = (f : Int)) ↔ Ext ⟨W, E⟩ M) := by
  have h1 : E.getD e 0 = (f : Int) ∧ negs E + 1 ≤ negs E0 := by
    rcases h.fst with h1 | ⟨h1, _, _⟩
    · exact h1
    · cases h1
  refine ⟨h.gd, h1.1, h1.2, fun M hM => ⟨fun ⟨a, b⟩ => (h.all M hM a b).1, fun a => ⟨⟨h.mw.fits a.1, h.me.fits a.2⟩, ?_⟩⟩⟩
  have hel : e < E.length := by rw [h.gd.le]; exact he
  have := a.2 e (by simp only; rw [gd_gd hel (-1) 0, h1.1]; omega)
  simp only at this
  rw [gd_gd hel (-1) 0, h1.1] at this
  exact this
end
end Go.Proofs.Ytlpgjnjhhgjkmaa

/-
  Whether an edge has any image left, in the reference. Conditions: the graphs are valid, the part is good.
-/
import Derived.Test.YtlpgjnjhhgjkmaaYq04
import Derived.Test.YtlpgjnjhhgjkmaaYq03
import Derived.Test.YtlpgjnjhhgjkmaaYq02
namespace Go.Proofs.Ytlpgjnjhhgjkmaa
open Go.RowKit
set_option linter.unusedVariables false
set_option maxRecDepth 100000

/-- Growing, as far as it tells whether a match goes on so. -/
def GrowH (g p : Gr) (W0 E0 : List Int) (e f : Nat) (w : World) (x : Ending) (w' : World) : Prop :=
  ∃ a1 n1 c1 a2 n2 c2 b, x = .returned (.tuple #[.agg #[.slice a1 n1 c1, .slice a2 n2 c2], .bool b]) ∧ (b = false → NoMt g p W0 E0 e f) ∧ w.grownBy w' none
theorem GrowR.h {g p : Gr} {W0 E0 : List Int} {e f : Nat} {w : World} {x : Ending} {w' : World} (h : GrowR g p W0 E0 e f w x w') : GrowH g p W0 E0 e f w x w' := by
  rcases h with ⟨a1, n1, c1, a2, n2, c2, rfl, h1, h2⟩ | ⟨W, E, a, c, b, d, rfl, _, _, _, _, h2⟩
  · exact ⟨_, _, _, _, _, _, false, rfl, fun _ => h1, h2⟩
  · exact ⟨_, _, _, _, _, _, true, rfl, (by intro h; cases h), h2.tl.tl.hd⟩
/-- What 'no hope' tells. -/
def HopeR (g p : Gr) (W E : List Int) (w : World) (x : Ending) (w' : World) : Prop :=
  ∃ b, x = .returned (.bool b) ∧ (b = false → ∀ M, IsMt g p M → ¬ Ext ⟨W, E⟩ M) ∧ w.grownBy w' none
theorem hope_no {g p : Gr} {W E : List Int} {e : Nat} (he : e < p.es.length) (h : ∀ f, f < g.es.length → NoMt g p W E e f) : ∀ M, IsMt g p M → ¬ Ext ⟨W, E⟩ M := fun M hM hx => by
  have hr := (isMt_side hM).2.2 e he
  have := h (M.E.getD e 0).toNat (by omega) M hM hx
  omega
set_option maxHeartbeats 4000000 in
theorem hope_any (g p : Gr) (hg : mgB g = true) (hp : mgB p = true) (gea pea : Option Addr) (gec pec : Nat) (giv gov piv pov : Value) (W0 E0 : List Int) (u1 u2 : Option Addr) (n1 n2 : Nat) (e : Nat) (w : World) (hrg : RdE edgeE w (.slice gea g.es.length gec) g.es) (hrp : RdE edgeE w (.slice pea p.es.length pec) p.es)
    (hW : IntsV w (.slice u1 W0.length n1) W0) (hE : IntsV w (.slice u2 E0.length n2) E0) (hgd : Gd g p W0 E0) (he : e < p.es.length) (h0 : E0.getD e 0 = -1) :
    Calls Try.prog 94 #[grV g.n (.slice gea g.es.length gec) giv gov, grV p.n (.slice pea p.es.length pec) piv pov, .agg #[.slice u1 W0.length n1, .slice u2 E0.length n2], .int .i64 e] w (HopeR g p W0 E0 w) := by
  obtain ⟨mg, hmg, hg1, hg2, _⟩ := grB_n (mgB_gr hg)
  have hge : g.es.length ≤ 60 := hg2
  have HGR := Lib.hid fun (W : World) (h : w.grownBy W none) (f : Nat) (hf : f < g.es.length) => (grow_any g p hg hp gea pea gec pec giv gov piv pov W0 E0 u1 u2 n1 n2 e f W (hrg.carry h) (hrp.carry h) (hW.carry h) (hE.carry h) hgd he hf h0)
  have HE := Lib.hid he
  unfold grV at HGR ⊢
  have HS0 := Lib.hid ((((Sep.start w).box #[.int .i64 g.n, .slice gea g.es.length gec, giv, gov] 29).box #[.int .i64 p.n, .slice pea p.es.length pec, piv, pov] 29).box #[.slice u1 W0.length n1, .slice u2 E0.length n2] 95)
  obtain ⟨x0, x1, _⟩ := bq4 HS0.out.tl.tl.hd
  clear hg hp hrg hrp hW hE hgd he h0 hg1 hg2 hmg
  go_enter Try.func94, Try.ntmps94
  go_wp2_with fail
  go_loopw [9, 10, 11, 15] (fun _ _ _ i wr => ∃ k : Nat, k ≤ g.es.length ∧ i = .int .i64 k ∧ (∀ f, f < k → NoMt g p W0 E0 e f) ∧ Sep wr [BxA (w.heap.size + 1 + 1) #[.slice u1 W0.length n1, .slice u2 E0.length n2] 95, BxA (w.heap.size + 1) #[.int .i64 p.n, .slice pea p.es.length pec, piv, pov] 29, BxA w.heap.size #[.int .i64 g.n, .slice gea g.es.length gec, giv, gov] 29, KeepA w]) (fun _ _ _ i _ => g.es.length - (intOf i).toNat)
  case atStart => exact ⟨0, by omega, rfl, fun f hf => by omega, by simpa using HS0.out⟩
  case round =>
    obtain ⟨k, hk, rfl, hno, hs⟩ := hrel
    have HNO := Lib.hid hno
    have HSR := Lib.hid hs
    clear HS0 hno x0 x1
    by_cases hlt : k < g.es.length
    · have HLT := Lib.hid hlt
      obtain ⟨m0, m1⟩ := bq2 hs.hd
      obtain ⟨p0, p1, p2, p3, _⟩ := bq4 hs.tl.hd
      obtain ⟨q0, q1, q2, q3, _⟩ := bq4 hs.tl.tl.hd
      have HC := Lib.hid (HGR.out wr hs.tl.tl.tl.hd k hlt)
      have hki : (k : Int) < (g.es.length : Int) := by omega
      clear hs
      go_upto_region 5 with (
        go_at_call 95
        with_reducible refine HC.out.mono ?_
        intro x w6 hpost
        obtain ⟨a1, l1, c1, a2, l2, c2, b, rfl, hb, hg6⟩ := hpost.h
        have HB := Lib.hid hb
        have HS6 := Lib.hid (HSR.out.grown hg6)
        clear hpost hb hg6 m0 m1 p0 p1 p2 p3 q0 q1 q2 q3)
      have HS7 := Lib.hid (HS6.out.al (.cells #[.slice a1 l1 c1, .slice a2 l2 c2] 95))
      cases b with
      | false =>
        have HN2 := Lib.hid fun f (hf : f < k + 1) => (show NoMt g p W0 E0 e f from by
          by_cases h : f = k
          · rw [h]; exact HB.out rfl
          · exact HNO.out f (by omega))
        go_wp2_with fail
        go_roundw
        case rel => exact ⟨k + 1, HLT.out, by go_num, HN2.out, HS7.out⟩
        case measure => simp [intOf]; omega
      | true =>
        go_wp2_with fail
        go_ret
        exact ⟨true, rfl, (by intro h; cases h), HS7.out.tl.tl.tl.hd⟩
    · have HN2 := Lib.hid (hope_no HE.out fun f hf => HNO.out f (by omega))
      have HK := Lib.hid (show w.grownBy wr none from hs.tl.tl.tl.hd)
      have hki : ¬ (k : Int) < (g.es.length : Int) := by omega
      clear hs
      go_wp2_with fail
      go_ret
      exact ⟨false, rfl, fun _ => HN2.out, HK.out⟩
end Go.Proofs.Ytlpgjnjhhgjkmaa

/-
  The reference's search. Conditions: the graphs are valid, the part is good, fewer than 100 are found so far.
-/
namespace Go.Proofs.Ytlpgjnjhhgjkmaa
open Go.RowKit
set_option linter.unusedVariables false
set_option maxRecDepth 100000

/-- The search's part of the memory. -/
def SrL (w0 : World) (W E : List Int) (u1 : Option Addr) (n1 : Nat) (u2 : Option Addr) (n2 : Nat) (l : List Asrt) (outv : Value) (xs : List XM) : List Asrt :=
  OR matchE outv xs :: Bag (rowsM xs) :: OI (.slice u1 W.length n1) W :: OI (.slice u2 E.length n2) E :: KeepA w0 :: l
/-- What the search hands back. -/
def SearchR (g p : Gr) (W E : List Int) (xs : List XM) (S : Value → List XM → List Asrt) (e : Ending) (w' : World) : Prop :=
  ∃ outv' xs', e = .returned outv' ∧ mts xs' = (mts xs ++ extL g p ⟨W, E⟩).take 100 ∧ Sep w' (S outv' xs')
theorem ext_none {g p : Gr} {P : Mt} (h : ∀ M, IsMt g p M → ¬ Ext P M) : extL g p P = [] :=
  List.eq_nil_iff_forall_not_mem.2 fun M hM => h M (ext_mem.1 hM).1 (ext_mem.1 hM).2
theorem take_lt {α : Type} {l : List α} (h : l.length < 100) : l = (l ++ []).take 100 := by
  rw [List.append_nil, List.take_of_length_le (by omega)]
theorem GrowR.parts {g p : Gr} {W0 E0 : List Int} {e f : Nat} {w : World} {x : Ending} {w' : World} (h : GrowR g p W0 E0 e f w x w') :
    (∃ a1 l1 c1 a2 l2 c2, x = .returned (.tuple #[.agg #[.slice a1 l1 c1, .slice a2 l2 c2], .bool false]) ∧ RowKit.Hid (NoMt g p W0 E0 e f) ∧ RowKit.Hid (w.grownBy w' none)) ∨
    ∃ W E a1 c1 a2 c2, x = .returned (.tuple #[.agg #[.slice a1 W.length c1, .slice a2 E.length c2], .bool true]) ∧ RowKit.Hid (Gd g p W E) ∧ RowKit.Hid (negs E + 1 ≤ negs E0) ∧
      RowKit.Hid (∀ M, IsMt g p M → ((Ext ⟨W0, E0⟩ M ∧ M.E.getD e 0 = (f : Int)) ↔ Ext ⟨W, E⟩ M)) ∧ RowKit.Hid (Sep w' [OI (.slice a1 W.length c1) W, OI (.slice a2 E.length c2) E, KeepA w]) := by
  rcases h with ⟨a1, l1, c1, a2, l2, c2, rfl, h1, h2⟩ | ⟨W, E, a, c, b, d, rfl, h1, _, h3, h4, h2⟩
  · exact Or.inl ⟨_, _, _, _, _, _, rfl, Lib.hid h1, Lib.hid h2⟩
  · exact Or.inr ⟨_, _, _, _, _, _, rfl, Lib.hid h1, Lib.hid h3, Lib.hid h4, Lib.hid h2⟩
theorem no_wire {g p : Gr} {W0 E0 : List Int} {k v : Nat} (hl : W0.length = p.n.toNat) (hk : k < W0.length) (h1 : W0.getD k 0 = -1) (h2 : (v : Int) ∈ W0) : ∀ M, IsMt g p M → Ext ⟨W0, E0⟩ M → M.W.getD k 0 ≠ (v : Int) := fun M hM hx he => by
  obtain ⟨j, hj, hv⟩ := mem_gd.1 h2
  have h3 := hx.1 j (by rw [gd_gd hj (-1) 0, hv]; omega)
  rw [gd_gd hj (-1) 0, hv, ← he] at h3
  have hmw := hM.lw
  rw [List.getD_eq_getElem?_getD, List.getD_eq_getElem?_getD, List.getElem?_eq_getElem (by omega), List.getElem?_eq_getElem (by omega)] at h3
  have := (List.getElem_inj hM.dw).1 h3
  subst this
  omega
theorem meas_less {E E' W W' : List Int} {c n : Nat} (h : negs E' + 1 ≤ negs E) (hw : W'.length = c) (hn : negs E * (c + 1) + negs W ≤ n) : negs E' * (c + 1) + negs W' < n := by
  have h1 := negs_len W'
  have h2 := Nat.mul_le_mul_right (c + 1) h
  rw [Nat.add_mul] at h2
  omega
theorem ext_wire {g p : Gr} {W E : List Int} (hl : W.length = p.n.toNat) {w v : Nat} (hw : w < W.length) (h0 : W.getD w 0 = -1) (hn : (v : Int) ∉ W) : ∀ M, IsMt g p M → ((Ext ⟨W, E⟩ M ∧ M.W.getD w 0 = (v : Int)) ↔ Ext ⟨W.set w (v : Int), E⟩ M) := by
  have hs : setL W w (v : Int) = some (W.set w (v : Int)) := by unfold setL; rw [if_neg (by omega), if_neg hn]
  refine fun M hM => ⟨fun ⟨hx, he⟩ => ?_, fun hx => ?_⟩
  · obtain ⟨W1, h1, h2⟩ := fits_set hx.1 (by rw [hM.lw, hl]) hM.dw hw (by omega) he
    rw [hs] at h1
    obtain rfl := Option.some.inj h1
    exact ⟨h2, hx.2⟩
  · obtain ⟨b1, b2⟩ := fits_back hs hw (by omega) hx.1
    exact ⟨⟨b1, hx.2⟩, b2⟩
theorem meas_wire {E W : List Int} {k f c n : Nat} (hk : k < W.length) (h1 : W.getD k 0 = -1) (hn : negs E * (c + 1) + negs W ≤ n) : negs E * (c + 1) + negs (W.set k (f : Int)) < n := by
  have := negs_set (W := W) (w := k) (v := (f : Int)) hk (by omega) (by omega)
  omega
theorem no_neg {L : List Int} (h : ∀ i, i < L.length → 0 ≤ L.getD i (-1)) : (-1 : Int) ∉ L := fun hm => by
  obtain ⟨i, hi, he⟩ := mem_gd.1 hm
  have := h i hi
  rw [gd_gd hi (-1) 0, he] at this
  omega
/-- How the search goes on in another part, whose lists are of the call's own. -/
def SearchC (g p : Gr) (gea pea : Option Addr) (gec pec : Nat) (giv gov piv pov : Value) (w0 : World) (n : Nat) : Prop :=
  ∀ (W0 E0 : List Int) (u1 : Option Addr) (n1 : Nat) (u2 : Option Addr) (n2 : Nat) (outv : Value) (xs : List XM) (w : World) (l : List Asrt), negs E0 * (p.n.toNat + 1) + negs W0 ≤ n → Gd g p W0 E0 → xs.length < 100 → Sep w (SrL w0 W0 E0 u1 n1 u2 n2 l outv xs) →
    Calls Try.prog 70 #[.agg #[.int .i64 g.n, .slice gea g.es.length gec, giv, gov], .agg #[.int .i64 p.n, .slice pea p.es.length pec, piv, pov], .agg #[.slice u1 W0.length n1, .slice u2 E0.length n2], outv] w (SearchR g p W0 E0 xs (SrL w0 W0 E0 u1 n1 u2 n2 l))
set_option maxHeartbeats 4000000 in
theorem search_step (g p : Gr) (hg : mgB g = true) (hp : mgB p = true) (gea pea : Option Addr) (gec pec : Nat) (giv gov piv pov : Value) (w0 : World) (hrg : RdE edgeE w0 (.slice gea g.es.length gec) g.es) (hrp : RdE edgeE w0 (.slice pea p.es.length pec) p.es)
    (n : Nat) (ih : ∀ m, m < n → SearchC g p gea pea gec pec giv gov piv pov w0 m) : SearchC g p gea pea gec pec giv gov piv pov w0 n := by
  intro W0 E0 u1 n1 u2 n2 outv xs w l hn hgd hx hs0
  obtain ⟨mp, hmp, hp1, hp2, _⟩ := grB_n (mgB_gr hp)
  have hpe : p.es.length ≤ 60 := hp2
  obtain ⟨mg, hmg, hg1, hg2, _⟩ := grB_n (mgB_gr hg)
  have hge : g.es.length ≤ 60 := hg2
  have HMG := Lib.hid hmg
  have hgn : g.n ≤ 100 ∧ 0 ≤ g.n := by omega
  have hwl : W0.length ≤ 100 := by rw [hgd.lw, hmp]; simpa using hp1
  have HIH := Lib.hid ih; have HNN := Lib.hid hn; have HGD := Lib.hid hgd; have HX := Lib.hid hx
  have HHP := Lib.hid fun (W : World) (h : w0.grownBy W none) (hW : IntsV W (.slice u1 W0.length n1) W0) (hE : IntsV W (.slice u2 E0.length n2) E0) (e : Nat) (he : e < p.es.length) (h0 : E0.getD e 0 = -1) => (hope_any g p hg hp gea pea gec pec giv gov piv pov W0 E0 u1 u2 n1 n2 e W (hrg.carry h) (hrp.carry h) hW hE hgd he h0)
  have HGW := Lib.hid fun (W : World) (h : w0.grownBy W none) (hW : IntsV W (.slice u1 W0.length n1) W0) (hE : IntsV W (.slice u2 E0.length n2) E0) (e f : Nat) (he : e < p.es.length) (hf : f < g.es.length) (h0 : E0.getD e 0 = -1) => (grow_any g p hg hp gea pea gec pec giv gov piv pov W0 E0 u1 u2 n1 n2 e f W (hrg.carry h) (hrp.carry h) hW hE hgd he hf h0)
  unfold grV at HHP HGW
  have HMX := Lib.hid (show (mts xs).length < 100 from by unfold mts; rw [List.length_map]; exact hx)
  have hle := hgd.le
  have hs1 := ((hs0.box #[.int .i64 g.n, .slice gea g.es.length gec, giv, gov] 29).box #[.int .i64 p.n, .slice pea p.es.length pec, piv, pov] 29).box #[.slice u1 W0.length n1, .slice u2 E0.length n2] 95
  have HS1 := Lib.hid hs1
  obtain ⟨x0, x1, _⟩ := bq4 hs1.tl.hd
  have HLE := Lib.hid hle
  clear hg hp hrg hrp hs0 hs1 hmp hp1 hp2 hmg hg1 hg2 ih hn hgd hx hle
  go_enter Try.func70, Try.ntmps70
  go_wp2_with fail
  go_loopw [9, 21] (fun _ i wr => ∃ k : Nat, k ≤ p.es.length ∧ i = .int .i64 k ∧ Sep wr (BxA (w.heap.size + 1 + 1) #[.slice u1 W0.length n1, .slice u2 E0.length n2] 95 :: BxA (w.heap.size + 1) #[.int .i64 p.n, .slice pea p.es.length pec, piv, pov] 29 :: BxA w.heap.size #[.int .i64 g.n, .slice gea g.es.length gec, giv, gov] 29 :: SrL w0 W0 E0 u1 n1 u2 n2 l outv xs)) (fun _ i _ => p.es.length - (intOf i).toNat)
  case atStart => exact ⟨0, by omega, rfl, by simpa using HS1.out⟩
  case round =>
    obtain ⟨k, hk, rfl, hs⟩ := hrel
    have HSR := Lib.hid hs
    clear HS1 x0 x1
    by_cases hlt : k < p.es.length
    · have HLT := Lib.hid hlt
      have hki : (k : Int) < (p.es.length : Int) := by omega
      obtain ⟨m0, m1⟩ := bq2 hs.hd
      have hsE : Sep wr (SrL w0 W0 E0 u1 n1 u2 n2 l outv xs) := hs.tl.tl.tl
      unfold SrL at hsE
      obtain ⟨eb, heb⟩ := own_some (show OwnInts 0 wr (.slice u2 E0.length n2) E0 from hsE.tl.tl.tl.hd) (by rw [HLE.out]; omega)
      subst heb
      have c0 := own_at (show OwnInts 0 wr (.slice (some ⟨eb, 0, none⟩) E0.length n2) E0 from hsE.tl.tl.tl.hd) rfl (show k < E0.length from by rw [HLE.out]; exact hlt)
      have hkE : k < E0.length := by rw [HLE.out]; exact hlt
      have hkiE : (k : Int) < (E0.length : Int) := by omega
      by_cases h0 : E0.getD k 0 < 0
      · have h1 : E0.getD k 0 = -1 := by
          have := HGD.out.re (E0.getD k 0) (by rw [List.getD_eq_getElem?_getD, List.getElem?_eq_getElem hkE]; exact List.getElem_mem hkE)
          omega
        have HC := Lib.hid (HHP.out wr hsE.tl.tl.tl.tl.hd (OwnInts.read hsE.tl.tl.hd) (OwnInts.read hsE.tl.tl.tl.hd) k hlt h1)
        obtain ⟨p0, p1, p2, p3, _⟩ := bq4 hs.tl.hd
        obtain ⟨q0, q1, q2, q3, _⟩ := bq4 hs.tl.tl.hd
        rw [h1] at c0
        clear hs hsE h0 h1
        go_wp2_with (
          go_at_call 94
          with_reducible refine HC.out.mono ?_
          rintro x w6 ⟨b, rfl, hb, hg6⟩
          have HB := Lib.hid hb
          have HS6 := Lib.hid (HSR.out.grown hg6)
          clear hb hg6 m0 m1 p0 p1 p2 p3 q0 q1 q2 q3 c0
          cases b)
        · go_ret
          exact ⟨outv, xs, rfl, by rw [ext_none (HB.out (by simp))]; exact take_lt HMX.out, HS6.out.tl.tl.tl⟩
        · go_roundw
          case rel => exact ⟨k + 1, HLT.out, by go_num, HS6.out⟩
          case measure => simp [intOf]; omega
      · generalize E0.getD k 0 = y at c0 h0
        have h0b : ¬ y < 0 := h0
        clear hs hsE
        go_wp2_with fail
        go_roundw
        case rel => exact ⟨k + 1, HLT.out, by go_num, HSR.out⟩
        case measure => simp [intOf]; omega
    · have hki : ¬ (k : Int) < (p.es.length : Int) := by omega
      obtain ⟨x0, x1, _⟩ := bq4 hs.tl.hd
      clear hs HHP hk hlt
      go_wp2_with fail
      clear x0 x1
      go_loopw [3, 10, 43] (fun ov _ i wr => ∃ k : Nat, k ≤ p.es.length ∧ outv = ov ∧ i = .int .i64 k ∧ (∀ i, i < k → 0 ≤ E0.getD i (-1)) ∧ Sep wr (BxA (w.heap.size + 1 + 1) #[.slice u1 W0.length n1, .slice u2 E0.length n2] 95 :: BxA (w.heap.size + 1) #[.int .i64 p.n, .slice pea p.es.length pec, piv, pov] 29 :: BxA w.heap.size #[.int .i64 g.n, .slice gea g.es.length gec, giv, gov] 29 :: SrL w0 W0 E0 u1 n1 u2 n2 l outv xs)) (fun _ _ i _ => p.es.length - (intOf i).toNat)
      case atStart => exact ⟨0, by omega, rfl, rfl, fun i hi => by omega, HSR.out⟩
      case round =>
        obtain ⟨k, hk, hov0, rfl, hall, hs⟩ := hrel
        subst hov0
        have HAL := Lib.hid hall
        clear HSR hki
        have HSR := Lib.hid hs
        clear hall
        by_cases hlt : k < p.es.length
        · have HLT := Lib.hid hlt
          have hki : (k : Int) < (p.es.length : Int) := by omega
          obtain ⟨m0, m1⟩ := bq2 hs.hd
          have hsE : Sep wr (SrL w0 W0 E0 u1 n1 u2 n2 l outv xs) := hs.tl.tl.tl
          unfold SrL at hsE
          obtain ⟨eb, heb⟩ := own_some (show OwnInts 0 wr (.slice u2 E0.length n2) E0 from hsE.tl.tl.tl.hd) (by rw [HLE.out]; omega)
          subst heb
          have hkE : k < E0.length := by rw [HLE.out]; exact hlt
          have c0 := own_at (show OwnInts 0 wr (.slice (some ⟨eb, 0, none⟩) E0.length n2) E0 from hsE.tl.tl.tl.hd) rfl hkE
          have hkiE : (k : Int) < (E0.length : Int) := by omega
          by_cases h0 : E0.getD k 0 < 0
          · have HNEG := Lib.hid h0
            obtain ⟨q0, q1, q2, q3, _⟩ := bq4 hs.tl.tl.hd
            have h0b : ¬ 0 ≤ E0.getD k 0 := by omega
            have H1 := Lib.hid (show E0.getD k 0 = -1 from by
              have := HGD.out.re (E0.getD k 0) (by rw [List.getD_eq_getElem?_getD, List.getElem?_eq_getElem hkE]; exact List.getElem_mem hkE)
              omega)
            have HPRE := Lib.hid fun f : Int => pre_filter (ext_sorted_E (g := g) (p := p) (P := ⟨W0, E0⟩) hlt HAL.out) f
            generalize E0.getD k 0 = y at c0 h0 h0b
            clear hs hsE
            go_wp2_with fail
            clear q0 q1 q2 q3 m0 m1 c0
            go_loopw [3, 11, 12, 13, 55] (fun ov _ _ _ i wr => ∃ (f : Nat) (xs' : List XM), f ≤ g.es.length ∧ i = .int .i64 f ∧ mts xs' = (mts xs ++ cutE g p ⟨W0, E0⟩ k f).take 100 ∧ Sep wr (BxA (w.heap.size + 1 + 1) #[.slice u1 W0.length n1, .slice (some ⟨eb, 0, none⟩) E0.length n2] 95 :: BxA (w.heap.size + 1) #[.int .i64 p.n, .slice pea p.es.length pec, piv, pov] 29 :: BxA w.heap.size #[.int .i64 g.n, .slice gea g.es.length gec, giv, gov] 29 :: SrL w0 W0 E0 u1 n1 (some ⟨eb, 0, none⟩) n2 l ov xs')) (fun _ _ _ _ i _ => g.es.length - (intOf i).toNat)
            case atStart => exact ⟨0, xs, by omega, rfl, by rw [show ((0 : Nat) : Int) = 0 from rfl, cutE_zero HLT.out]; exact take_lt HMX.out, HSR.out⟩
            case round =>
              obtain ⟨f, xs', hf, rfl, hm, hs⟩ := hrel
              unfold SrL at hs
              obtain ⟨oa, oc, hov⟩ := OwnR.shape (show OwnR matchE 0 wr _ xs' from hs.tl.tl.tl.hd)
              subst hov
              have HM := Lib.hid hm; have HSF := Lib.hid hs
              clear hm HSR
              by_cases hflt : f < g.es.length
              · have HFL := Lib.hid hflt
                have hfi : (f : Int) < (g.es.length : Int) := by omega
                by_cases hfu : xs'.length < 100
                · have HFU := Lib.hid hfu
                  have hfu2 : ¬ (100 : Int) ≤ (xs'.length : Int) := by omega
                  obtain ⟨m0, m1⟩ := bq2 hs.hd
                  obtain ⟨p0, p1, p2, p3, _⟩ := bq4 hs.tl.hd
                  obtain ⟨q0, q1, q2, q3, _⟩ := bq4 hs.tl.tl.hd
                  have HC := Lib.hid (HGW.out wr hs.tl.tl.tl.tl.tl.tl.tl.hd (OwnInts.read hs.tl.tl.tl.tl.tl.hd) (OwnInts.read hs.tl.tl.tl.tl.tl.tl.hd) k f HLT.out hflt H1.out)
                  clear hs hflt
                  go_upto_region 17 with (
                    go_at_call 95
                    with_reducible refine HC.out.mono ?_
                    intro x w6 hpost
                    rcases hpost.parts with ⟨a1, l1, c1, a2, l2, c2, rfl, HNO, HG6⟩ | ⟨W', E', a1, c1, a2, c2, rfl, HGD2, HNE, HIF, HG6⟩
                    all_goals clear hpost m0 m1 p0 p1 p2 p3 q0 q1 q2 q3)
                  · have HS7 := Lib.hid ((HSF.out.grown HG6.out).al (.cells #[.slice a1 l1 c1, .slice a2 l2 c2] 95))
                    have HCN := Lib.hid (cutE_none (g := g) (p := p) (P := ⟨W0, E0⟩) HLT.out HAL.out HNO.out)
                    go_wp2_with fail
                    go_roundw
                    case rel => exact ⟨f + 1, xs', HFL.out, by go_num, by rw [show ((f + 1 : Nat) : Int) = (f : Int) + 1 by omega, HCN.out]; exact HM.out, HS7.out⟩
                    case measure => simp [intOf]; omega
                  · have hb := (Sep.graft2 HSF.out HG6.out OI_own OI_own).box #[.slice a1 W'.length c1, .slice a2 E'.length c2] 95
                    have HCN := Lib.hid (cutE_some (g := g) (p := p) (P := ⟨W0, E0⟩) HLT.out HAL.out HIF.out)
                    obtain ⟨t0, t1⟩ := bq2 hb.hd
                    obtain ⟨p0, p1, p2, p3, _⟩ := bq4 hb.tl.tl.tl.tl.hd
                    obtain ⟨q0, q1, q2, q3, _⟩ := bq4 hb.tl.tl.tl.tl.tl.hd
                    have hb2 := Sep.blk3 (X := [_, _, _, _]) (A := [_, _, _, _, _, _]) (B := [_]) (Sep.blk3 (X := [_, _]) (A := [_]) (B := [_, _]) (Sep.blk (A := [_, _, _, _, _, _]) (B := [_, _]) hb))
                    have HCC := Lib.hid (HIH.out _ (meas_less HNE.out HGD2.out.lw HNN.out) W' E' a1 c1 a2 c2 _ xs' _ _ (Nat.le_refl _) HGD2.out HFU.out hb2)
                    clear hb hb2
                    generalize w6.alloc (.cells #[.slice a1 W'.length c1, .slice a2 E'.length c2] 95) = w7 at *
                    go_wp2_with (
                      go_at_call 70
                      with_reducible refine HCC.out.mono ?_
                      intro x w8 hpost
                      obtain ⟨ov2, xs2, rfl, hm2, hs8⟩ := hpost
                      have HM2 := Lib.hid hm2
                      unfold SrL at hs8
                      have hs9 := Sep.cutA (X := [_, _]) (A := [_, _]) hs8
                      have hs10 := Sep.cutA (X := [_, _, _]) (A := [_]) hs9
                      have hs11 := Sep.blk3 (X := [_, _]) (A := [_]) (B := [_, _, _, _, _]) hs10
                      have HS8 := Lib.hid (Sep.blk (A := [_, _]) (B := [_, _, _]) hs11)
                      clear hm2 hs8 hs9 hs10 hs11 t0 t1 p0 p1 p2 p3 q0 q1 q2 q3)
                    go_roundw
                    case rel =>
                      refine ⟨f + 1, xs2, HFL.out, by go_num, ?_, HS8.out⟩
                      have h0 := HM.out
                      rw [not_full (by rw [← h0, mts_len]; exact HFU.out)] at h0
                      rw [HM2.out, h0, show ((f + 1 : Nat) : Int) = (f : Int) + 1 by omega, HCN.out, List.append_assoc]
                    case measure => simp [intOf]; omega
                · have hfu2 : (100 : Int) ≤ (xs'.length : Int) := by omega
                  have HFU := Lib.hid hfu
                  clear hs
                  go_wp2_with fail
                  go_ret
                  refine ⟨_, xs', rfl, ?_, HSF.out.tl.tl.tl⟩
                  obtain ⟨R, hR⟩ := HPRE.out (f : Int)
                  have hR' : extL g p ⟨W0, E0⟩ = cutE g p ⟨W0, E0⟩ k (f : Int) ++ R := hR
                  rw [hR', HM.out, full_stop (by rw [← HM.out, mts_len]; exact HFU.out)]
              · have hfe : f = g.es.length := by omega
                have hfi : ¬ (f : Int) < (g.es.length : Int) := by omega
                have HFE := Lib.hid hfe
                clear hs hfe
                go_wp2_with fail
                go_ret
                exact ⟨_, xs', rfl, by rw [HM.out, HFE.out, cutE_all HLT.out], HSF.out.tl.tl.tl⟩
          · have HN := Lib.hid (show ∀ i, i < k + 1 → 0 ≤ E0.getD i (-1) from fun i hi => by
              by_cases h : i = k
              · rw [h, gd_gd hkE (-1) 0]; omega
              · exact HAL.out i (by omega))
            have h0b : 0 ≤ E0.getD k 0 := by omega
            generalize E0.getD k 0 = y at c0 h0 h0b
            clear hs hsE
            go_wp2_with fail
            go_roundw
            case rel => exact ⟨k + 1, HLT.out, rfl, by go_num, HN.out, HSR.out⟩
            case measure => simp [intOf]; omega
        · have hki : ¬ (k : Int) < (p.es.length : Int) := by omega
          obtain ⟨m0, m1⟩ := bq2 hs.hd
          have HEA := Lib.hid (show ∀ i, i < p.es.length → 0 ≤ E0.getD i (-1) from fun i hi => HAL.out i (by omega))
          clear hs HAL
          go_wp2_with fail
          clear m0 m1 hki hk hlt
          go_loopw [3, 14, 15, 16, 17, 83] (fun ov _ _ _ _ i wr => ∃ k : Nat, k ≤ W0.length ∧ outv = ov ∧ i = .int .i64 k ∧ (∀ i, i < k → 0 ≤ W0.getD i (-1)) ∧ Sep wr (BxA (w.heap.size + 1 + 1) #[.slice u1 W0.length n1, .slice u2 E0.length n2] 95 :: BxA (w.heap.size + 1) #[.int .i64 p.n, .slice pea p.es.length pec, piv, pov] 29 :: BxA w.heap.size #[.int .i64 g.n, .slice gea g.es.length gec, giv, gov] 29 :: SrL w0 W0 E0 u1 n1 u2 n2 l outv xs)) (fun _ _ _ _ _ i _ => W0.length - (intOf i).toNat)
          case atStart => exact ⟨0, by omega, rfl, rfl, fun i hi => by omega, HSR.out⟩
          case round =>
            obtain ⟨k, hk, hov0, rfl, hall, hs⟩ := hrel
            subst hov0
            have HAL := Lib.hid hall
            clear HSR
            have HSR := Lib.hid hs
            clear hall
            by_cases hlt : k < W0.length
            · have HLT := Lib.hid hlt
              have hki : (k : Int) < (W0.length : Int) := by omega
              have hsE : Sep wr (SrL w0 W0 E0 u1 n1 u2 n2 l outv xs) := hs.tl.tl.tl
              unfold SrL at hsE
              obtain ⟨wb, hwb⟩ := own_some (show OwnInts 0 wr (.slice u1 W0.length n1) W0 from hsE.tl.tl.hd) (by omega)
              subst hwb
              have c0 := own_at (show OwnInts 0 wr (.slice (some ⟨wb, 0, none⟩) W0.length n1) W0 from hsE.tl.tl.hd) rfl hlt
              by_cases h0 : W0.getD k 0 < 0
              · have H1 := Lib.hid (show W0.getD k 0 = -1 from by
                  have := HGD.out.rw (W0.getD k 0) (by rw [List.getD_eq_getElem?_getD, List.getElem?_eq_getElem hlt]; exact List.getElem_mem hlt)
                  omega)
                have HPRE := Lib.hid fun f : Int => pre_filter (ext_sorted_W (g := g) (p := p) (P := ⟨W0, E0⟩) (by rw [← HGD.out.lw]; exact hlt) HEA.out HAL.out) f
                have h0b : ¬ 0 ≤ W0.getD k 0 := by omega
                generalize W0.getD k 0 = y at c0 h0 h0b
                clear hs hsE
                go_wp2_with fail
                clear c0 h0 h0b
                go_loopw [3, 16, 17] (fun ov i _ wr => ∃ (f : Nat) (xs' : List XM), (f : Int) ≤ g.n ∧ i = .int .i64 f ∧ mts xs' = (mts xs ++ cutW g p ⟨W0, E0⟩ k f).take 100 ∧ Sep wr (BxA (w.heap.size + 1 + 1) #[.slice (some ⟨wb, 0, none⟩) W0.length n1, .slice u2 E0.length n2] 95 :: BxA (w.heap.size + 1) #[.int .i64 p.n, .slice pea p.es.length pec, piv, pov] 29 :: BxA w.heap.size #[.int .i64 g.n, .slice gea g.es.length gec, giv, gov] 29 :: SrL w0 W0 E0 (some ⟨wb, 0, none⟩) n1 u2 n2 l ov xs')) (fun _ i _ _ => 100 - (intOf i).toNat)
                case atStart => exact ⟨0, xs, by omega, rfl, by rw [show ((0 : Nat) : Int) = 0 from rfl, cutW_zero (by rw [← HGD.out.lw]; exact HLT.out)]; exact take_lt HMX.out, HSR.out⟩
                case round =>
                  obtain ⟨f, xs', hf, rfl, hm, hs⟩ := hrel
                  unfold SrL at hs
                  obtain ⟨oa, oc, hov⟩ := OwnR.shape (show OwnR matchE 0 wr _ xs' from hs.tl.tl.tl.hd)
                  subst hov
                  have HM := Lib.hid hm; have HSF := Lib.hid hs
                  obtain ⟨q0, q1, q2, q3, _⟩ := bq4 hs.tl.tl.hd
                  clear hm HSR
                  by_cases hflt : (f : Int) < g.n
                  · have HFL := Lib.hid hflt
                    by_cases hfu : xs'.length < 100
                    · have HFU := Lib.hid hfu
                      have hfu2 : ¬ (100 : Int) ≤ (xs'.length : Int) := by omega
                      obtain ⟨m0, m1⟩ := bq2 hs.hd
                      have HHAS := Lib.hid (l1Has_any _ W0 (f : Int) wr (OwnInts.read (show OwnInts 0 wr (.slice (some ⟨wb, 0, none⟩) W0.length n1) W0 from hs.tl.tl.tl.tl.tl.hd)) (by omega))
                      clear hs
                      by_cases hin : (f : Int) ∈ W0
                      · have HCN := Lib.hid (cutW_none (g := g) (p := p) (P := ⟨W0, E0⟩) (by rw [← HGD.out.lw]; exact HLT.out) HEA.out HAL.out (no_wire (v := f) HGD.out.lw HLT.out H1.out hin))
                        rw [decide_eq_true hin] at HHAS
                        clear hin
                        go_wp2_with (
                          go_at_call 96
                          with_reducible refine HHAS.out.mono ?_
                          rintro z w6 ⟨rfl, hg6⟩
                          have HS6 := Lib.hid (HSF.out.grown hg6)
                          clear hg6 m0 m1 q0 q1 q2 q3)
                        go_roundw
                        case rel => exact ⟨f + 1, xs', by have := HFL.out; omega, by go_num, by rw [show ((f + 1 : Nat) : Int) = (f : Int) + 1 by omega, HCN.out]; exact HM.out, HS6.out⟩
                        case measure => simp [intOf]; omega
                      · rw [decide_eq_false hin] at HHAS
                        have HIN := Lib.hid hin
                        clear hin
                        go_upto_region 32 with (
                          go_at_call 96
                          with_reducible refine HHAS.out.mono ?_
                          rintro z w6 ⟨rfl, hg6⟩
                          have HS6 := Lib.hid (HSF.out.grown hg6)
                          clear hg6 m0 m1 q0 q1 q2 q3)
                        have hd := HS6.out.dr
                        have HOW := Lib.hid fun (W : World) (h : IntsV W (.slice (some ⟨wb, 0, none⟩) W0.length n1) W0) => l1Own_any _ W0 W h (by omega)
                        have HBM := Lib.hid fun (W1 : World) (L : List Asrt) (h : Sep W1 L) (hM : BxA (w.heap.size + 1 + 1) #[.slice (some ⟨wb, 0, none⟩) W0.length n1, .slice u2 E0.length n2] 95 ∈ L) => show W1.cell? ⟨w.heap.size + 1 + 1, 0, none⟩ = some (.slice (some ⟨wb, 0, none⟩) W0.length n1) ∧ W1.cell? ⟨w.heap.size + 1 + 1, 1, none⟩ = some (.slice u2 E0.length n2) from bq2 (show W1.heap[w.heap.size + 1 + 1]? = some (.cells #[.slice (some ⟨wb, 0, none⟩) W0.length n1, .slice u2 E0.length n2] 95 (0, 0)) from Sep.all h _ hM)
                        have HD := Lib.hid hd
                        have X0 := Lib.hid (HBM.out _ _ hd (by simp))
                        clear hd
                        refine AnyL.start (fun W1 => W1.cell? ⟨w.heap.size + 1 + 1, 0, none⟩ = some (.slice (some ⟨wb, 0, none⟩) W0.length n1) ∧ W1.cell? ⟨w.heap.size + 1 + 1, 1, none⟩ = some (.slice u2 E0.length n2)) (fun _ => True) 99 (by kernel_rfl) ?_
                        refine AnyL.take (i := 0) (v := ?vx1) (by rfl) (by kernel_rfl) (by kernel_rfl) (by kernel_rfl) rfl (by exact fun _ _ _ h => h) (by rfl) ?hyx1 (by exact ⟨X0.out, fun _ => trivial⟩) ?restx1
                        case hyx1 => intro W hSW; (try dsimp only at hSW); first | (go_simp; done) | (go_simp; with_reducible rfl)
                        try simp only [Act.put, List.setIfInBounds_toArray, List.set_cons_zero, List.set_cons_succ]
                        refine AnyL.take (i := 1) (v := ?vx2) (by rfl) (by kernel_rfl) (by kernel_rfl) (by kernel_rfl) rfl (by exact fun _ _ _ h => h) (by rfl) ?hyx2 (by exact ⟨X0.out, fun _ => trivial⟩) ?restx2
                        case hyx2 => intro W hSW; (try dsimp only at hSW); first | (go_simp; done) | (go_simp; with_reducible rfl)
                        try simp only [Act.put, List.setIfInBounds_toArray, List.set_cons_zero, List.set_cons_succ]
                        refine AnyL.take (i := 3) (v := ?vx3) (by rfl) (by kernel_rfl) (by kernel_rfl) (by kernel_rfl) rfl (by exact fun _ _ _ h => h) (by rfl) ?hyx3 (by exact ⟨X0.out, fun _ => trivial⟩) ?restx3
                        case hyx3 => intro W hSW; (try dsimp only at hSW); first | (go_simp; done) | (go_simp; with_reducible rfl)
                        try simp only [Act.put, List.setIfInBounds_toArray, List.set_cons_zero, List.set_cons_succ]
                        refine AnyL.take (i := 4) (v := ?vx4) (by rfl) (by kernel_rfl) (by kernel_rfl) (by kernel_rfl) rfl (by exact fun _ _ _ h => h) (by rfl) ?hyx4 (by exact ⟨X0.out, fun _ => trivial⟩) ?restx4
                        case hyx4 => intro W hSW; (try dsimp only at hSW); first | (go_simp; done) | (go_simp; with_reducible rfl)
                        try simp only [Act.put, List.setIfInBounds_toArray, List.set_cons_zero, List.set_cons_succ]
                        refine AnyL.two (i := 2) (j := 6) (by kernel_rfl) (by rfl) (by rfl) (fun K hK => ?_) (fun K hK => ?_)
                        · go_simp
                          go_at_call 55
                          have HOO := Lib.hid (HOW.out (w6.drew) (OwnInts.read (show OwnInts 0 (w6.drew) (.slice (some ⟨wb, 0, none⟩) W0.length n1) W0 from HD.out.tl.tl.tl.tl.tl.hd)))
                          with_reducible refine HOO.out.mono ?_
                          rintro z w7 ⟨a7, c7, rfl, hsg⟩
                          have H7 := Lib.hid (HD.out.graft1 hsg OI_own)
                          clear hsg
                          refine hK.out _ _ (by exact HBM.out _ _ H7.out (by simp)) (by exact fun _ => trivial) ?_
                          clear hK K
                          try simp only [Act.put, List.setIfInBounds_toArray, List.set_cons_zero, List.set_cons_succ]
                          refine AnyL.take (i := 5) (v := ?vx5) (by rfl) (by kernel_rfl) (by kernel_rfl) (by kernel_rfl) rfl (by exact fun _ _ _ h => h) (by rfl) ?hyx5 (by exact ⟨HBM.out _ _ H7.out (by simp), fun _ => trivial⟩) ?restx5
                          case hyx5 => intro W hSW; (try dsimp only at hSW); first | (go_simp; done) | (go_simp; with_reducible rfl)
                          try simp only [Act.put, List.setIfInBounds_toArray, List.set_cons_zero, List.set_cons_succ]
                          refine AnyL.step (i := 6) (by kernel_rfl) (by rfl) (fun K hK => ?_)
                          go_simp
                          have H8 := Lib.hid (H7.out.box #[.slice none 0 0, .slice none 0 0] 95)
                          refine hK.out _ (w7.alloc (.cells #[.slice none 0 0, .slice none 0 0] 95)) (by exact HBM.out _ _ H8.out (by simp)) (by exact fun _ => trivial) ?_
                          clear hK K
                          try simp only [Act.put, List.setIfInBounds_toArray, List.set_cons_zero, List.set_cons_succ]
                          have h8 := H8.out
                          generalize w7.alloc (.cells #[.slice none 0 0, .slice none 0 0] 95) = w8 at *
                          have h9 := h8.setB 0 (.slice a7 W0.length c7)
                          obtain ⟨k0, k1⟩ := bq2 h8.hd
                          obtain ⟨j0, j1⟩ := bf2 h8.hd
                          obtain ⟨y0, y1⟩ := bq2 (x := .slice a7 W0.length c7) (y := .slice none 0 0) (t := 95) h9.hd
                          obtain ⟨i0, i1⟩ := bf2 (x := .slice a7 W0.length c7) (y := .slice none 0 0) (t := 95) h9.hd
                          have H9 := Lib.hid (h9.setB 1 (.slice u2 E0.length n2))
                          clear h8 h9 H8
                          refine AnyL.step (i := 7) (by kernel_rfl) (by rfl) (fun K hK => ?_)
                          go_simp
                          refine hK.out _ ((w8.setCell ⟨w7.heap.size, 0, none⟩ (.slice a7 W0.length c7)).setCell ⟨w7.heap.size, 1, none⟩ (.slice u2 E0.length n2)) (by exact HBM.out _ _ H9.out (by simp)) (by exact fun _ => trivial) ?_
                          clear hK K
                          try simp only [Act.put, List.setIfInBounds_toArray, List.set_cons_zero, List.set_cons_succ]
                          refine AnyL.done (by kernel_rfl) ?_ _
                          clear k0 k1 j0 j1 y0 y1 i0 i1 H7 HD X0
                          have hz := H9.out
                          generalize (w8.setCell ⟨w7.heap.size, 0, none⟩ (.slice a7 W0.length c7)).setCell ⟨w7.heap.size, 1, none⟩ (.slice u2 E0.length n2) = wz at *
                          generalize w7.heap.size = nb at *
                          obtain ⟨s0, s1⟩ := bq2 (x := .slice a7 W0.length c7) (y := .slice u2 E0.length n2) (t := 95) hz.hd
                          obtain ⟨ab, hab⟩ := own_some (show OwnInts 0 wz (.slice a7 W0.length c7) W0 from hz.tl.hd) (by have := HLT.out; omega)
                          subst hab
                          have e0 := own_at (show OwnInts 0 wz (.slice (some ⟨ab, 0, none⟩) W0.length c7) W0 from hz.tl.hd) rfl HLT.out
                          rw [H1.out] at e0
                          have ef := (show OwnInts 0 wz (.slice (some ⟨ab, 0, none⟩) W0.length c7) W0 from hz.tl.hd).free rfl k
                          have H10 := Lib.hid (hz.s2.setI rfl k (f : Int))
                          clear hz H9
                          go_upto_region 34 with fail
                          generalize wz.setCell ⟨ab, k, none⟩ (.int .i64 (f : Int)) = wy at *
                          have hy := H10.out
                          obtain ⟨t0, t1⟩ := bq2 (x := .slice (some ⟨ab, 0, none⟩) W0.length c7) (y := .slice u2 E0.length n2) (t := 95) hy.tl.hd
                          obtain ⟨p0, p1, p2, p3, _⟩ := bq4 hy.tl.tl.tl.hd
                          obtain ⟨q0, q1, q2, q3, _⟩ := bq4 hy.tl.tl.tl.tl.hd
                          have hih := HIH.out _ (meas_wire (f := f) HLT.out H1.out HNN.out) (W0.set k (f : Int)) E0 (some ⟨ab, 0, none⟩) c7 u2 n2 (.slice oa xs'.length oc) xs' wy (BxA nb #[.slice (some ⟨ab, 0, none⟩) W0.length c7, .slice u2 E0.length n2] 95 :: BxA (w.heap.size + 1 + 1) #[.slice (some ⟨wb, 0, none⟩) W0.length n1, .slice u2 E0.length n2] 95 :: BxA (w.heap.size + 1) #[.int .i64 p.n, .slice pea p.es.length pec, piv, pov] 29 :: BxA w.heap.size #[.int .i64 g.n, .slice gea g.es.length gec, giv, gov] 29 :: OI (.slice (some ⟨wb, 0, none⟩) W0.length n1) W0 :: l) (Nat.le_refl _) (HGD.out.wire HLT.out H1.out HFL.out HIN.out) HFU.out
                          unfold SrL SearchR at hih
                          rw [List.length_set] at hih
                          have HCC := Lib.hid (hih (Sep.blk3 (X := [_, _, _]) (A := [_, _, _, _, _]) (B := [_, _]) (Sep.blk (A := [_, _, _, _, _]) (B := [_, _]) hy)))
                          have HCN := Lib.hid (cutW_some (g := g) (p := p) (P := ⟨W0, E0⟩) (by rw [← HGD.out.lw]; exact HLT.out) HEA.out HAL.out (ext_wire (v := f) HGD.out.lw HLT.out H1.out HIN.out))
                          clear hy hih s0 s1 e0 ef
                          go_wp2_with (
                            go_at_call 70
                            with_reducible refine HCC.out.mono ?_
                            intro x w9 hpost
                            obtain ⟨ov2, xs2, rfl, hm2, hs8⟩ := hpost
                            have HM2 := Lib.hid hm2
                            have hs9 := Sep.cutA (X := [_, _]) (A := [_]) hs8
                            have hs10 := Sep.cutA (X := [_, _, _, _]) (A := [_]) hs9
                            have hs11 := Sep.blk3 (X := [_, _]) (A := [_, _, _, _, _]) (B := [_]) hs10
                            have HS8 := Lib.hid (Sep.blk (A := [_, _, _, _, _]) (B := [_, _, _]) hs11)
                            clear hm2 hs8 hs9 hs10 hs11 t0 t1 p0 p1 p2 p3 q0 q1 q2 q3)
                          go_roundw
                          case rel =>
                            refine ⟨f + 1, xs2, by have := HFL.out; omega, by go_num, ?_, HS8.out⟩
                            have h0 := HM.out
                            rw [not_full (by rw [← h0, mts_len]; exact HFU.out)] at h0
                            rw [HM2.out, h0, show ((f + 1 : Nat) : Int) = (f : Int) + 1 by omega, HCN.out, List.append_assoc]
                          case measure => simp [intOf]; omega
                        · go_simp
                          have H7 := Lib.hid (HS6.out.box #[.slice none 0 0, .slice none 0 0] 95).dr
                          refine hK.out _ ((w6.alloc (.cells #[.slice none 0 0, .slice none 0 0] 95)).drew) (by exact HBM.out _ _ H7.out (by simp)) (by exact fun _ => trivial) ?_
                          clear hK K
                          try simp only [Act.put, List.setIfInBounds_toArray, List.set_cons_zero, List.set_cons_succ]
                          refine AnyL.step (i := 2) (by kernel_rfl) (by rfl) (fun K hK => ?_)
                          go_simp
                          go_at_call 55
                          have HOO := Lib.hid (HOW.out ((w6.alloc (.cells #[.slice none 0 0, .slice none 0 0] 95)).drew) (OwnInts.read (show OwnInts 0 ((w6.alloc (.cells #[.slice none 0 0, .slice none 0 0] 95)).drew) (.slice (some ⟨wb, 0, none⟩) W0.length n1) W0 from H7.out.tl.tl.tl.tl.tl.tl.hd)))
                          with_reducible refine HOO.out.mono ?_
                          rintro z w7 ⟨a7, c7, rfl, hsg⟩
                          have H8 := Lib.hid (H7.out.graft1 hsg OI_own).s2
                          clear hsg
                          refine hK.out _ _ (by exact HBM.out _ _ H8.out (by simp)) (by exact fun _ => trivial) ?_
                          clear hK K
                          try simp only [Act.put, List.setIfInBounds_toArray, List.set_cons_zero, List.set_cons_succ]
                          refine AnyL.take (i := 5) (v := ?vx6) (by rfl) (by kernel_rfl) (by kernel_rfl) (by kernel_rfl) rfl (by exact fun _ _ _ h => h) (by rfl) ?hyx6 (by exact ⟨HBM.out _ _ H8.out (by simp), fun _ => trivial⟩) ?restx6
                          case hyx6 => intro W hSW; (try dsimp only at hSW); first | (go_simp; done) | (go_simp; with_reducible rfl)
                          try simp only [Act.put, List.setIfInBounds_toArray, List.set_cons_zero, List.set_cons_succ]
                          have h8 := H8.out
                          have h9 := h8.setB 0 (.slice a7 W0.length c7)
                          obtain ⟨k0, k1⟩ := bq2 h8.hd
                          obtain ⟨j0, j1⟩ := bf2 h8.hd
                          obtain ⟨y0, y1⟩ := bq2 (x := .slice a7 W0.length c7) (y := .slice none 0 0) (t := 95) h9.hd
                          obtain ⟨i0, i1⟩ := bf2 (x := .slice a7 W0.length c7) (y := .slice none 0 0) (t := 95) h9.hd
                          have H9 := Lib.hid (h9.setB 1 (.slice u2 E0.length n2))
                          clear h8 h9 H8
                          refine AnyL.step (i := 7) (by kernel_rfl) (by rfl) (fun K hK => ?_)
                          go_simp
                          refine hK.out _ ((w7.setCell ⟨w6.heap.size, 0, none⟩ (.slice a7 W0.length c7)).setCell ⟨w6.heap.size, 1, none⟩ (.slice u2 E0.length n2)) (by exact HBM.out _ _ H9.out (by simp)) (by exact fun _ => trivial) ?_
                          clear hK K
                          try simp only [Act.put, List.setIfInBounds_toArray, List.set_cons_zero, List.set_cons_succ]
                          refine AnyL.done (by kernel_rfl) ?_ _
                          clear k0 k1 j0 j1 y0 y1 i0 i1 H7 HD X0
                          have hz := H9.out
                          generalize (w7.setCell ⟨w6.heap.size, 0, none⟩ (.slice a7 W0.length c7)).setCell ⟨w6.heap.size, 1, none⟩ (.slice u2 E0.length n2) = wz at *
                          generalize w6.heap.size = nb at *
                          obtain ⟨s0, s1⟩ := bq2 (x := .slice a7 W0.length c7) (y := .slice u2 E0.length n2) (t := 95) hz.hd
                          obtain ⟨ab, hab⟩ := own_some (show OwnInts 0 wz (.slice a7 W0.length c7) W0 from hz.tl.hd) (by have := HLT.out; omega)
                          subst hab
                          have e0 := own_at (show OwnInts 0 wz (.slice (some ⟨ab, 0, none⟩) W0.length c7) W0 from hz.tl.hd) rfl HLT.out
                          rw [H1.out] at e0
                          have ef := (show OwnInts 0 wz (.slice (some ⟨ab, 0, none⟩) W0.length c7) W0 from hz.tl.hd).free rfl k
                          have H10 := Lib.hid (hz.s2.setI rfl k (f : Int))
                          clear hz H9
                          go_upto_region 34 with fail
                          generalize wz.setCell ⟨ab, k, none⟩ (.int .i64 (f : Int)) = wy at *
                          have hy := H10.out
                          obtain ⟨t0, t1⟩ := bq2 (x := .slice (some ⟨ab, 0, none⟩) W0.length c7) (y := .slice u2 E0.length n2) (t := 95) hy.tl.hd
                          obtain ⟨p0, p1, p2, p3, _⟩ := bq4 hy.tl.tl.tl.hd
                          obtain ⟨q0, q1, q2, q3, _⟩ := bq4 hy.tl.tl.tl.tl.hd
                          have hih := HIH.out _ (meas_wire (f := f) HLT.out H1.out HNN.out) (W0.set k (f : Int)) E0 (some ⟨ab, 0, none⟩) c7 u2 n2 (.slice oa xs'.length oc) xs' wy (BxA nb #[.slice (some ⟨ab, 0, none⟩) W0.length c7, .slice u2 E0.length n2] 95 :: BxA (w.heap.size + 1 + 1) #[.slice (some ⟨wb, 0, none⟩) W0.length n1, .slice u2 E0.length n2] 95 :: BxA (w.heap.size + 1) #[.int .i64 p.n, .slice pea p.es.length pec, piv, pov] 29 :: BxA w.heap.size #[.int .i64 g.n, .slice gea g.es.length gec, giv, gov] 29 :: OI (.slice (some ⟨wb, 0, none⟩) W0.length n1) W0 :: l) (Nat.le_refl _) (HGD.out.wire HLT.out H1.out HFL.out HIN.out) HFU.out
                          unfold SrL SearchR at hih
                          rw [List.length_set] at hih
                          have HCC := Lib.hid (hih (Sep.blk3 (X := [_, _, _]) (A := [_, _, _, _, _]) (B := [_, _]) (Sep.blk (A := [_, _, _, _, _]) (B := [_, _]) hy)))
                          have HCN := Lib.hid (cutW_some (g := g) (p := p) (P := ⟨W0, E0⟩) (by rw [← HGD.out.lw]; exact HLT.out) HEA.out HAL.out (ext_wire (v := f) HGD.out.lw HLT.out H1.out HIN.out))
                          clear hy hih s0 s1 e0 ef
                          go_wp2_with (
                            go_at_call 70
                            with_reducible refine HCC.out.mono ?_
                            intro x w9 hpost
                            obtain ⟨ov2, xs2, rfl, hm2, hs8⟩ := hpost
                            have HM2 := Lib.hid hm2
                            have hs9 := Sep.cutA (X := [_, _]) (A := [_]) hs8
                            have hs10 := Sep.cutA (X := [_, _, _, _]) (A := [_]) hs9
                            have hs11 := Sep.blk3 (X := [_, _]) (A := [_, _, _, _, _]) (B := [_]) hs10
                            have HS8 := Lib.hid (Sep.blk (A := [_, _, _, _, _]) (B := [_, _, _]) hs11)
                            clear hm2 hs8 hs9 hs10 hs11 t0 t1 p0 p1 p2 p3 q0 q1 q2 q3)
                          go_roundw
                          case rel =>
                            refine ⟨f + 1, xs2, by have := HFL.out; omega, by go_num, ?_, HS8.out⟩
                            have h0 := HM.out
                            rw [not_full (by rw [← h0, mts_len]; exact HFU.out)] at h0
                            rw [HM2.out, h0, show ((f + 1 : Nat) : Int) = (f : Int) + 1 by omega, HCN.out, List.append_assoc]
                          case measure => simp [intOf]; omega
                    · have hfu2 : (100 : Int) ≤ (xs'.length : Int) := by omega
                      have HFU := Lib.hid hfu
                      clear hs
                      go_wp2_with fail
                      go_ret
                      refine ⟨_, xs', rfl, ?_, HSF.out.tl.tl.tl⟩
                      obtain ⟨R, hR⟩ := HPRE.out (f : Int)
                      have hR' : extL g p ⟨W0, E0⟩ = cutW g p ⟨W0, E0⟩ k (f : Int) ++ R := hR
                      rw [hR', HM.out, full_stop (by rw [← HM.out, mts_len]; exact HFU.out)]
                  · have HFE := Lib.hid (show (f : Int) = g.n by omega)
                    clear hs
                    go_wp2_with fail
                    go_ret
                    exact ⟨_, xs', rfl, by rw [HM.out, HFE.out, cutW_all (by rw [← HGD.out.lw]; exact HLT.out)], HSF.out.tl.tl.tl⟩
              · have HN := Lib.hid (show ∀ i, i < k + 1 → 0 ≤ W0.getD i (-1) from fun i hi => by
                  by_cases h : i = k
                  · rw [h, gd_gd hlt (-1) 0]; omega
                  · exact HAL.out i (by omega))
                have h0b : 0 ≤ W0.getD k 0 := by omega
                generalize W0.getD k 0 = y at c0 h0 h0b
                clear hs hsE
                go_wp2_with fail
                go_roundw
                case rel => exact ⟨k + 1, HLT.out, rfl, by go_num, HN.out, HSR.out⟩
                case measure => simp [intOf]; omega
            · have hki : ¬ (k : Int) < (W0.length : Int) := by omega
              have HWA := Lib.hid (show ∀ i, i < W0.length → 0 ≤ W0.getD i (-1) from fun i hi => HAL.out i (by omega))
              clear hs HAL
              go_upto_region 37 with fail
              obtain ⟨oa, oc, hov⟩ := OwnR.shape (show OwnR matchE 0 wr _ xs from HSR.out.tl.tl.tl.hd)
              subst hov
              have HD := Lib.hid HSR.out.dr
              have HBM := Lib.hid fun (W1 : World) (L : List Asrt) (h : Sep W1 L) (hM : BxA (w.heap.size + 1 + 1) #[.slice u1 W0.length n1, .slice u2 E0.length n2] 95 ∈ L) => show W1.cell? ⟨w.heap.size + 1 + 1, 0, none⟩ = some (.slice u1 W0.length n1) ∧ W1.cell? ⟨w.heap.size + 1 + 1, 1, none⟩ = some (.slice u2 E0.length n2) from bq2 (show W1.heap[w.heap.size + 1 + 1]? = some (.cells #[.slice u1 W0.length n1, .slice u2 E0.length n2] 95 (0, 0)) from Sep.all h _ hM)
              have X0 := Lib.hid (HBM.out _ _ HD.out (by simp))
              have HOW := Lib.hid fun (W : World) (h : IntsV W (.slice u1 W0.length n1) W0) => l1Own_any _ W0 W h (by omega)
              have HOE := Lib.hid fun (W : World) (h : IntsV W (.slice u2 E0.length n2) E0) => l1Own_any _ E0 W h (by have := HLE.out; omega)
              clear hki
              refine AnyL.start (fun W1 => W1.cell? ⟨w.heap.size + 1 + 1, 0, none⟩ = some (.slice u1 W0.length n1) ∧ W1.cell? ⟨w.heap.size + 1 + 1, 1, none⟩ = some (.slice u2 E0.length n2)) (fun _ => True) 99 (by kernel_rfl) ?_
              refine AnyL.take (i := 0) (v := ?vx101) (by rfl) (by kernel_rfl) (by kernel_rfl) (by kernel_rfl) rfl (by exact fun _ _ _ h => h) (by rfl) ?hyx101 (by exact ⟨X0.out, fun _ => trivial⟩) ?restx101
              case hyx101 => intro W hSW; (try dsimp only at hSW); first | (go_simp; done) | (go_simp; with_reducible rfl)
              try simp only [Act.put, List.setIfInBounds_toArray, List.set_cons_zero, List.set_cons_succ]
              refine AnyL.take (i := 1) (v := ?vx102) (by rfl) (by kernel_rfl) (by kernel_rfl) (by kernel_rfl) rfl (by exact fun _ _ _ h => h) (by rfl) ?hyx102 (by exact ⟨X0.out, fun _ => trivial⟩) ?restx102
              case hyx102 => intro W hSW; (try dsimp only at hSW); first | (go_simp; done) | (go_simp; with_reducible rfl)
              try simp only [Act.put, List.setIfInBounds_toArray, List.set_cons_zero, List.set_cons_succ]
              refine AnyL.take (i := 2) (v := ?vx103) (by rfl) (by kernel_rfl) (by kernel_rfl) (by kernel_rfl) rfl (by exact fun _ _ _ h => h) (by rfl) ?hyx103 (by exact ⟨X0.out, fun _ => trivial⟩) ?restx103
              case hyx103 => intro W hSW; (try dsimp only at hSW); first | (go_simp; done) | (go_simp; with_reducible rfl)
              try simp only [Act.put, List.setIfInBounds_toArray, List.set_cons_zero, List.set_cons_succ]
              refine AnyL.take (i := 4) (v := ?vx104) (by rfl) (by kernel_rfl) (by kernel_rfl) (by kernel_rfl) rfl (by exact fun _ _ _ h => h) (by rfl) ?hyx104 (by exact ⟨X0.out, fun _ => trivial⟩) ?restx104
              case hyx104 => intro W hSW; (try dsimp only at hSW); first | (go_simp; done) | (go_simp; with_reducible rfl)
              try simp only [Act.put, List.setIfInBounds_toArray, List.set_cons_zero, List.set_cons_succ]
              refine AnyL.take (i := 5) (v := ?vx105) (by rfl) (by kernel_rfl) (by kernel_rfl) (by kernel_rfl) rfl (by exact fun _ _ _ h => h) (by rfl) ?hyx105 (by exact ⟨X0.out, fun _ => trivial⟩) ?restx105
              case hyx105 => intro W hSW; (try dsimp only at hSW); first | (go_simp; done) | (go_simp; with_reducible rfl)
              try simp only [Act.put, List.setIfInBounds_toArray, List.set_cons_zero, List.set_cons_succ]
              refine AnyL.step (i := 3) (by kernel_rfl) (by rfl) (fun K hK => ?_)
              go_simp
              go_at_call 55
              have HOO := Lib.hid (HOW.out _ (OwnInts.read (show OwnInts 0 _ (.slice u1 W0.length n1) W0 from HD.out.tl.tl.tl.tl.tl.hd)))
              with_reducible refine HOO.out.mono ?_
              rintro z w2 ⟨a1, c1, rfl, hsg⟩
              have H2 := Lib.hid (HD.out.graft1 hsg OI_own)
              clear hsg
              refine hK.out _ _ (by exact HBM.out _ _ H2.out (by simp)) (by exact fun _ => trivial) ?_
              clear hK K
              try simp only [Act.put, List.setIfInBounds_toArray, List.set_cons_zero, List.set_cons_succ]
              refine AnyL.step (i := 6) (by kernel_rfl) (by rfl) (fun K hK => ?_)
              go_simp
              go_at_call 55
              have HOO2 := Lib.hid (HOE.out _ (OwnInts.read (show OwnInts 0 _ (.slice u2 E0.length n2) E0 from H2.out.tl.tl.tl.tl.tl.tl.tl.hd)))
              with_reducible refine HOO2.out.mono ?_
              rintro z w3 ⟨a2, c2, rfl, hsg⟩
              have H3 := Lib.hid (H2.out.graft1 hsg OI_own).s2
              clear hsg
              have Y3 := Lib.hid fun ob => HBM.out _ _ (H3.out.al ob) (by simp)
              refine hK.out _ _ (by exact HBM.out _ _ H3.out (by simp)) (by exact fun _ => trivial) ?_
              clear hK K
              try simp only [Act.put, List.setIfInBounds_toArray, List.set_cons_zero, List.set_cons_succ]
              refine AnyL.take (i := 7) (v := ?vx106) (by rfl) (by kernel_rfl) (by kernel_rfl) (by kernel_rfl) rfl (by exact fun _ _ _ h => h) (by rfl) ?hyx106 (by exact ⟨HBM.out _ _ H3.out (by simp), fun _ => trivial⟩) ?restx106
              case hyx106 => intro W hSW; (try dsimp only at hSW); first | (go_simp; done) | (go_simp; with_reducible rfl)
              try simp only [Act.put, List.setIfInBounds_toArray, List.set_cons_zero, List.set_cons_succ]
              refine AnyL.step (i := 8) (by kernel_rfl) (by rfl) (fun K hK => ?_)
              go_simp
              refine hK.out _ _ (by exact Y3.out _) (by exact fun _ => trivial) ?_
              clear hK K
              try simp only [Act.put, List.setIfInBounds_toArray, List.set_cons_zero, List.set_cons_succ]
              refine AnyL.step (i := 9) (by kernel_rfl) (by rfl) (fun K hK => ?_)
              refine step_app_RG (E := matchE) (y := ⟨W0, E0, .slice a1 W0.length c1, .slice a2 E0.length c2⟩) info_match rfl (by decide) Try.underlying43 (match_one _ _ _ _ _ _ _ _) rfl (.tmp 123) (.tmp 131) rfl rfl rfl rfl rfl (Sep.blk (A := [_, _, _, _, _]) (B := [_]) H3.out) (by have := HX.out; omega) ?_
              intro g9 c9 w9 h9
              have h10 := Sep.blk3 (X := [_, _, _]) (A := [_, _, _]) (B := [_]) h9
              have h11 := Sep.bagTwo h10
              rw [show rowsM xs ++ [OI (.slice a1 W0.length c1) W0, OI (.slice a2 E0.length c2) E0] = rowsM (xs ++ [⟨W0, E0, .slice a1 W0.length c1, .slice a2 E0.length c2⟩]) from (rowsM_snoc xs ⟨W0, E0, .slice a1 W0.length c1, .slice a2 E0.length c2⟩).symm] at h11
              have H11 := Lib.hid h11
              clear h9 h10 h11
              refine hK.out _ _ (by exact HBM.out _ _ H11.out (by simp)) (by exact fun _ => trivial) ?_
              clear hK K
              try simp only [Act.put, List.setIfInBounds_toArray, List.set_cons_zero, List.set_cons_succ]
              refine AnyL.take (i := 10) (v := ?vx107) (by rfl) (by kernel_rfl) (by kernel_rfl) (by kernel_rfl) rfl (by exact fun _ _ _ h => h) (by rfl) ?hyx107 (by exact ⟨HBM.out _ _ H11.out (by simp), fun _ => trivial⟩) ?restx107
              case hyx107 => intro W hSW; (try dsimp only at hSW); first | (go_simp; done) | (go_simp; with_reducible rfl)
              try simp only [Act.put, List.setIfInBounds_toArray, List.set_cons_zero, List.set_cons_succ]
              refine AnyL.done (by kernel_rfl) ?_ _
              clear X0 HD H2 H3 Y3 HOW HOE HOO HOO2 HBM HSR
              go_wp2_with fail
              go_ret
              refine ⟨_, xs ++ [(⟨W0, E0, .slice a1 W0.length c1, .slice a2 E0.length c2⟩ : XM)], rfl, ?_, ?_⟩
              · have hw : IsMt g p ⟨W0, E0⟩ := HGD.out.whole (no_neg HWA.out) (no_neg (by rw [HLE.out]; exact HEA.out))
                rw [mts_snoc, ext_whole hw, List.take_of_length_le (by have := HMX.out; simp; omega)]
                rfl
              · exact Sep.cutA (X := [_, _]) (A := [_, _, _]) H11.out
end Go.Proofs.Ytlpgjnjhhgjkmaa

/-
  The reference's list of all matches. Conditions: the graphs are valid and monogamous, the pattern has at most 12 edges.
-/
namespace Go.Proofs.Ytlpgjnjhhgjkmaa
open Go.RowKit
set_option linter.unusedVariables false
set_option maxRecDepth 100000

theorem fits_rep (n : Nat) (m : List Int) : Fits (List.replicate n (-1)) m := fun i hi => by
  have : (List.replicate n (-1 : Int)).getD i (-1) = -1 := by
    rw [List.getD_eq_getElem?_getD, List.getElem?_replicate]; split <;> rfl
  rw [this] at hi; exact absurd hi (by decide)
theorem ext_all (g p : Gr) (a b : Nat) : extL g p ⟨List.replicate a (-1), List.replicate b (-1)⟩ = allMt g p := by
  unfold extL
  exact List.filter_eq_self.2 fun M _ => tst_iff.2 ⟨fits_rep _ _, fits_rep _ _⟩
theorem nd_len {l : List Int} {n : Nat} (hd : l.Nodup) (hr : ∀ x ∈ l, 0 ≤ x ∧ x < (n : Int)) : l.length ≤ n := by
  have h1 := List.Nodup.length_le_of_subset (l₁ := l) (l₂ := (List.range n).map fun i : Nat => (i : Int)) hd (fun x hx => by
    have := hr x hx
    rw [List.mem_map]
    exact ⟨x.toNat, List.mem_range.2 (by omega), by omega⟩)
  simpa using h1
theorem all_none {g p : Gr} (h0 : 0 ≤ g.n) (h : g.es.length < p.es.length ∨ g.n < p.n) : allMt g p = [] := by
  refine List.eq_nil_iff_forall_not_mem.2 fun M hM => ?_
  have hm := all_iff.1 hM
  rcases h with h | h
  · have := nd_len hm.de hm.re
    rw [hm.le] at this
    omega
  · have := nd_len (n := g.n.toNat) hm.dw (fun x hx => by have := hm.rw x hx; omega)
    rw [hm.lw] at this
    omega
def zeroCells (n : Nat) : Array Value := madeCells (Value.int .i64 0).cells (n * 1)
theorem make_row (n : Nat) (hn : n ≤ 1000000) (w : World) : (Instr.makeSlice 23 (.int .i64 n) (.int .i64 n)).run Try.prog w = .ok (.slice (some ⟨w.heap.size, 0, none⟩) n n) (w.alloc (.cells (zeroCells n) 3)) := by
  obtain ⟨i0, hi, hz0, hz1, hz2⟩ := info_parts info_int
  have h := run_make (P := Try.prog) w 23 3 i0 (.int .i64 0) Try.underlying23 hi hz0 .i64 .i64 n n (by omega) (Int.le_refl _) (by rw [hz2]; omega) (by omega)
  rw [hz1] at h
  simp only [Int.toNat_natCast] at h
  exact h
theorem row_made {B : Nat} (n : Nat) (hn : n ≤ 1000000) (w : World) (hB : B ≤ w.heap.size) : OwnInts B (w.alloc (.cells (zeroCells n) 3)) (.slice (some ⟨w.heap.size, 0, none⟩) n n) (List.replicate n 0) := by
  have h := World.ownsRow_lit (e := 3) (base := B) (size := 1) w (zeroCells n) n hB (by unfold maxLen; omega) (size_madeCells _ _)
  unfold zeroCells at h
  rw [madeCells_int] at h
  unfold OwnInts zeroCells
  rw [List.length_replicate]
  exact h
theorem Sep.row {w : World} {l : List Asrt} (h : Sep w l) (n : Nat) (hn : n ≤ 1000000) (b : Nat) (hb : b = w.heap.size) : Sep (w.alloc (.cells (zeroCells n) 3)) (OI (.slice (some ⟨b, 0, none⟩) n n) (List.replicate n 0) :: l) :=
  hb ▸ h.newI (grownBy_alloc _ _ _) (row_made n hn w (Nat.le_refl _))
theorem Sep.boxAt {w : World} {l : List Asrt} (h : Sep w l) (b : Nat) (hb : b = w.heap.size) (cs : Array Value) (t : TypeId) : Sep (w.alloc (.cells cs t)) (BxA b cs t :: l) := hb ▸ h.box cs t
theorem search_any (g p : Gr) (hg : mgB g = true) (hp : mgB p = true) (gea pea : Option Addr) (gec pec : Nat) (giv gov piv pov : Value) (w0 : World) (hrg : RdE edgeE w0 (.slice gea g.es.length gec) g.es) (hrp : RdE edgeE w0 (.slice pea p.es.length pec) p.es) (n : Nat) :
    SearchC g p gea pea gec pec giv gov piv pov w0 n := Nat.strongRecOn n fun n ih => search_step g p hg hp gea pea gec pec giv gov piv pov w0 hrg hrp n ih
/-- What hands back all matches, at most 100. -/
def AllR (g p : Gr) (w : World) (e : Ending) (w' : World) : Prop := ∃ v xs, e = .returned v ∧ mts xs = (allMt g p).take 100 ∧ Sep w' [OR matchE v xs, Bag (rowsM xs), KeepA w]
set_option maxHeartbeats 4000000 in
theorem mtAll_any (g p : Gr) (hg : mgB g = true) (hp : mgB p = true) (hl : p.es.length ≤ 12) (gea pea : Option Addr) (gec pec : Nat) (giv gov piv pov : Value) (w : World) (hrg : RdE edgeE w (.slice gea g.es.length gec) g.es) (hrp : RdE edgeE w (.slice pea p.es.length pec) p.es) :
    Calls Try.prog 47 #[grV g.n (.slice gea g.es.length gec) giv gov, grV p.n (.slice pea p.es.length pec) piv pov] w (AllR g p w) := by
  obtain ⟨mp, hmp, hp1, hp2, _⟩ := grB_n (mgB_gr hp)
  obtain ⟨mg, hmg, hg1, hg2, _⟩ := grB_n (mgB_gr hg)
  have hsc := fun u1 n1 u2 n2 W l => search_any g p hg hp gea pea gec pec giv gov piv pov w hrg hrp _ (List.replicate mp (-1)) (List.replicate p.es.length (-1)) u1 n1 u2 n2 (.slice none 0 0) [] W l (Nat.le_refl _) (by have := Gd.start (g := g) (p := p); rwa [hmp, Int.toNat_natCast] at this) (by decide)
  unfold SrL SearchR at hsc
  simp only [List.length_replicate, ext_all] at hsc
  have HSC := Lib.hid hsc
  clear hsc
  have HNO := Lib.hid (all_none (g := g) (p := p) (by omega))
  have hmp1 : mp ≤ 100 := by simpa using hp1
  have hs1 := ((Sep.start w).box #[.int .i64 g.n, .slice gea g.es.length gec, giv, gov] 29).boxAt (w.heap.size + 1) (by simp) #[.int .i64 p.n, .slice pea p.es.length pec, piv, pov] 29
  have HS1 := Lib.hid hs1
  obtain ⟨y0, y1, y2, y3, _⟩ := bq4 hs1.hd
  obtain ⟨x0, x1, x2, x3, _⟩ := bq4 hs1.tl.hd
  unfold grV
  clear hg hp hrg hrp hs1 hg1 hg2 hp1 hp2
  have hl0 : ¬ (12 : Int) < (p.es.length : Int) := by omega
  rw [hmp] at HS1 y0 HSC ⊢
  rw [hmg] at HS1 x0 HSC ⊢
  by_cases h1 : g.es.length < p.es.length
  · have HN := Lib.hid (HNO.out (Or.inl h1))
    have h1i : (g.es.length : Int) < (p.es.length : Int) := by omega
    clear h1
    go_enter Try.func47, Try.ntmps47
    go_wp2_with fail
    go_ret
    exact ⟨nilS, [], rfl, by rw [HN.out]; rfl, (show Sep _ [KeepA w] from HS1.out.tl.tl).nilM⟩
  · have h1i : ¬ (g.es.length : Int) < (p.es.length : Int) := by omega
    by_cases h2 : (mg : Int) < (mp : Int)
    · have HN := Lib.hid (HNO.out (Or.inr (by rw [hmp, hmg]; exact h2)))
      clear h1
      go_enter Try.func47, Try.ntmps47
      go_wp2_with fail
      go_ret
      exact ⟨nilS, [], rfl, by rw [HN.out]; rfl, (show Sep _ [KeepA w] from HS1.out.tl.tl).nilM⟩
    · clear h1
      have hmk1 : ∀ W : World, (Instr.makeSlice 23 (.int .i64 mp) (.int .i64 mp)).run Try.prog W = .ok (.slice (some ⟨W.heap.size, 0, none⟩) mp mp) (W.alloc (.cells (zeroCells mp) 3)) := fun W => make_row mp (by omega) W
      have hmk2 : ∀ W : World, (Instr.makeSlice 23 (.int .i64 p.es.length) (.int .i64 p.es.length)).run Try.prog W = .ok (.slice (some ⟨W.heap.size, 0, none⟩) p.es.length p.es.length) (W.alloc (.cells (zeroCells p.es.length) 3)) := fun W => make_row _ (by omega) W
      go_enter Try.func47, Try.ntmps47
      go_upto_region 3 with fail
      go_cut [5] from 28 to 36 (fun v5 wx => ∃ (bx a1 a2 : Nat), v5 = .pointer (some ⟨bx, 0, none⟩) ∧ Sep wx [BxA bx #[.slice (some ⟨a1, 0, none⟩) mp mp, .slice (some ⟨a2, 0, none⟩) p.es.length p.es.length] 95, OI (.slice (some ⟨a1, 0, none⟩) mp mp) (List.replicate mp 0), OI (.slice (some ⟨a2, 0, none⟩) p.es.length p.es.length) (List.replicate p.es.length 0), BxA (w.heap.size + 1) #[.int .i64 mp, .slice pea p.es.length pec, piv, pov] 29, BxA w.heap.size #[.int .i64 mg, .slice gea g.es.length gec, giv, gov] 29, KeepA w])
      case first =>
        go_region
        all_goals (go_wp2_with fail; go_meet)
        · exact ⟨(w.heap.size + 1 + 1 + 1 + 1), (w.heap.size + 1 + 1), (w.heap.size + 1 + 1 + 1), rfl, ((((HS1.out.row mp (by omega) (w.heap.size + 1 + 1) (by simp)).row p.es.length (by omega) (w.heap.size + 1 + 1 + 1) (by simp)).boxAt (w.heap.size + 1 + 1 + 1 + 1) (by simp) #[.slice (some ⟨(w.heap.size + 1 + 1), 0, none⟩) mp mp, .slice (some ⟨(w.heap.size + 1 + 1 + 1), 0, none⟩) p.es.length p.es.length] 95).under Sep.s2 (by simp +contextual)).dr⟩
        · exact ⟨(w.heap.size + 1 + 1 + 1), (w.heap.size + 1 + 1), (w.heap.size + 1 + 1 + 1 + 1), rfl, (((((HS1.out.row mp (by omega) (w.heap.size + 1 + 1) (by simp)).boxAt (w.heap.size + 1 + 1 + 1) (by simp) #[.slice (some ⟨(w.heap.size + 1 + 1), 0, none⟩) mp mp, .slice (some ⟨(w.heap.size + 1 + 1 + 1 + 1), 0, none⟩) p.es.length p.es.length] 95).row p.es.length (by omega) (w.heap.size + 1 + 1 + 1 + 1) (by simp)).s2).under Sep.s2 (by simp +contextual)).dr⟩
        · exact ⟨(w.heap.size + 1 + 1 + 1 + 1), (w.heap.size + 1 + 1 + 1), (w.heap.size + 1 + 1), rfl, ((((HS1.out.row p.es.length (by omega) (w.heap.size + 1 + 1) (by simp)).row mp (by omega) (w.heap.size + 1 + 1 + 1) (by simp)).boxAt (w.heap.size + 1 + 1 + 1 + 1) (by simp) #[.slice (some ⟨(w.heap.size + 1 + 1 + 1), 0, none⟩) mp mp, .slice (some ⟨(w.heap.size + 1 + 1), 0, none⟩) p.es.length p.es.length] 95)).dr⟩
        · exact ⟨(w.heap.size + 1 + 1 + 1), (w.heap.size + 1 + 1 + 1 + 1), (w.heap.size + 1 + 1), rfl, ((((HS1.out.row p.es.length (by omega) (w.heap.size + 1 + 1) (by simp)).boxAt (w.heap.size + 1 + 1 + 1) (by simp) #[.slice (some ⟨(w.heap.size + 1 + 1 + 1 + 1), 0, none⟩) mp mp, .slice (some ⟨(w.heap.size + 1 + 1), 0, none⟩) p.es.length p.es.length] 95).row mp (by omega) (w.heap.size + 1 + 1 + 1 + 1) (by simp)).s2).dr⟩
        · exact ⟨(w.heap.size + 1 + 1), (w.heap.size + 1 + 1 + 1), (w.heap.size + 1 + 1 + 1 + 1), rfl, (((((HS1.out.boxAt (w.heap.size + 1 + 1) (by simp) #[.slice (some ⟨(w.heap.size + 1 + 1 + 1), 0, none⟩) mp mp, .slice (some ⟨(w.heap.size + 1 + 1 + 1 + 1), 0, none⟩) p.es.length p.es.length] 95).row mp (by omega) (w.heap.size + 1 + 1 + 1) (by simp)).row p.es.length (by omega) (w.heap.size + 1 + 1 + 1 + 1) (by simp)).s3).under Sep.s2 (by simp +contextual)).dr⟩
        · exact ⟨(w.heap.size + 1 + 1), (w.heap.size + 1 + 1 + 1 + 1), (w.heap.size + 1 + 1 + 1), rfl, ((((HS1.out.boxAt (w.heap.size + 1 + 1) (by simp) #[.slice (some ⟨(w.heap.size + 1 + 1 + 1 + 1), 0, none⟩) mp mp, .slice (some ⟨(w.heap.size + 1 + 1 + 1), 0, none⟩) p.es.length p.es.length] 95).row p.es.length (by omega) (w.heap.size + 1 + 1 + 1) (by simp)).row mp (by omega) (w.heap.size + 1 + 1 + 1 + 1) (by simp)).s3).dr⟩
      case rest =>
        obtain ⟨bx, a1, a2, rfl, hs⟩ := hcut
        obtain ⟨m0, m1⟩ := bq2 hs.hd
        have HS := Lib.hid hs
        clear hs HS1 x0 x1 x2 x3 y0 y1 y2 y3 hmk1 hmk2
        go_wp2_with fail
        clear m0 m1
        go_loopw [6, 39] (fun _ i wr => ∃ k : Nat, k ≤ mp ∧ i = .int .i64 k ∧ Sep wr [BxA bx #[.slice (some ⟨a1, 0, none⟩) mp mp, .slice (some ⟨a2, 0, none⟩) p.es.length p.es.length] 95, OI (.slice (some ⟨a1, 0, none⟩) mp mp) (List.replicate k (-1) ++ List.replicate (mp - k) 0), OI (.slice (some ⟨a2, 0, none⟩) p.es.length p.es.length) (List.replicate p.es.length 0), BxA (w.heap.size + 1) #[.int .i64 mp, .slice pea p.es.length pec, piv, pov] 29, BxA w.heap.size #[.int .i64 mg, .slice gea g.es.length gec, giv, gov] 29, KeepA w]) (fun _ i _ => mp - (intOf i).toNat)
        case atStart => exact ⟨0, by omega, rfl, by simpa using HS.out⟩
        case round =>
          obtain ⟨k, hk, rfl, hs⟩ := hrel
          have HSR := Lib.hid hs
          clear HS
          by_cases hlt : k < mp
          · have HLT := Lib.hid hlt
            obtain ⟨m0, m1⟩ := bq2 hs.hd
            have hn : mp = (List.replicate k (-1 : Int) ++ List.replicate (mp - k) 0).length := by simp; omega
            have c0 := own_at (show OwnInts 0 wr (.slice (some ⟨a1, 0, none⟩) mp mp) _ from hs.tl.hd) hn hlt
            have c1 := (show OwnInts 0 wr (.slice (some ⟨a1, 0, none⟩) mp mp) _ from hs.tl.hd).free hn k
            have h2 := hs.s2.setI hn k (-1)
            rw [repl_set hlt] at h2
            have HS2 := Lib.hid h2.s2
            generalize (List.replicate k (-1 : Int) ++ List.replicate (mp - k) 0).getD k 0 = old at *
            have hki : (k : Int) < (mp : Int) := by omega
            clear hs h2 hn
            go_wp2_with fail
            go_roundw
            case rel => exact ⟨k + 1, HLT.out, by go_num, HS2.out⟩
            case measure => simp [intOf]; omega
          · have hkm : k = mp := by omega
            subst hkm
            have h3 := HSR.out
            simp only [Nat.sub_self, List.replicate_zero, List.append_nil] at h3
            obtain ⟨m0, m1⟩ := bq2 h3.hd
            have HS := Lib.hid h3
            clear hs h3 hk HSR
            go_wp2_with fail
            clear m0 m1
            go_loopw [7, 50] (fun _ i wr => ∃ j : Nat, j ≤ p.es.length ∧ i = .int .i64 j ∧ Sep wr [BxA bx #[.slice (some ⟨a1, 0, none⟩) k k, .slice (some ⟨a2, 0, none⟩) p.es.length p.es.length] 95, OI (.slice (some ⟨a1, 0, none⟩) k k) (List.replicate k (-1)), OI (.slice (some ⟨a2, 0, none⟩) p.es.length p.es.length) (List.replicate j (-1) ++ List.replicate (p.es.length - j) 0), BxA (w.heap.size + 1) #[.int .i64 k, .slice pea p.es.length pec, piv, pov] 29, BxA w.heap.size #[.int .i64 mg, .slice gea g.es.length gec, giv, gov] 29, KeepA w]) (fun _ i _ => p.es.length - (intOf i).toNat)
            case atStart => exact ⟨0, by omega, rfl, by simpa using HS.out⟩
            case round =>
              obtain ⟨j, hj, rfl, hs⟩ := hrel
              have HSR := Lib.hid hs
              clear HS
              by_cases hlt2 : j < p.es.length
              · have HLT := Lib.hid hlt2
                obtain ⟨m0, m1⟩ := bq2 hs.hd
                have hn : p.es.length = (List.replicate j (-1 : Int) ++ List.replicate (p.es.length - j) 0).length := by simp; omega
                have c0 := own_at (show OwnInts 0 wr (.slice (some ⟨a2, 0, none⟩) p.es.length p.es.length) _ from hs.tl.tl.hd) hn hlt2
                have c1 := (show OwnInts 0 wr (.slice (some ⟨a2, 0, none⟩) p.es.length p.es.length) _ from hs.tl.tl.hd).free hn j
                have h2 := hs.s3.setI hn j (-1)
                rw [repl_set hlt2] at h2
                have HS2 := Lib.hid h2.s3.s3
                generalize (List.replicate j (-1 : Int) ++ List.replicate (p.es.length - j) 0).getD j 0 = old at *
                have hki : (j : Int) < (p.es.length : Int) := by omega
                clear hs h2 hn
                go_wp2_with fail
                go_roundw
                case rel => exact ⟨j + 1, HLT.out, by go_num, HS2.out⟩
                case measure => simp [intOf]; omega
              · have hjm : j = p.es.length := by omega
                subst hjm
                have h3 := HSR.out
                simp only [Nat.sub_self, List.replicate_zero, List.append_nil] at h3
                obtain ⟨m0, m1⟩ := bq2 h3.hd
                obtain ⟨y0, y1, y2, y3, _⟩ := bq4 h3.tl.tl.tl.hd
                obtain ⟨x0, x1, x2, x3, _⟩ := bq4 h3.tl.tl.tl.tl.hd
                have HC := Lib.hid (HSC.out _ _ _ _ _ _ (Sep.blk3 (X := [_, _, _, _]) (A := [_, _, _]) (B := [_]) (r := []) (Sep.blk3 (X := [_, _]) (A := [_]) (B := [_, _]) h3.nilM)))
                clear hs h3 HSR HSC hj hlt2
                go_wp2_with (
                  go_at_call 70
                  with_reducible refine HC.out.mono ?_
                  rintro e w9 ⟨ov, xs, rfl, hm, hs9⟩
                  have HM := Lib.hid hm
                  have HS9 := Lib.hid (Sep.cutA (X := [_, _, _]) (A := [_, _, _]) (r := []) (Sep.cutA (X := [_, _]) (A := [_, _]) hs9))
                  clear hm hs9 m0 m1 x0 x1 x2 x3 y0 y1 y2 y3)
                go_ret
                exact ⟨ov, xs, rfl, HM.out, HS9.out⟩
end Go.Proofs.Ytlpgjnjhhgjkmaa

/-
  Is a graph monogamous, in the reference. Conditions: the graph is valid; lengths are small.
-/
namespace Go.Proofs.Ytlpgjnjhhgjkmaa
open Go.RowKit
set_option linter.unusedVariables false
set_option maxRecDepth 100000

theorem cnt_perm {P : List Int} {m : Nat} (hr : ∀ x ∈ P, 0 ≤ x ∧ x < (m : Int)) : ((cntL m P).all fun n => decide (1 ≤ n ∧ n ≤ 1)) = permB P m := by
  have h := perm_count hr
  have hb : rngB m P = true := rngB_iff.2 hr
  rw [Bool.eq_iff_iff]
  unfold permB cntL
  rw [hb]
  simp only [List.all_eq_true, List.mem_map, List.mem_range, Bool.and_eq_true, decide_eq_true_iff]
  constructor
  · intro hh
    have := h.2 (fun w hw => by
      have := hh ((P.count (w : Int) : Nat) : Int) ⟨w, hw, rfl⟩
      omega)
    exact ⟨⟨by omega, trivial⟩, this.2⟩
  · rintro ⟨⟨h1, _⟩, h2⟩ x ⟨w, hw, rfl⟩
    have := h.1 ⟨by omega, h2⟩ w hw
    omega
theorem wires_len {g : Gr} (h1 : g.es.length ≤ 60) (h2 : ∀ e ∈ g.es, e.i.length ≤ 2 ∧ e.o.length ≤ 2) : (outE g.es).length ≤ 120 ∧ (inE g.es).length ≤ 120 := by
  have a := flat_small (fun e => e.o) g.es (fun e he => (h2 e he).2)
  have b := flat_small (fun e => e.i) g.es (fun e he => (h2 e he).1)
  unfold outE inE
  omega
theorem hgMono_any (ev iv ov : Value) (g : Gr) (w : World) (he : RdE edgeE w ev g.es) (hi : IntsV w iv g.i) (ho : IntsV w ov g.o) (hg : grB g = true) :
    Calls Try.prog 93 #[grV g.n ev iv ov] w fun e w' => e = .returned (.bool (monB g)) ∧ w.grownBy w' none := by
  obtain ⟨m, hm, hm1, hg1, hg2, hg3, hg4, hg5, _⟩ := grB_n hg
  have hw := wires_len hg1 hg5
  have HCN := Lib.hid fun W (h : w.grownBy W none) => hgCounts_any ev iv ov g m W (he.carry h) (hi.carry h) (ho.carry h) hm (by omega) hg4 (by omega) (by omega) (by omega) (by omega) (by omega)
  have hfr : ∀ x ∈ fromL g, 0 ≤ x ∧ x < (m : Int) := fun x hx => by rw [← hm]; exact rngB_iff.1 hg4 x (mem_wires.2 (Or.inl hx))
  have hto : ∀ x ∈ toL g, 0 ≤ x ∧ x < (m : Int) := fun x hx => by rw [← hm]; exact rngB_iff.1 hg4 x (mem_wires.2 (Or.inr hx))
  have HLA := Lib.hid fun v W (h : IntsV W v (cntL m (fromL g))) => l1All_any 1 1 v _ W h (by rw [cntL_len]; omega)
  have HLB := Lib.hid fun v W (h : IntsV W v (cntL m (toL g))) => l1All_any 1 1 v _ W h (by rw [cntL_len]; omega)
  rw [cnt_perm hfr] at HLA
  rw [cnt_perm hto] at HLB
  rw [show monB g = (permB (fromL g) m && permB (toL g) m) by unfold monB; rw [hm]]
  generalize permB (fromL g) m = b1 at *
  generalize permB (toL g) m = b2 at *
  generalize cntL m (fromL g) = q1 at *
  generalize cntL m (toL g) = q2 at *
  unfold grV at *
  obtain ⟨ea, ec, rfl⟩ := he.shape
  obtain ⟨ia, ic, rfl⟩ := hi.shape
  obtain ⟨oa, oc, rfl⟩ := ho.shape
  clear he hi ho hg hfr hto hg1 hg2 hg3 hg4 hg5 hw hm
  generalize g.n = n at *
  generalize g.es.length = m0 at *
  generalize g.i.length = m1 at *
  generalize g.o.length = m2 at *
  have HK0 := Lib.hid fun o => gr1 w o
  cases b1
  · go_enter Try.func93, Try.ntmps93
    go_wp2_with (first
      | (go_at_call 53
         with_reducible refine (HCN.out _ (HK0.out _)).mono ?_
         rintro e w2 ⟨v1, v2, rfl, hs⟩
         have H1 := Lib.hid (HLA.out v1 w2 (OwnInts.read (show OwnInts 0 w2 v1 _ from hs.hd)))
         have H2 := Lib.hid (HLB.out v2 w2 (OwnInts.read (show OwnInts 0 w2 v2 _ from hs.tl.hd)))
         obtain ⟨s1, r1, rfl⟩ := own_shape (show OwnInts 0 w2 v1 _ from hs.hd)
         obtain ⟨s2, r2, rfl⟩ := own_shape (show OwnInts 0 w2 v2 _ from hs.tl.hd)
         have HK := Lib.hid (grownBy_trans (HK0.out _) hs.tl.tl.hd)
         clear hs)
      | (go_at_call 51; with_reducible refine H1.out.mono ?_; rintro e w3 ⟨rfl, rfl⟩))
    go_ret
    exact ⟨rfl, HK.out⟩
  · go_enter Try.func93, Try.ntmps93
    go_wp2_with (first
      | (go_at_call 53
         with_reducible refine (HCN.out _ (HK0.out _)).mono ?_
         rintro e w2 ⟨v1, v2, rfl, hs⟩
         have H1 := Lib.hid (HLA.out v1 w2 (OwnInts.read (show OwnInts 0 w2 v1 _ from hs.hd)))
         have H2 := Lib.hid (HLB.out v2 w2 (OwnInts.read (show OwnInts 0 w2 v2 _ from hs.tl.hd)))
         obtain ⟨s1, r1, rfl⟩ := own_shape (show OwnInts 0 w2 v1 _ from hs.hd)
         obtain ⟨s2, r2, rfl⟩ := own_shape (show OwnInts 0 w2 v2 _ from hs.tl.hd)
         have HK := Lib.hid (grownBy_trans (HK0.out _) hs.tl.tl.hd)
         clear hs)
      | (go_at_call 51; with_reducible refine H1.out.mono ?_; rintro e w3 ⟨rfl, rfl⟩)
      | (go_at_call 51; with_reducible refine H2.out.mono ?_; rintro e w4 ⟨rfl, rfl⟩))
    go_ret
    exact ⟨rfl, HK.out⟩
end Go.Proofs.Ytlpgjnjhhgjkmaa

/-
  The reference's MatchesOf. Conditions: the graphs' lists can be read, their lengths are small.
-/
namespace Go.Proofs.Ytlpgjnjhhgjkmaa
open Go.RowKit
set_option linter.unusedVariables false
set_option maxRecDepth 100000

set_option maxHeartbeats 1000000 in
theorem sMono_any (ev iv ov : Value) (g : Gr) (w : World) (hx : RdX w g ev iv ov) (sg : Sm g) :
    Calls Try.prog 69 #[grV g.n ev iv ov] w fun e w' => e = .returned (.bool (mgB g)) ∧ w.grownBy w' none := by
  have HV := Lib.hid fun W (h : w.grownBy W none) => hgValid_any ev iv ov g W (hx.1.carry h) (hx.2.1.carry h) (hx.2.2.carry h) (by have := sg.es; omega) (by have := sg.i; omega) (by have := sg.o; omega)
  have HM := Lib.hid fun (hb : grB g = true) W (h : w.grownBy W none) => hgMono_any ev iv ov g W (hx.1.carry h) (hx.2.1.carry h) (hx.2.2.carry h) hb
  obtain ⟨ga, gc, rfl⟩ := hx.1.shape
  obtain ⟨gi, gd, rfl⟩ := hx.2.1.shape
  obtain ⟨go, gf, rfl⟩ := hx.2.2.shape
  have HS0 := Lib.hid ((Sep.start w).box #[.int .i64 g.n, .slice ga g.es.length gc, .slice gi g.i.length gd, .slice go g.o.length gf] 29)
  have HK0 := Lib.hid (show w.grownBy _ none from HS0.out.tl.hd)
  unfold grV at *
  clear hx sg
  cases hb : grB g with
  | false =>
    rw [show mgB g = false from by unfold mgB; rw [hb]; rfl]
    rw [hb] at HV
    clear hb HM
    generalize g.es.length = n1 at *
    generalize g.i.length = n2 at *
    generalize g.o.length = n3 at *
    go_enter Try.func69, Try.ntmps69
    go_wp2_with (
      go_at_call 28
      with_reducible refine (HV.out _ HK0.out).mono ?_
      rintro e w2 ⟨rfl, hg⟩
      have HK2 := Lib.hid (grownBy_trans HK0.out hg)
      clear hg)
    go_ret
    exact ⟨rfl, HK2.out⟩
  | true =>
    rw [show mgB g = monB g from by unfold mgB; rw [hb]; rfl]
    have HM2 := Lib.hid (HM.out hb)
    rw [hb] at HV
    clear hb HM
    generalize g.es.length = n1 at *
    generalize g.i.length = n2 at *
    generalize g.o.length = n3 at *
    generalize monB g = b at *
    go_enter Try.func69, Try.ntmps69
    go_wp2_with (first
      | (go_at_call 28
         with_reducible refine (HV.out _ HK0.out).mono ?_
         rintro e w2 ⟨rfl, hg⟩
         have hs2 := HS0.out.grown hg
         obtain ⟨x0, x1, x2, x3, _⟩ := bq4 hs2.hd
         have HK2 := Lib.hid (show w.grownBy w2 none from hs2.tl.hd)
         clear hg hs2)
      | (go_at_call 93
         with_reducible refine (HM2.out _ HK2.out).mono ?_
         rintro e w3 ⟨rfl, hg⟩
         have HK3 := Lib.hid (grownBy_trans HK2.out hg)
         clear hg))
    go_ret
    exact ⟨rfl, HK3.out⟩
set_option maxHeartbeats 1000000 in
theorem mtTwo_any (gev giv gov pev piv pov : Value) (g p : Gr) (w : World) (hg : RdX w g gev giv gov) (hp : RdX w p pev piv pov) (sg : Sm g) (sp : Sm p) :
    Calls Try.prog 46 #[grV g.n gev giv gov, grV p.n pev piv pov] w fun e w' => e = .returned (.bool (mgB g && mgB p)) ∧ w.grownBy w' none := by
  have HG := Lib.hid fun W (h : w.grownBy W none) => sMono_any gev giv gov g W ⟨hg.1.carry h, hg.2.1.carry h, hg.2.2.carry h⟩ sg
  have HP := Lib.hid fun W (h : w.grownBy W none) => sMono_any pev piv pov p W ⟨hp.1.carry h, hp.2.1.carry h, hp.2.2.carry h⟩ sp
  obtain ⟨ga, gc, rfl⟩ := hg.1.shape
  obtain ⟨gi, gd, rfl⟩ := hg.2.1.shape
  obtain ⟨go, gf, rfl⟩ := hg.2.2.shape
  obtain ⟨pa, pc, rfl⟩ := hp.1.shape
  obtain ⟨pi, pd, rfl⟩ := hp.2.1.shape
  obtain ⟨po, pf, rfl⟩ := hp.2.2.shape
  have hs0 := ((Sep.start w).box #[.int .i64 g.n, .slice ga g.es.length gc, .slice gi g.i.length gd, .slice go g.o.length gf] 29).boxAt (w.heap.size + 1) (by simp) #[.int .i64 p.n, .slice pa p.es.length pc, .slice pi p.i.length pd, .slice po p.o.length pf] 29
  have HS0 := Lib.hid hs0
  have HK0 := Lib.hid (show w.grownBy _ none from HS0.out.tl.tl.hd)
  obtain ⟨x0, x1, x2, x3, _⟩ := bq4 hs0.tl.hd
  obtain ⟨y0, y1, y2, y3, _⟩ := bq4 hs0.hd
  unfold grV at *
  clear hg hp sg sp hs0
  generalize g.es.length = n1 at *
  generalize g.i.length = n2 at *
  generalize g.o.length = n3 at *
  generalize p.es.length = m1 at *
  generalize p.i.length = m2 at *
  generalize p.o.length = m3 at *
  generalize mgB p = b2 at *
  cases hb : mgB g with
  | false =>
    rw [hb] at HG
    clear hb
    rw [Bool.false_and]
    go_enter Try.func46, Try.ntmps46
    go_wp2_with (
      go_at_call 69
      with_reducible refine (HG.out _ HK0.out).mono ?_
      rintro e w2 ⟨rfl, hg⟩
      have HK2 := Lib.hid (grownBy_trans HK0.out hg)
      clear hg)
    go_ret
    exact ⟨rfl, HK2.out⟩
  | true =>
    rw [hb] at HG
    clear hb
    rw [Bool.true_and]
    go_enter Try.func46, Try.ntmps46
    go_wp2_with (first
      | (go_at_call 69
         with_reducible refine (HG.out _ HK0.out).mono ?_
         rintro e w2 ⟨rfl, hg⟩
         have hs2 := HS0.out.grown hg
         obtain ⟨z0, z1, z2, z3, _⟩ := bq4 hs2.hd
         have HK2 := Lib.hid (show w.grownBy w2 none from hs2.tl.tl.hd)
         clear hg hs2)
      | (go_at_call 69
         with_reducible refine (HP.out _ HK2.out).mono ?_
         rintro e w3 ⟨rfl, hg⟩
         have HK3 := Lib.hid (grownBy_trans HK2.out hg)
         clear hg))
    go_ret
    exact ⟨rfl, HK3.out⟩
set_option maxHeartbeats 2000000 in
theorem sMatchesOf_any (g p : Gr) (gev giv gov pev piv pov : Value) (w : World) (hg : RdX w g gev giv gov) (hp : RdX w p pev piv pov) (sg : Sm g) (sp : Sm p) :
    Calls Try.prog 19 #[grV g.n gev giv gov, grV p.n pev piv pov] w (MatR g p w) := by
  have HT := Lib.hid fun W (h : w.grownBy W none) => mtTwo_any gev giv gov pev piv pov g p W ⟨hg.1.carry h, hg.2.1.carry h, hg.2.2.carry h⟩ ⟨hp.1.carry h, hp.2.1.carry h, hp.2.2.carry h⟩ sg sp
  obtain ⟨ga, gc, rfl⟩ := hg.1.shape
  obtain ⟨gi, gd, rfl⟩ := hg.2.1.shape
  obtain ⟨go, gf, rfl⟩ := hg.2.2.shape
  obtain ⟨pa, pc, rfl⟩ := hp.1.shape
  obtain ⟨pi, pd, rfl⟩ := hp.2.1.shape
  obtain ⟨po, pf, rfl⟩ := hp.2.2.shape
  have HAL := Lib.hid fun (h1 : mgB g = true) (h2 : mgB p = true) (h3 : p.es.length ≤ 12) W (h : w.grownBy W none) => mtAll_any g p h1 h2 h3 ga pa gc pc (.slice gi g.i.length gd) (.slice go g.o.length gf) (.slice pi p.i.length pd) (.slice po p.o.length pf) W (hg.1.carry h) (hp.1.carry h)
  have hs0 := ((Sep.start w).box #[.int .i64 g.n, .slice ga g.es.length gc, .slice gi g.i.length gd, .slice go g.o.length gf] 29).boxAt (w.heap.size + 1) (by simp) #[.int .i64 p.n, .slice pa p.es.length pc, .slice pi p.i.length pd, .slice po p.o.length pf] 29
  have HS0 := Lib.hid hs0
  have HK0 := Lib.hid (show w.grownBy _ none from HS0.out.tl.tl.hd)
  obtain ⟨x0, x1, x2, x3, _⟩ := bq4 hs0.tl.hd
  obtain ⟨y0, y1, y2, y3, _⟩ := bq4 hs0.hd
  have HMB := Lib.hid (show mtB g p = (mgB g && mgB p && decide (p.es.length ≤ 12)) from rfl)
  unfold grV at *
  clear hg hp sg sp hs0
  cases hb : (mgB g && mgB p) with
  | false =>
    rw [hb] at HT
    have HF := Lib.hid (show mtB g p = false from by rw [HMB.out, hb]; rfl)
    clear hb HAL
    go_enter Try.func19, Try.ntmps19
    go_wp2_with (
      go_at_call 46
      with_reducible refine (HT.out _ HK0.out).mono ?_
      rintro e w2 ⟨rfl, hg⟩
      have HS2 := Lib.hid (show Sep w2 [KeepA w] from (HS0.out.grown hg).tl.tl)
      clear hg)
    go_ret2
    exact ⟨nilS, [], by rw [HF.out]; rfl, by unfold mtL; rw [HF.out]; rfl, HS2.out.nilM⟩
  | true =>
    rw [hb] at HT
    by_cases hl : p.es.length ≤ 12
    · have HTT := Lib.hid (show mtB g p = true from by rw [HMB.out, hb, decide_eq_true hl]; rfl)
      rw [Bool.and_eq_true] at hb
      have HA := Lib.hid (HAL.out hb.1 hb.2 hl)
      have hl2 : ¬ ((12 : Int) < (p.es.length : Int)) := by omega
      clear hb hl HAL
      go_enter Try.func19, Try.ntmps19
      go_wp2_with (first
        | (go_at_call 46
           with_reducible refine (HT.out _ HK0.out).mono ?_
           rintro e w2 ⟨rfl, hg⟩
           have hs2 := HS0.out.grown hg
           obtain ⟨z0, z1, z2, z3, _⟩ := bq4 hs2.hd
           obtain ⟨v0, v1, v2, v3, _⟩ := bq4 hs2.tl.hd
           have HK2 := Lib.hid (show w.grownBy w2 none from hs2.tl.tl.hd)
           have HS2 := Lib.hid (show Sep w2 [KeepA w] from hs2.tl.tl)
           clear hg hs2)
        | (go_at_call 47
           with_reducible refine (HA.out _ HK2.out).mono ?_
           rintro e w3 ⟨v, xs, rfl, hxs, hsg⟩
           have HX := Lib.hid hxs
           have HS3 := Lib.hid (HS2.out.graft2 hsg (fun k hk => hk) (fun k hk => bagM_own k hk))
           clear hsg hxs))
      go_ret2
      exact ⟨v, xs, by rw [HTT.out]; rfl, by unfold mtL; rw [if_pos HTT.out]; exact HX.out, HS3.out⟩
    · have HF := Lib.hid (show mtB g p = false from by rw [HMB.out, decide_eq_false hl]; simp)
      have hl2 : (12 : Int) < (p.es.length : Int) := by omega
      clear hb hl HAL
      go_enter Try.func19, Try.ntmps19
      go_wp2_with (
        go_at_call 46
        with_reducible refine (HT.out _ HK0.out).mono ?_
        rintro e w2 ⟨rfl, hg⟩
        have hs2 := HS0.out.grown hg
        obtain ⟨z0, z1, z2, z3, _⟩ := bq4 hs2.hd
        have HS2 := Lib.hid (show Sep w2 [KeepA w] from hs2.tl.tl)
        clear hg hs2)
      go_ret2
      exact ⟨nilS, [], by rw [HF.out]; rfl, by unfold mtL; rw [HF.out]; rfl, HS2.out.nilM⟩
end Go.Proofs.Ytlpgjnjhhgjkmaa

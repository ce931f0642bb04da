/-
  The search for matches: one edge after the other. Conditions: the part that is given is consistent.
-/
import Derived.Deep.LoopGhost
import Derived.Test.YtlpgjnjhhgjkmaaYq00
import Derived.Test.YtlpgjnjhhgjkmaaYq01
import Derived.Laws.EntriesVeiled
namespace Go.Proofs.Ytlpgjnjhhgjkmaa
open Go.RowKit
set_option linter.unusedVariables false
set_option maxRecDepth 100000

theorem ints_pre {w : World} {a : Option Addr} {n c c' : Nat} {zs : List Int} (h : IntsV w (.slice a n c) zs) {k : Nat} (hk : k ≤ zs.length) : IntsV w (.slice a k c') (zs.take k) := by
  obtain ⟨a', c1, he, hr⟩ := h
  injection he with e1 e2 e3
  subst e1
  refine ⟨a, c', by rw [List.length_take, Nat.min_eq_left hk], fun hz => ?_⟩
  obtain ⟨d, hd, hsp, hb, hc⟩ := hr (by intro e; rw [e] at hz; simp at hz)
  refine ⟨d, hd, hsp, hb, fun i hi => ?_⟩
  rw [List.getElem_take]
  exact hc i (by rw [List.length_take] at hi; omega)
/-- Two lists, laid side by side for a call. -/
theorem rdL_two {w : World} {v1 v2 : Value} {z1 z2 : List Int} (h1 : IntsV w v1 z1) (h2 : IntsV w v2 z2) : RdL (w.alloc (.cells #[v1, v2] 23)) (.slice (some ⟨w.heap.size, 0, none⟩) 2 2) [⟨v1, z1⟩, ⟨v2, z2⟩] := by
  have hg := grownBy_alloc w (.cells #[v1, v2] 23) none
  have hn := alloc_heap_new w (.cells #[v1, v2] 23)
  refine ⟨⟨_, _, rfl, fun _ => ⟨_, rfl, rfl, by simp, fun i hi j hj => ?_⟩⟩, fun x hx => ?_⟩
  · have hj0 : j = 0 := by simp only [rowE] at hj; omega
    subst hj0
    match i, hi with
    | 0, _ => exact cell_of_row _ _ 0 _ _ _ hn
    | 1, _ => exact cell_of_row _ _ 1 _ _ _ hn
    | n + 2, h => simp at h; omega
  · simp only [List.mem_cons, List.not_mem_nil, or_false] at hx
    rcases hx with rfl | rfl
    · exact h1.carry hg
    · exact h2.carry hg
theorem own_roomy {B : Nat} {w : World} {a : Option Addr} {n c : Nat} {zs : List Int} (h : OwnInts B w (.slice a n c) zs) : n ≤ c := by
  rcases h.2 with ⟨h1, h0⟩ | ⟨g, cap, cur, h1, h2, h3, h4, h5, h6⟩
  · injection h1 with e1 e2 e3; omega
  · injection h1 with e1 e2 e3
    subst e2 e3
    first | exact h4 | exact h3 | omega
theorem Prt.swap {g p : Gr} {W Es Fs : List Int} {i : Nat} (h : Prt g p W Es i) (hl : Fs.length = Es.length) (ht : Fs.take i = Es.take i) : Prt g p W Fs i := by
  have hg : ∀ j, j < i → Fs.getD j 0 = Es.getD j 0 := fun j hj => by
    have := congrArg (fun l => l.getD j 0) ht
    simp only [List.getD_eq_getElem?_getD, List.getElem?_take, if_pos hj] at this
    rw [List.getD_eq_getElem?_getD, List.getD_eq_getElem?_getD]
    exact this
  exact ⟨h.lw, by rw [hl, h.le], h.il, h.rw, h.inj, fun j hj => by rw [hg j hj]; exact h.re j hj, fun a b ha hb he => by rw [hg a ha, hg b hb] at he; exact h.de a b ha hb he, fun j hj => by rw [hg j hj]; exact h.ed j hj⟩
theorem joined_two (v1 v2 : Value) (z1 z2 z : List Int) (hz : z1 ++ z2 = z) (w : World) (q : Nat) (hq : q = w.heap.size) (h1 : IntsV w v1 z1) (h2 : IntsV w v2 z2) (l1 : z1.length ≤ 1000) (l2 : z2.length ≤ 1000) :
    Calls Try.prog 90 #[.slice (some ⟨q, 0, none⟩) 2 2] (w.alloc (.cells #[v1, v2] 23)) fun e w' => ∃ a c, e = .returned (.slice a z.length c) ∧ Sep w' [OI (.slice a z.length c) z, KeepA (w.alloc (.cells #[v1, v2] 23))] := by
  subst hq
  have e : joinL [⟨v1, z1⟩, ⟨v2, z2⟩] = z := by rw [← hz]; simp [joinL]
  refine (joined_any _ [⟨v1, z1⟩, ⟨v2, z2⟩] _ (rdL_two h1 h2) (by simp) (by rw [e, ← hz, List.length_append]; omega)).mono ?_
  rintro e' w' ⟨u, rfl, hs⟩
  rw [e] at hs
  obtain ⟨a, c, rfl⟩ := own_shape (show OwnInts 0 w' u z from hs.hd)
  exact ⟨a, c, rfl, hs⟩
theorem Sep.tlN {w : World} {l : List Asrt} : ∀ (A : List Asrt), Sep w (A ++ l) → Sep w l
  | [], h => h
  | _ :: A, h => Sep.tlN A h.tl
theorem Sep.cutA {w : World} {X A r : List Asrt} (h : Sep w (X ++ (A ++ r))) : Sep w (X ++ r) := Sep.tlN A (Sep.blk (A := X) (B := A) h)
theorem pairs_len {e o : Ed} (hi : e.i.length = o.i.length) (ho : e.o.length = o.o.length) : (pairsOf e o).length = (e.i ++ e.o).length ∧ (o.i ++ o.o).length = (e.i ++ e.o).length := by
  unfold pairsOf
  rw [List.length_zip]
  simp only [List.length_append]
  omega
theorem zip_at {l m : List Int} {t : Nat} (h : t < (l.zip m).length) : (l.zip m)[t] = (l.getD t 0, m.getD t 0) := by
  have h2 := h
  rw [List.length_zip] at h2
  rw [List.getElem_zip, List.getD_eq_getElem?_getD, List.getD_eq_getElem?_getD, List.getElem?_eq_getElem (by omega), List.getElem?_eq_getElem (by omega)]
  rfl
theorem pairs_at {e o : Ed} (hi : e.i.length = o.i.length) (ho : e.o.length = o.o.length) {t : Nat} (ht : t < (e.i ++ e.o).length) : (pairsOf e o).take (t + 1) = (pairsOf e o).take t ++ [((e.i ++ e.o).getD t 0, (o.i ++ o.o).getD t 0)] ∧ ((e.i ++ e.o).getD t 0, (o.i ++ o.o).getD t 0) ∈ pairsOf e o := by
  have hl := pairs_len hi ho
  have h1 : t < (pairsOf e o).length := by omega
  have e1 : (pairsOf e o)[t] = ((e.i ++ e.o).getD t 0, (o.i ++ o.o).getD t 0) := zip_at h1
  exact ⟨by rw [List.take_succ_eq_append_getElem h1, e1], by rw [← e1]; exact List.getElem_mem h1⟩
theorem back_step {W Wt W2 N : List Int} {v u : Nat} {b : Int} (hb : Back W Wt N) (hw : v < Wt.length) (hr : ∀ x ∈ Wt, x = -1 ∨ (0 ≤ x ∧ x < b)) (h : setL Wt v (u : Int) = some W2) : Back W W2 (if 0 ≤ Wt.getD v 0 then N else N ++ [(v : Int)]) := by
  unfold setL at h
  by_cases h0 : 0 ≤ Wt.getD v 0
  · rw [if_pos h0] at h ⊢
    split at h
    · simp at h; rw [← h]; exact hb
    · simp at h
  · rw [if_neg h0] at h ⊢
    split at h
    · simp at h
    · simp at h
      rw [← h]
      refine hb.set hw ?_ (by omega)
      rcases hr _ (getD_mem' (zs := Wt) hw) with h | h
      · exact h
      · exact absurd h.1 h0
theorem note_len {N : List Int} {t : Nat} {c : Prop} [Decidable c] {v : Int} (h : N.length ≤ t) : (if c then N else N ++ [v]).length ≤ t + 1 := by
  split
  · omega
  · rw [List.length_append, List.length_singleton]; omega
theorem wrap_step {t m : Nat} (h : t < m) (hm : m ≤ 1000) : wrap64 ((t : Int) + 1) = ((t + 1 : Nat) : Int) := by
  rw [wrap64_id (by omega) (by omega)]; omega
theorem ghost_step {t g m : Nat} (h : t + (g + 1) = m) : t + 1 + g = m := by omega
/-- What the search by edges hands back. -/
def EdgeR (g p : Gr) (W Es : List Int) (i most : Nat) (xs : List XM) (S : List Int → Value → List XM → List Asrt) (e : Ending) (w' : World) : Prop :=
  ∃ Es' outv' xs', e = .returned (.bool (decide (xs'.length < most))) ∧ mts xs' = (mts xs ++ extL g p ⟨W, pre Es i⟩).take most ∧ (Es'.length = Es.length ∧ Es'.take i = Es.take i) ∧ Sep w' (S Es' outv' xs')
set_option maxHeartbeats 4000000 in
theorem edge_end (g p : Gr) (hfine : Fine g p) (hgb : g.n ≤ 1000) (hpn : p.n ≤ 1000) (hpe : p.es.length ≤ 1000) (hge : g.es.length ≤ 1000) (gea pea : Option Addr) (gec pec : Nat) (gi go pi po : Value) (kb wb cw tb ct eb ce ob mb most : Nat) (hm : most ≤ 1000) (w0 : World) (hrg : RdE edgeE w0 (.slice gea g.es.length gec) g.es) (hrp : RdE edgeE w0 (.slice pea p.es.length pec) p.es) (hle : ∀ e ∈ g.es, e.i.length ≤ 2 ∧ e.o.length ≤ 2) (hlp : ∀ e ∈ p.es, e.i.length ≤ 2 ∧ e.o.length ≤ 2)
    (W Es : List Int) (outv : Value) (xs : List XM) (w : World) (l : List Asrt) (hP : Prt g p W Es p.es.length) (hx : xs.length < most) (hs : Sep w (Srch g.n (.slice gea g.es.length gec) gi go p.n (.slice pea p.es.length pec) pi po kb wb cw tb ct p.n.toNat g.n.toNat (.slice (some ⟨eb, 0, none⟩) p.es.length ce) (FV ob mb) W (OI (.slice (some ⟨eb, 0, none⟩) p.es.length ce) Es :: Fnd ob mb most outv xs (KeepA w0 :: l)))) :
    Calls Try.prog 68 #[.pointer (some ⟨kb, 0, none⟩), .int .i64 p.es.length] w (EdgeR g p W Es p.es.length most xs (fun Es outv xs => Srch g.n (.slice gea g.es.length gec) gi go p.n (.slice pea p.es.length pec) pi po kb wb cw tb ct p.n.toNat g.n.toNat (.slice (some ⟨eb, 0, none⟩) p.es.length ce) (FV ob mb) W (OI (.slice (some ⟨eb, 0, none⟩) p.es.length ce) Es :: Fnd ob mb most outv xs (KeepA w0 :: l)))) := by
  have HR := Lib.hid fun W' (h : Sep W' (Srch g.n (.slice gea g.es.length gec) gi go p.n (.slice pea p.es.length pec) pi po kb wb cw tb ct p.n.toNat g.n.toNat (.slice (some ⟨eb, 0, none⟩) p.es.length ce) (FV ob mb) W (OI (.slice (some ⟨eb, 0, none⟩) p.es.length ce) Es :: Fnd ob mb most outv xs (KeepA w0 :: l)))) => rest_any g p hfine hgb hpn hpe (.slice gea g.es.length gec) gi go (.slice pea p.es.length pec) pi po kb wb cw tb ct eb ce ob mb most hm Es (negs W) W outv xs W' (KeepA w0 :: l) (Nat.le_refl _) hP hx h
  obtain ⟨_, _, _, k5, _, _, _, _⟩ := bq12 (show w.heap[kb]? = some (.cells (KC g.n (.slice gea g.es.length gec) gi go p.n (.slice pea p.es.length pec) pi po (.slice (some ⟨wb, 0, none⟩) p.n.toNat cw) (.slice (some ⟨eb, 0, none⟩) p.es.length ce) (.slice (some ⟨tb, 0, none⟩) g.n.toNat ct) (FV ob mb)) 92 (0, 0)) from hs.tl.tl.hd)
  have HE := Lib.hid (show pre Es p.es.length = Es from by rw [← hP.le]; exact pre_all Es)
  have HC := Lib.hid (HR.out w hs)
  have heq : ((p.es.length : Int) == (p.es.length : Int)) = true := by simp
  unfold FoundR at HC
  clear HR hs hx hP hfine hgb hpn hpe hge hrg hrp hle hlp hm
  go_enter Try.func68, Try.ntmps68
  go_wp2
  go_step3
  go_wp2_with (
    go_at_call 89
    with_reducible refine HC.out.mono ?_
    rintro e w2 ⟨outv2, xs2, rfl, hm2, hs2⟩
    have HS2 := Lib.hid hs2; have HM2 := Lib.hid hm2
    clear hs2 hm2)
  try rw [Exit.noGoto_ret]
  go_ret
  exact ⟨Es, outv2, xs2, rfl, by rw [HE.out]; exact HM2.out, ⟨rfl, rfl⟩, HS2.out⟩
set_option maxHeartbeats 16000000 in
theorem edge_any (g p : Gr) (hfine : Fine g p) (hgb : g.n ≤ 1000) (hpn : p.n ≤ 1000) (hpe : p.es.length ≤ 1000) (hge : g.es.length ≤ 1000) (gea pea : Option Addr) (gec pec : Nat) (gi go pi po : Value) (kb wb cw tb ct eb ce ob mb most : Nat) (hm : most ≤ 1000) (w0 : World) (hrg : RdE edgeE w0 (.slice gea g.es.length gec) g.es) (hrp : RdE edgeE w0 (.slice pea p.es.length pec) p.es) (hle : ∀ e ∈ g.es, e.i.length ≤ 2 ∧ e.o.length ≤ 2) (hlp : ∀ e ∈ p.es, e.i.length ≤ 2 ∧ e.o.length ≤ 2) :
    ∀ (d i : Nat) (W Es : List Int) (outv : Value) (xs : List XM) (w : World) (l : List Asrt), p.es.length ≤ i + d → Prt g p W Es i → xs.length < most → Sep w (Srch g.n (.slice gea g.es.length gec) gi go p.n (.slice pea p.es.length pec) pi po kb wb cw tb ct p.n.toNat g.n.toNat (.slice (some ⟨eb, 0, none⟩) p.es.length ce) (FV ob mb) W (OI (.slice (some ⟨eb, 0, none⟩) p.es.length ce) Es :: Fnd ob mb most outv xs (KeepA w0 :: l))) →
    Calls Try.prog 68 #[.pointer (some ⟨kb, 0, none⟩), .int .i64 i] w (EdgeR g p W Es i most xs (fun Es outv xs => Srch g.n (.slice gea g.es.length gec) gi go p.n (.slice pea p.es.length pec) pi po kb wb cw tb ct p.n.toNat g.n.toNat (.slice (some ⟨eb, 0, none⟩) p.es.length ce) (FV ob mb) W (OI (.slice (some ⟨eb, 0, none⟩) p.es.length ce) Es :: Fnd ob mb most outv xs (KeepA w0 :: l)))) := by
  intro d
  induction d with
  | zero =>
    intro i W Es outv xs w l hd hP hx hs
    have hik : i = p.es.length := by have := hP.il; omega
    subst hik
    exact edge_end g p hfine hgb hpn hpe hge gea pea gec pec gi go pi po kb wb cw tb ct eb ce ob mb most hm w0 hrg hrp hle hlp W Es outv xs w l hP hx hs
  | succ d ih =>
    intro i W Es outv xs w l hd hP hx hs
    by_cases hik : i = p.es.length
    · subst hik
      exact edge_end g p hfine hgb hpn hpe hge gea pea gec pec gi go pi po kb wb cw tb ct eb ce ob mb most hm w0 hrg hrp hle hlp W Es outv xs w l hP hx hs
    · have hip : i < p.es.length := by have := hP.il; omega
      have hWl := hP.lw
      have hEl := hP.le
      have hK0 : w0.grownBy w none := hs.tl.tl.tl.tl.tl.tl.tl.tl.hd
      have hgE : ∀ j, j < i → 0 ≤ (pre Es i).getD j (-1) := fun j hj => by rw [pre_get (by omega), if_pos hj]; exact (hP.re j hj).1
      -- the edge of the pattern
      obtain ⟨pb, po1, iv, ov, hpea, hpat⟩ := hrp.atK rfl rfl hip
      have hi0 := (hpat w hK0).2.1
      have ho0 := (hpat w hK0).2.2
      obtain ⟨ia, ic, hiv⟩ := hi0.shape
      obtain ⟨oa, oc, hov⟩ := ho0.shape
      subst hpea hiv hov
      have hlpi := hlp (p.es.getD i e0) (by rw [List.getD_eq_getElem?_getD, List.getElem?_eq_getElem hip]; exact List.getElem_mem hip)
      obtain ⟨eI, heI⟩ : ∃ eI, eI = p.es.getD i e0 := ⟨_, rfl⟩
      rw [← heI] at hpat hlpi hi0 ho0
      obtain ⟨x0, x1, x2, x3⟩ := (hpat w hK0).1
      have k5 := (bq12 (show w.heap[kb]? = some (.cells (KC g.n (.slice gea g.es.length gec) gi go p.n (.slice (some ⟨pb, po1, none⟩) p.es.length pec) pi po (.slice (some ⟨wb, 0, none⟩) p.n.toNat cw) (.slice (some ⟨eb, 0, none⟩) p.es.length ce) (.slice (some ⟨tb, 0, none⟩) g.n.toNat ct) (FV ob mb)) 92 (0, 0)) from hs.tl.tl.hd)).2.2.2.1
      have HKW := Lib.hid fun W' U r (h : Sep W' (Srch g.n (.slice gea g.es.length gec) gi go p.n (.slice (some ⟨pb, po1, none⟩) p.es.length pec) pi po kb wb cw tb ct p.n.toNat g.n.toNat (.slice (some ⟨eb, 0, none⟩) p.es.length ce) (FV ob mb) U r)) => show W'.cell? ⟨kb, 1, none⟩ = some (.slice gea g.es.length gec) ∧ W'.cell? ⟨kb, 9, none⟩ = some (.slice (some ⟨eb, 0, none⟩) p.es.length ce) from by
        have := bq12 (show W'.heap[kb]? = some (.cells (KC g.n (.slice gea g.es.length gec) gi go p.n (.slice (some ⟨pb, po1, none⟩) p.es.length pec) pi po (.slice (some ⟨wb, 0, none⟩) p.n.toNat cw) (.slice (some ⟨eb, 0, none⟩) p.es.length ce) (.slice (some ⟨tb, 0, none⟩) g.n.toNat ct) (FV ob mb)) 92 (0, 0)) from h.tl.tl.hd)
        exact ⟨this.2.1, this.2.2.2.2.2.1⟩
      have k1 := (HKW.out _ _ _ hs).1
      have hcut0 := cutE_zero (g := g) (p := p) (P := ⟨W, pre Es i⟩) hip
      have hcutA := cutE_all (g := g) (p := p) (P := ⟨W, pre Es i⟩) hip
      have HC0 := Lib.hid hcut0; have HCA := Lib.hid hcutA
      have HNONE := Lib.hid fun (f : Nat) (h : ∀ M, IsMt g p M → Ext ⟨W, pre Es i⟩ M → M.E.getD i 0 ≠ (f : Int)) => cutE_none (g := g) (p := p) (P := ⟨W, pre Es i⟩) (f := (f : Int)) hip hgE h
      have HSOME := Lib.hid fun (f : Nat) (P' : Mt) (h : ∀ M, IsMt g p M → ((Ext ⟨W, pre Es i⟩ M ∧ M.E.getD i 0 = (f : Int)) ↔ Ext P' M)) => cutE_some (g := g) (p := p) (P := ⟨W, pre Es i⟩) (P' := P') (f := (f : Int)) hip hgE h
      have HPRE := Lib.hid fun f : Int => pre_filter (ext_sorted_E (g := g) (p := p) (P := ⟨W, pre Es i⟩) hip hgE) f
      have HP := Lib.hid hP; have HFN := Lib.hid hfine; have HIP := Lib.hid hip
      have HIH := Lib.hid fun (W2 Es2 : List Int) outv xs w' l' (hp : Prt g p W2 Es2 (i + 1)) (hx : xs.length < most) (h : Sep w' (Srch g.n (.slice gea g.es.length gec) gi go p.n (.slice (some ⟨pb, po1, none⟩) p.es.length pec) pi po kb wb cw tb ct p.n.toNat g.n.toNat (.slice (some ⟨eb, 0, none⟩) p.es.length ce) (FV ob mb) W2 (OI (.slice (some ⟨eb, 0, none⟩) p.es.length ce) Es2 :: Fnd ob mb most outv xs (KeepA w0 :: l')))) => ih (i + 1) W2 Es2 outv xs w' l' (by omega) hp hx h
      have HS := Lib.hid (hs.box #[.int .i64 eI.k, .int .i64 eI.v, .slice ia eI.i.length ic, .slice oa eI.o.length oc] 69)
      have HX := Lib.hid hx
      have HPA := Lib.hid hpat
      have HRG := Lib.hid hrg
      have HEI := Lib.hid heI
      have HLP := Lib.hid hlpi; have HLE := Lib.hid hle; have HGE := Lib.hid hge
      have hipi : (i : Int) < (p.es.length : Int) := by omega
      have hnik : ((i : Int) == (p.es.length : Int)) = false := by simp; omega
      clear hs hx hP hK0 hgE hpat hi0 ho0 hlpi heI hcut0 hcutA hrg hrp hle hlp hik ih hd hfine
      have k1b := (HKW.out _ _ _ HS.out.tl).1
      go_enter Try.func68, Try.ntmps68
      go_wp2
      go_step3
      go_wp2
      go_step3
      go_wp2
      clear k1 k1b k5 x0 x1 x2 x3
      have HW8 := Lib.hid (show Sep _ _ from HS.out)
      go_loopg [6, 7, 8, 9, 10, 11, 12, 37] g.es.length (fun gk _ _ _ _ _ _ _ c wr => ∃ (f : Nat) (outv' : Value) (xs' : List XM) (Es' : List Int), f + gk = g.es.length ∧ c = .int .i64 f ∧ xs'.length < most ∧ mts xs' = mts xs ++ cutE g p ⟨W, pre Es i⟩ i (f : Int) ∧ (Es'.length = Es.length ∧ Es'.take i = Es.take i) ∧ Sep wr (BxA w.heap.size #[.int .i64 eI.k, .int .i64 eI.v, .slice ia eI.i.length ic, .slice oa eI.o.length oc] 69 :: Srch g.n (.slice gea g.es.length gec) gi go p.n (.slice (some ⟨pb, po1, none⟩) p.es.length pec) pi po kb wb cw tb ct p.n.toNat g.n.toNat (.slice (some ⟨eb, 0, none⟩) p.es.length ce) (FV ob mb) W (OI (.slice (some ⟨eb, 0, none⟩) p.es.length ce) Es' :: Fnd ob mb most outv' xs' (KeepA w0 :: l))))
      case atStart => exact ⟨0, outv, xs, Es, by omega, rfl, HX.out, by rw [show ((0 : Nat) : Int) = 0 from rfl, HC0.out, List.append_nil], ⟨rfl, rfl⟩, HS.out⟩
      case round =>
        obtain ⟨f, outv1, xs1, Es1, hfg, rfl, hx1, hmt, hes, hsr⟩ := hrel
        have HX1 := Lib.hid hx1; have HMT := Lib.hid hmt; have HSR := Lib.hid hsr; have HES := Lib.hid hes
        clear hx1 hmt hes HS HW8
        by_cases hlt : f < g.es.length
        · have hK : w0.grownBy wr none := hsr.tl.tl.tl.tl.tl.tl.tl.tl.tl.hd
          obtain ⟨gb, go1, iv2, ov2, hgea, hgat⟩ := HRG.out.atK rfl rfl hlt
          have hi2 := (hgat wr hK).2.1
          have ho2 := (hgat wr hK).2.2
          obtain ⟨ia2, ic2, hiv2⟩ := hi2.shape
          obtain ⟨oa2, oc2, hov2⟩ := ho2.shape
          subst hgea hiv2 hov2
          have hlgf := HLE.out (g.es.getD f e0) (by rw [List.getD_eq_getElem?_getD, List.getElem?_eq_getElem hlt]; exact List.getElem_mem hlt)
          obtain ⟨oF, hoF⟩ : ∃ oF, oF = g.es.getD f e0 := ⟨_, rfl⟩
          rw [← hoF] at hgat hlgf hi2 ho2
          obtain ⟨y0, y1, y2, y3⟩ := (hgat wr hK).1
          have HGA := Lib.hid hgat; have HOF := Lib.hid hoF; have HLG := Lib.hid hlgf
          have hs7 := (Sep.s2 (hsr.box #[.int .i64 oF.k, .int .i64 oF.v, .slice ia2 oF.i.length ic2, .slice oa2 oF.o.length oc2] 69))
          have HS7 := Lib.hid hs7
          obtain ⟨k1, k9⟩ := HKW.out _ _ _ hsr.tl
          obtain ⟨m1, m9⟩ := HKW.out _ _ _ hs7.tl.tl
          obtain ⟨e0', e1, e2, e3, _⟩ := bq4 hs7.hd
          obtain ⟨o0, o1, o2, o3, _⟩ := bq4 hs7.tl.hd
          have hce : (i : Int) ≤ (ce : Int) := by
            have := own_roomy (show OwnInts 0 _ (.slice (some ⟨eb, 0, none⟩) p.es.length ce) Es1 from hs7.tl.tl.tl.tl.tl.hd)
            have := HIP.out
            omega
          have hco := contains_any (.slice (some ⟨eb, 0, none⟩) i ce) (Es1.take i) (f : Int) _ (ints_pre (OwnInts.read (show OwnInts 0 _ (.slice (some ⟨eb, 0, none⟩) p.es.length ce) Es1 from hs7.tl.tl.tl.tl.tl.hd)) (k := i) (by have := HES.out.1; have := HIP.out; omega)) (by rw [List.length_take]; omega)
          rw [HES.out.2] at hco
          have hfi : (f : Int) < (g.es.length : Int) := by omega
          obtain ⟨gn2, hgn2⟩ : ∃ gn2, gk = gn2 + 1 := ⟨gk - 1, by omega⟩
          subst hgn2
          have HNXT := Lib.hid (show (f + 1) + gn2 = g.es.length by omega)
          have HFL := Lib.hid hlt
          have hgl := HGE.out
          clear hsr hs7 hK hgat hoF hlgf hi2 ho2
          -- is the edge out of question?
          have hbad : ∀ h : ¬ ((f : Int) ∉ Es.take i ∧ eI.k = oF.k ∧ eI.v = oF.v), cutE g p ⟨W, pre Es i⟩ i ((f : Int) + 1) = cutE g p ⟨W, pre Es i⟩ i (f : Int) := fun h => HNONE.out f fun M hM hX he => by
            obtain ⟨h1, h2, h3, _⟩ := HP.out.tells HFN.out HIP.out HFL.out hM hX he
            rw [← HEI.out, ← HOF.out] at h2 h3
            refine h ⟨fun hm => ?_, h2, h3⟩
            obtain ⟨j, hj, hv⟩ := mem_gd.1 hm
            rw [List.length_take] at hj
            refine h1 j (by omega) ?_
            rw [List.getD_eq_getElem?_getD, List.getElem?_take, if_pos (by omega)] at hv
            rw [List.getD_eq_getElem?_getD]
            exact hv
          have HBAD := Lib.hid hbad
          clear hbad
          by_cases hin : (f : Int) ∈ Es.take i
          · have HNX := Lib.hid (HBAD.out fun h => h.1 hin)
            rw [decide_eq_true hin] at hco
            have HCO := Lib.hid hco
            clear hin hco
            go_wp2_with (
              go_at_call 73
              with_reducible refine HCO.out.mono ?_
              rintro e w3 ⟨rfl, hg⟩
              have hs8 := HS7.out.grown hg
              obtain ⟨b0, b1, b2, b3, _⟩ := bq4 hs8.hd
              obtain ⟨c0, c1, c2, c3, _⟩ := bq4 hs8.tl.hd
              have HS8 := Lib.hid hs8
              clear hg hs8 e0' e1 e2 e3 o0 o1 o2 o3)
            go_roundg gn2
            case measure => omega
            case rel => exact ⟨f + 1, outv1, xs1, Es1, HNXT.out, by go_num, HX1.out, by rw [show ((f + 1 : Nat) : Int) = (f : Int) + 1 by omega, HNX.out]; exact HMT.out, HES.out, HS8.out.drop2⟩
          · rw [decide_eq_false hin] at hco
            have HCO := Lib.hid hco
            have HIN := Lib.hid hin
            clear hin hco
            by_cases hk : eI.k = oF.k
            · by_cases hv : eI.v = oF.v
              · have t1 : (eI.k != oF.k) = false := by simpa using hk
                have t2 : (eI.v != oF.v) = false := by simpa using hv
                have hkk := HFN.out.kk i f HIP.out HFL.out (by rw [← HEI.out, ← HOF.out]; exact hk)
                have hpk := pairs_ok HFN.out HIP.out HFL.out
                rw [← HEI.out, ← HOF.out] at hkk hpk
                obtain ⟨wi, hwi⟩ : ∃ wi, eI.i ++ eI.o = wi := ⟨_, rfl⟩
                obtain ⟨ims, him⟩ : ∃ ims, oF.i ++ oF.o = ims := ⟨_, rfl⟩
                have hpl := pairs_len hkk.1 hkk.2
                rw [hwi, him] at hpl
                have hpt := fun t (ht : t < (eI.i ++ eI.o).length) => pairs_at hkk.1 hkk.2 ht
                rw [hwi, him] at hpt
                have hl4 : wi.length ≤ 4 := by rw [← hwi, List.length_append]; have := HLP.out; omega
                have HPL := Lib.hid hpl; have HPT := Lib.hid hpt
                have HWI := Lib.hid hwi; have HIM := Lib.hid him
                have HPK := Lib.hid hpk
                have HK := Lib.hid hk; have HV := Lib.hid hv
                have HL4 := Lib.hid hl4
                clear hk hv hkk hpk hl4 hwi him hpl hpt
                go_wp2_with (first
                  | (go_at_call 73
                     with_reducible refine HCO.out.mono ?_
                     rintro e w3 ⟨rfl, hg⟩
                     have hs9 := ((HS7.out.grown hg).emptyI).box #[.slice (some ⟨w3.heap.size, 0, none⟩) 0 0] 23
                     have e9 : (w3.alloc (.cells #[] 3)).heap.size = w3.heap.size + 1 := by simp
                     rw [e9] at hs9
                     have hs8 := HS7.out.grown hg
                     obtain ⟨b0, b1, b2, b3, _⟩ := bq4 hs8.hd
                     obtain ⟨c0, c1', c2', c3, _⟩ := bq4 hs8.tl.hd
                     obtain ⟨d0, d1, d2, d3, _⟩ := bq4 hs9.tl.tl.tl.hd
                     have hk9 : w0.grownBy _ none := hs9.tl.tl.tl.tl.tl.tl.tl.tl.tl.tl.tl.tl.hd
                     have HJ9 := Lib.hid (joined_two _ _ oF.i oF.o ims HIM.out _ (w3.heap.size + 1 + 1) (by simp) (HGA.out _ hk9).2.1 (HGA.out _ hk9).2.2 (by have := HLG.out; omega) (by have := HLG.out; omega))
                     have HS9 := Lib.hid hs9
                     clear hg hs8 hs9 hk9 e9 e0' e1 e2 e3 o0 o1 o2 o3)
                  | (go_at_call 90
                     with_reducible refine HJ9.out.mono ?_
                     rintro e w4 ⟨a1, c1, rfl, hsg⟩
                     have hs10 := (HS9.out.al _).graft1 hsg OI_own
                     obtain ⟨f0, f1, f2, f3, _⟩ := bq4 hs10.tl.tl.tl.hd
                     have hk10 : w0.grownBy _ none := hs10.tl.tl.tl.tl.tl.tl.tl.tl.tl.tl.tl.tl.tl.hd
                     have HJ10 := Lib.hid (joined_two _ _ eI.i eI.o wi HWI.out _ w4.heap.size rfl (HPA.out _ hk10).2.1 (HPA.out _ hk10).2.2 (by have := HLP.out; omega) (by have := HLP.out; omega))
                     have HS10 := Lib.hid hs10
                     clear hsg hs10 hk10)
                  | (go_at_call 90
                     with_reducible refine HJ10.out.mono ?_
                     rintro e w5 ⟨a2, c2, rfl, hsg⟩
                     have hs11 := (HS10.out.al _).graft1 hsg OI_own
                     have HS11 := Lib.hid (Sep.blk (A := [_, _, _, _, _, _]) (B := [_, _, _]) (Sep.blk (A := [_, _]) (B := [_, _]) hs11))
                     clear hsg hs11))
                clear HJ9 HJ10 HS9 HS10 HCO
                obtain ⟨wo, hwo⟩ : ∃ wo, wo = wr.heap.size := ⟨_, rfl⟩
                have hq := HS11.out
                rw [← hwo] at hq ⊢
                have HS12 := Lib.hid hq
                clear HS11 hq hwo HS7 y0 y1 y2 y3 b0 b1 b2 b3 c0 c1' c2' c3 d0 d1 d2 d3 f0 f1 f2 f3
                go_loopg [10, 11, 84] wi.length (fun gj _ _ c wr => ∃ (t : Nat) (N : List Int) (nv : Value) (Wt : List Int), t + gj = wi.length ∧ c = .int .i64 t ∧ setsL W ((pairsOf eI oF).take t) = some Wt ∧ Back W Wt N ∧ N.length ≤ t ∧ Sep wr (Srch g.n (.slice (some ⟨gb, go1, none⟩) g.es.length gec) gi go p.n (.slice (some ⟨pb, po1, none⟩) p.es.length pec) pi po kb wb cw tb ct p.n.toNat g.n.toNat (.slice (some ⟨eb, 0, none⟩) p.es.length ce) (FV ob mb) Wt (BxA (w3.heap.size + 1) #[nv] 23 :: OI nv N :: (OI (.slice a2 wi.length c2) wi :: OI (.slice a1 ims.length c1) ims :: BxA w.heap.size #[.int .i64 eI.k, .int .i64 eI.v, .slice ia eI.i.length ic, .slice oa eI.o.length oc] 69 :: BxA wo #[.int .i64 oF.k, .int .i64 oF.v, .slice ia2 oF.i.length ic2, .slice oa2 oF.o.length oc2] 69 :: OI (.slice (some ⟨eb, 0, none⟩) p.es.length ce) Es1 :: Fnd ob mb most outv1 xs1 (KeepA w0 :: l)))))
                case atStart => exact ⟨0, [], _, W, by omega, rfl, rfl, Back.start W, by simp, HS12.out⟩
                case round =>
                  obtain ⟨t, N, nv, Wt, htg, rfl, hst, hbk, hnl, hst2⟩ := hrel
                  have HST := Lib.hid hst; have HBK := Lib.hid hbk; have HNL := Lib.hid hnl; have HSI := Lib.hid hst2
                  clear hst hbk hnl hst2
                  have hWt : Wt.length = p.n.toNat := by rw [HBK.out.len]; exact HP.out.lw
                  have hfa := setsL_facts (n := g.n) (ps := (pairsOf eI oF).take t) (by rw [HP.out.lw]; exact fun x hx => HPK.out x (List.mem_of_mem_take hx)) HST.out HP.out.inj HP.out.rw
                  have HFA := Lib.hid hfa
                  have HWT := Lib.hid hWt
                  have HUN := Lib.hid fun w' r (h : Sep w' (Srch g.n (.slice (some ⟨gb, go1, none⟩) g.es.length gec) gi go p.n (.slice (some ⟨pb, po1, none⟩) p.es.length pec) pi po kb wb cw tb ct p.n.toNat g.n.toNat (.slice (some ⟨eb, 0, none⟩) p.es.length ce) (FV ob mb) Wt (OI nv N :: r))) =>
                    show Calls Try.prog 92 #[.pointer (some ⟨kb, 0, none⟩), nv] w' fun e w2 => e = .returned (.tuple #[]) ∧ Sep w2 (Srch g.n (.slice (some ⟨gb, go1, none⟩) g.es.length gec) gi go p.n (.slice (some ⟨pb, po1, none⟩) p.es.length pec) pi po kb wb cw tb ct p.n.toNat g.n.toNat (.slice (some ⟨eb, 0, none⟩) p.es.length ce) (FV ob mb) W (OI nv N :: r)) from by
                      have := undo_any g.n _ gi go p.n _ pi po kb wb cw tb ct p.n.toNat g.n.toNat _ (FV ob mb) Wt nv N w' r HWT.out HFA.out.1 HBK.out.nd (fun x hx => by
                        have h1 := HBK.out.at_ x hx
                        have h2 := HP.out.lw
                        refine ⟨by omega, h1.2.2, ?_⟩
                        have h3 := HFA.out.2.1 _ (getD_mem' (zs := Wt) (k := x.toNat) (by rw [HWT.out]; omega))
                        omega) (by have := HNL.out; have := HL4.out; omega) h
                      rw [HBK.out.uns] at this
                      exact this
                  clear hfa hWt
                  by_cases htl : t < wi.length
                  · have hpt := HPT.out t htl
                    have hpo := HPK.out _ hpt.2
                    simp only at hpo
                    obtain ⟨v, hv⟩ := Int.eq_ofNat_of_zero_le hpo.1.1
                    obtain ⟨u, hu⟩ := Int.eq_ofNat_of_zero_le hpo.2.1
                    rw [hv, hu] at hpt hpo
                    have hvn : v < p.n.toNat := by omega
                    have hun : u < g.n.toNat := by omega
                    have htl2 : t < ims.length := by rw [HPL.out.2]; exact htl
                    obtain ⟨b1, o1, ha2, _, hc1⟩ := (OwnInts.read (show OwnInts 0 wr (.slice a2 wi.length c2) wi from HSI.out.tl.tl.tl.tl.tl.hd)).atD (i := t) htl
                    obtain ⟨b2, o2, ha1, _, hc2⟩ := (OwnInts.read (show OwnInts 0 wr (.slice a1 ims.length c1) ims from HSI.out.tl.tl.tl.tl.tl.tl.hd)).atD (i := t) htl2
                    rw [hv] at hc1
                    rw [hu] at hc2
                    have hti : (t : Int) < (wi.length : Int) := by omega
                    have hti2 : (t : Int) < (ims.length : Int) := Int.ofNat_lt.2 htl2
                    have HPT2 := Lib.hid hpt
                    have hse := set_any g.n _ gi go p.n _ pi po kb wb cw tb ct p.n.toNat g.n.toNat _ (FV ob mb) Wt (w3.heap.size + 1) nv N v u wr _ HWT.out hvn hun (by have := HNL.out; have := HL4.out; omega) HSI.out
                    have hse2 : setsL W ((pairsOf eI oF).take (t + 1)) = setL Wt v (u : Int) := by
                      rw [hpt.1, setsL_snoc, HST.out]
                      simp only [Int.toNat_natCast]
                    have HVN := Lib.hid hvn
                    subst ha2 ha1
                    clear hpt hpo hv hu hun htl2 hvn
                    have HSE2 := Lib.hid hse2
                    clear hse2
                    cases hsl : setL Wt v (u : Int) with
                    | none =>
                      have HSL := Lib.hid hsl
                      have HNX := Lib.hid (HNONE.out f fun M hM hX he => by
                        obtain ⟨_, _, _, W', h4, _⟩ := HP.out.tells HFN.out HIP.out HFL.out hM hX he
                        rw [← HEI.out, ← HOF.out, setsL_none (t := t + 1) (by rw [HSE2.out, HSL.out])] at h4
                        cases h4)
                      have hset : Calls Try.prog 91 #[.pointer (some ⟨kb, 0, none⟩), .int .i64 v, .int .i64 u, .pointer (some ⟨w3.heap.size + 1, 0, none⟩)] wr (fun e w' => e = .returned (.bool false) ∧ Sep w' (Srch g.n (.slice (some ⟨gb, go1, none⟩) g.es.length gec) gi go p.n (.slice (some ⟨pb, po1, none⟩) p.es.length pec) pi po kb wb cw tb ct p.n.toNat g.n.toNat (.slice (some ⟨eb, 0, none⟩) p.es.length ce) (FV ob mb) Wt (BxA (w3.heap.size + 1) #[nv] 23 :: OI nv N :: (OI (.slice (some ⟨b1, o1, none⟩) wi.length c2) wi :: OI (.slice (some ⟨b2, o2, none⟩) ims.length c1) ims :: BxA w.heap.size #[.int .i64 eI.k, .int .i64 eI.v, .slice ia eI.i.length ic, .slice oa eI.o.length oc] 69 :: BxA wo #[.int .i64 oF.k, .int .i64 oF.v, .slice ia2 oF.i.length ic2, .slice oa2 oF.o.length oc2] 69 :: OI (.slice (some ⟨eb, 0, none⟩) p.es.length ce) Es1 :: Fnd ob mb most outv1 xs1 (KeepA w0 :: l))))) := by
                        refine hse.mono ?_
                        rintro e w6 (⟨rfl, _, h6⟩ | ⟨W2, nv2, _, h2, _⟩)
                        · exact ⟨rfl, h6⟩
                        · rw [hsl] at h2; cases h2
                      have HSET := Lib.hid hset
                      clear hse hsl hset
                      go_wp2_with (first
                        | (go_at_call 91
                           with_reducible refine HSET.out.mono ?_
                           rintro e w6 ⟨rfl, hs6⟩
                           obtain ⟨nb0, _⟩ := bq1 hs6.tl.tl.tl.hd
                           have HU := Lib.hid (HUN.out w6 _ (Sep.blk3 (X := [_, _, _]) (A := [_]) (B := [_]) hs6))
                           clear hs6)
                        | (go_at_call 92
                           with_reducible refine HU.out.mono ?_
                           rintro e w7 ⟨rfl, hs7⟩
                           have HS7 := Lib.hid (Sep.cutA (X := [_, _, _, _]) (A := [_]) (Sep.blk (A := [_, _, _]) (B := [_]) (Sep.cutA (X := [_, _, _]) (A := [_, _, _, _]) hs7)))
                           clear hs7))
                      go_roundg gn2
                      case measure => omega
                      case rel => exact ⟨f + 1, outv1, xs1, Es1, HNXT.out, by go_num, HX1.out, by rw [show ((f + 1 : Nat) : Int) = (f : Int) + 1 by omega, HNX.out]; exact HMT.out, HES.out, HS7.out⟩
                    | some W2 =>
                      have HSL := Lib.hid hsl
                      have hset : Calls Try.prog 91 #[.pointer (some ⟨kb, 0, none⟩), .int .i64 v, .int .i64 u, .pointer (some ⟨w3.heap.size + 1, 0, none⟩)] wr (fun e w' => e = .returned (.bool true) ∧ ∃ nv2, Sep w' (Srch g.n (.slice (some ⟨gb, go1, none⟩) g.es.length gec) gi go p.n (.slice (some ⟨pb, po1, none⟩) p.es.length pec) pi po kb wb cw tb ct p.n.toNat g.n.toNat (.slice (some ⟨eb, 0, none⟩) p.es.length ce) (FV ob mb) W2 (BxA (w3.heap.size + 1) #[nv2] 23 :: OI nv2 (if 0 ≤ Wt.getD v 0 then N else N ++ [(v : Int)]) :: (OI (.slice (some ⟨b1, o1, none⟩) wi.length c2) wi :: OI (.slice (some ⟨b2, o2, none⟩) ims.length c1) ims :: BxA w.heap.size #[.int .i64 eI.k, .int .i64 eI.v, .slice ia eI.i.length ic, .slice oa eI.o.length oc] 69 :: BxA wo #[.int .i64 oF.k, .int .i64 oF.v, .slice ia2 oF.i.length ic2, .slice oa2 oF.o.length oc2] 69 :: OI (.slice (some ⟨eb, 0, none⟩) p.es.length ce) Es1 :: Fnd ob mb most outv1 xs1 (KeepA w0 :: l))))) := by
                        refine hse.mono ?_
                        rintro e w6 (⟨_, h2, _⟩ | ⟨W3, nv2, rfl, h2, h6⟩)
                        · rw [hsl] at h2; cases h2
                        · rw [hsl] at h2
                          obtain rfl := Option.some.inj h2
                          exact ⟨rfl, nv2, h6⟩
                      have HSET := Lib.hid hset
                      clear hse hsl hset
                      obtain ⟨gj2, hgj2⟩ : ∃ gj2, gk = gj2 + 1 := ⟨gk - 1, by omega⟩
                      subst hgj2
                      have HTG := Lib.hid htg; have HTL := Lib.hid htl
                      go_wp2_with (
                        go_at_call 91
                        with_reducible refine HSET.out.mono ?_
                        rintro e w6 ⟨rfl, nv2, hs6⟩
                        have HS6 := Lib.hid hs6
                        clear hs6)
                      go_roundg gj2
                      case measure => omega
                      case rel =>
                        exact ⟨t + 1, _, nv2, W2, ghost_step HTG.out, congrArg (Value.int .i64) (wrap_step HTL.out (Nat.le_trans HL4.out (by decide))), by rw [HSE2.out, HSL.out], back_step HBK.out (by rw [HWT.out]; exact HVN.out) HFA.out.2.1 HSL.out, note_len HNL.out, HS6.out⟩
                  · have htm : t = wi.length := by omega
                    have hstA := HST.out
                    rw [htm, List.take_of_length_le (by rw [HPL.out.1]; exact Nat.le_refl _)] at hstA
                    have hPE := HP.out.swap HES.out.1 HES.out.2
                    have hnE : ∀ j, j < i → Es1.getD j 0 ≠ (f : Int) := fun j hj he => HIN.out (by
                      rw [← HES.out.2]
                      refine mem_gd.2 ⟨j, by rw [List.length_take, HES.out.1, HP.out.le]; have := HIP.out; omega, ?_⟩
                      rw [List.getD_eq_getElem?_getD, List.getElem?_take, if_pos hj, ← List.getD_eq_getElem?_getD]
                      exact he)
                    have hed := hPE.edge HFN.out HIP.out HFL.out hnE (by rw [← HEI.out, ← HOF.out]; exact HK.out) (by rw [← HEI.out, ← HOF.out]; exact HV.out) (by rw [← HEI.out, ← HOF.out]; exact hstA)
                    rw [pre_take HES.out.1 HES.out.2] at hed
                    have HNX := Lib.hid (HSOME.out f _ hed.2)
                    have hsi := Sep.blk (A := [_, _, _, _, _, _, _, _, _]) (B := [_]) HSI.out
                    have hel : p.es.length = Es1.length := by rw [HES.out.1, HP.out.le]
                    have q0 := own_at (show OwnInts 0 wr (.slice (some ⟨eb, 0, none⟩) p.es.length ce) Es1 from hsi.hd) hel HIP.out
                    have q1 := (show OwnInts 0 wr (.slice (some ⟨eb, 0, none⟩) p.es.length ce) Es1 from hsi.hd).free hel i
                    have q9 := (HKW.out _ _ _ HSI.out).2
                    have hs9 := Sep.blk3 (X := [_, _, _, _]) (A := [_, _, _, _, _, _]) (B := [_, _, _, _, _]) (Sep.blk (A := [_]) (B := [_, _, _]) (hsi.setI hel i (f : Int)))
                    have hcr := HIH.out Wt (Es1.set i (f : Int)) outv1 xs1 _ _ hed.1 HX1.out hs9
                    unfold EdgeR at hcr
                    have HCR := Lib.hid hcr
                    obtain ⟨i2, hi2⟩ : ∃ i2, i2 = i + 1 := ⟨_, rfl⟩
                    have hw1 : IntKind.i64.wrap ((i : Int) + 1) = (i2 : Int) := by rw [wrap_id (by omega) (by have := HIP.out; omega)]; omega
                    have hw2 : wrap64 ((i : Int) + 1) = (i2 : Int) := by rw [wrap64_id (by omega) (by have := HIP.out; omega)]; omega
                    rw [← hi2] at HCR
                    have HI2 := Lib.hid hi2
                    have hel2 := Lib.hid hel
                    clear hcr hsi hs9 hPE hnE hed hstA htm hi2 hel
                    generalize Es1.getD i 0 = old at q0
                    go_wp2_with fail
                    go_at_call 68
                    with_reducible refine HCR.out.mono ?_
                    rintro e w6 ⟨Es2, outv2, xs2, rfl, hm2, he2, hs6⟩
                    have hs7 := Sep.blk3 (X := [_, _, _, _]) (A := [_, _, _, _, _]) (B := [_, _, _, _, _, _]) hs6
                    obtain ⟨nb0, _⟩ := bq1 hs7.tl.tl.tl.tl.hd
                    have HU := Lib.hid (HUN.out w6 _ (Sep.blk3 (X := [_, _, _]) (A := [_, _]) (B := [_]) hs7))
                    have HM2 := Lib.hid hm2
                    have HE2 := Lib.hid (show Es2.length = Es.length ∧ Es2.take i = Es.take i from by
                      have e1 := he2.2
                      rw [HI2.out] at e1
                      have e2 := congrArg (fun l => l.take i) e1
                      simp only [List.take_take, Nat.min_eq_left (Nat.le_succ i)] at e2
                      refine ⟨by rw [he2.1, List.length_set]; exact HES.out.1, ?_⟩
                      rw [e2, List.take_set_of_le (Nat.le_refl i)]
                      exact HES.out.2)
                    clear hs6 hs7 hm2 he2 HCR HUN q0 q1 q9
                    by_cases hfu : xs2.length < most
                    · have HFU := Lib.hid hfu
                      rw [decide_eq_true hfu]
                      clear hfu
                      go_wp2_with (
                        go_at_call 92
                        with_reducible refine HU.out.mono ?_
                        rintro e w7 ⟨rfl, hs7⟩
                        have HS7 := Lib.hid (Sep.blk (A := [_, _, _, _]) (B := [_]) (Sep.cutA (X := [_, _, _, _, _]) (A := [_]) (Sep.cutA (X := [_, _, _, _]) (A := [_, _, _]) (Sep.cutA (X := [_, _, _]) (A := [_]) hs7))))
                        clear hs7)
                      go_roundg gn2
                      case measure => omega
                      case rel =>
                        refine ⟨f + 1, outv2, xs2, Es2, HNXT.out, by go_num, HFU.out, ?_, HE2.out, HS7.out⟩
                        have h0 := HM2.out
                        rw [HI2.out] at h0
                        rw [not_full (by rw [← h0, mts_len]; exact HFU.out)] at h0
                        rw [h0, HMT.out, show ((f + 1 : Nat) : Int) = (f : Int) + 1 by omega, HNX.out, List.append_assoc]
                    · have HFU := Lib.hid hfu
                      rw [decide_eq_false hfu]
                      clear hfu
                      go_wp2_with (
                        go_at_call 92
                        with_reducible refine HU.out.mono ?_
                        rintro e w7 ⟨rfl, hs7⟩
                        have HS7 := Lib.hid (Sep.blk (A := [_, _, _, _]) (B := [_]) (Sep.cutA (X := [_, _, _, _, _]) (A := [_]) (Sep.cutA (X := [_, _, _, _]) (A := [_, _, _]) (Sep.cutA (X := [_, _, _]) (A := [_]) hs7))))
                        clear hs7)
                      try rw [Exit.noGoto_ret]
                      go_ret
                      refine ⟨Es2, outv2, xs2, by rw [decide_eq_false HFU.out]; rfl, ?_, HE2.out, HS7.out.tl⟩
                      have h0 := HM2.out
                      rw [HI2.out] at h0
                      obtain ⟨R, hR⟩ := HPRE.out ((f : Int) + 1)
                      have hR' : extL g p ⟨W, pre Es i⟩ = cutE g p ⟨W, pre Es i⟩ i ((f : Int) + 1) ++ R := hR
                      rw [HMT.out, List.append_assoc, ← HNX.out] at h0
                      rw [hR', h0, full_stop (by rw [← h0, mts_len]; exact HFU.out)]
              · have HNX := Lib.hid (HBAD.out fun h => hv h.2.2)
                have t1 : (eI.k != oF.k) = false := by simpa using hk
                have t2 : (eI.v != oF.v) = true := by simpa using hv
                clear hk hv
                go_wp2_with (
                  go_at_call 73
                  with_reducible refine HCO.out.mono ?_
                  rintro e w3 ⟨rfl, hg⟩
                  have hs8 := HS7.out.grown hg
                  obtain ⟨b0, b1, b2, b3, _⟩ := bq4 hs8.hd
                  obtain ⟨c0, c1, c2, c3, _⟩ := bq4 hs8.tl.hd
                  have HS8 := Lib.hid hs8
                  clear hg hs8 e0' e1 e2 e3 o0 o1 o2 o3)
                go_roundg gn2
                case measure => omega
                case rel => exact ⟨f + 1, outv1, xs1, Es1, HNXT.out, by go_num, HX1.out, by rw [show ((f + 1 : Nat) : Int) = (f : Int) + 1 by omega, HNX.out]; exact HMT.out, HES.out, HS8.out.drop2⟩
            · have HNX := Lib.hid (HBAD.out fun h => hk h.2.1)
              have t1 : (eI.k != oF.k) = true := by simpa using hk
              clear hk
              go_wp2_with (
                go_at_call 73
                with_reducible refine HCO.out.mono ?_
                rintro e w3 ⟨rfl, hg⟩
                have hs8 := HS7.out.grown hg
                obtain ⟨b0, b1, b2, b3, _⟩ := bq4 hs8.hd
                obtain ⟨c0, c1, c2, c3, _⟩ := bq4 hs8.tl.hd
                have HS8 := Lib.hid hs8
                clear hg hs8 e0' e1 e2 e3 o0 o1 o2 o3)
              go_roundg gn2
              case measure => omega
              case rel => exact ⟨f + 1, outv1, xs1, Es1, HNXT.out, by go_num, HX1.out, by rw [show ((f + 1 : Nat) : Int) = (f : Int) + 1 by omega, HNX.out]; exact HMT.out, HES.out, HS8.out.drop2⟩
        · have hfn : f = g.es.length := by omega
          subst hfn
          have hfin : mts xs1 = (mts xs ++ extL g p ⟨W, pre Es i⟩).take most := by
            have h0 := HMT.out
            rw [HCA.out] at h0
            rw [← h0, List.take_of_length_le (by rw [mts_len]; exact Nat.le_of_lt HX1.out)]
          have hbo : decide (xs1.length < most) = true := decide_eq_true HX1.out
          have HF := Lib.hid hfin; have HBO := Lib.hid hbo
          clear hfin hbo hsr
          go_wp2
          try rw [Exit.noGoto_ret]
          go_ret
          exact ⟨Es1, outv1, xs1, by rw [HBO.out]; rfl, HF.out, HES.out, HSR.out.tl⟩
end Go.Proofs.Ytlpgjnjhhgjkmaa

/-
  Is a list a permutation; does each number occur once. Conditions: lengths are small.
-/
namespace Go.Proofs.Ytlpgjnjhhgjkmaa
open Go.RowKit
set_option linter.unusedVariables false
set_option maxRecDepth 100000

theorem take_mem_split {zs : List Int} {k : Nat} (hk : k < zs.length) : zs.take (k + 1) = zs.take k ++ [zs.getD k 0] := by
  rw [List.take_succ_eq_append_getElem hk, List.getD_eq_getElem?_getD, List.getElem?_eq_getElem hk]; rfl
theorem perm_bad_rng {zs : List Int} {m k : Nat} (hk : k < zs.length) (h : ¬ (0 ≤ zs.getD k 0 ∧ zs.getD k 0 ≤ (m : Int) - 1)) : permB zs m = false := by
  unfold permB
  have : rngB m zs = false := by
    cases hr : rngB m zs
    · rfl
    · have := rngB_iff.1 hr _ (getD_mem (d := 0) hk)
      omega
  rw [this]
  simp
theorem perm_bad_dup {zs : List Int} {m k : Nat} (hk : k < zs.length) (h : zs.getD k 0 ∈ zs.take k) : permB zs m = false := by
  unfold permB
  have : ¬ zs.Nodup := by
    intro hd
    have h2 : (zs.take (k + 1)).Nodup := List.Nodup.sublist (List.take_sublist _ _) hd
    rw [take_mem_split hk] at h2
    have := (List.nodup_append.1 h2).2.2
    exact this _ h _ (by simp) rfl
  rw [decide_eq_false this]
  simp
theorem perm_good {zs : List Int} {m : Nat} (hl : zs.length = m) (hr : ∀ x ∈ zs, 0 ≤ x ∧ x < (m : Int)) (hd : zs.Nodup) : permB zs m = true := by
  unfold permB
  rw [decide_eq_true (by omega : ((zs.length : Int) = m)), rngB_iff.2 hr, decide_eq_true hd]
  rfl
theorem perm_step {zs : List Int} {m k : Nat} (hk : k < zs.length) (h : ¬ zs.getD k 0 ∈ zs.take k) (hd : (zs.take k).Nodup) : (zs.take (k + 1)).Nodup := by
  rw [take_mem_split hk, List.nodup_append]
  refine ⟨hd, by simp, fun a ha b hb e => ?_⟩
  have hb' : b = zs.getD k 0 := List.mem_singleton.1 hb
  exact h (by rw [← hb', ← e]; exact ha)
set_option maxHeartbeats 2000000 in
theorem isPermutation_any (v : Value) (zs : List Int) (m : Nat) (w : World) (hv : IntsV w v zs) (hm : m ≤ 1000000) (hl : zs.length ≤ 1000000) :
    Calls Try.prog 102 #[v, .int .i64 m] w fun e w' => e = .returned (.bool (permB zs m)) ∧ w.grownBy w' none := by
  obtain ⟨i0, hi, hz0, hz1, hz2⟩ := info_parts info_bool
  have HBI := Lib.hid hi; have HZ0 := Lib.hid hz0; have HZ1 := Lib.hid hz1; have HZ2 := Lib.hid hz2
  have HV := Lib.hid hv
  obtain ⟨a, c, rfl⟩ := hv.shape
  clear hi hz0 hz1 hz2 hv
  generalize hn : zs.length = n at *
  have HN := Lib.hid hn
  clear hn
  by_cases hne : n = m
  · subst hne
    have hn1 : ((n : Int) != (n : Int)) = false := by simp
    have hwr : IntKind.i64.wrap ((n : Int) - 1) = (n : Int) - 1 := by rw [IntKind.wrap_i64]; omega
    go_enter Try.func102, Try.ntmps102
    go_wp2_with (
      at_make
      refine wpList_make_full _ rfl _ _ 76 rfl w.heap.size 4 i0 _ 1 Try.underlying76 HBI.out HZ0.out HZ1.out _ _ _ _ n rfl rfl rfl rfl (by rw [HZ2.out]; omega) (by unfold maxLen; omega) (Nat.le_refl _) ?_
      intro w1 hown' hgr'
      have hs1 := (Sep.start w).newR hgr' (OwnR.made (E := boolE) falseCells hown')
      rw [← seen_nil] at hs1
      have HS1 := Lib.hid hs1
      clear hs1 hown' hgr')
    go_loopw [7, 16] (fun _ i wr => ∃ k : Nat, k ≤ n ∧ i = .int .i64 k ∧ (zs.take k).Nodup ∧ (∀ x ∈ zs.take k, 0 ≤ x ∧ x < (n : Int)) ∧ Sep wr [OR boolE (.slice (some ⟨w.heap.size, 0, none⟩) n n) (seenL n (zs.take k)), KeepA w]) (fun _ i _ => n - (intOf i).toNat)
    case atStart => exact ⟨0, by omega, rfl, by simp, by simp, by simpa using HS1.out⟩
    case round =>
      obtain ⟨k, hk, rfl, hd, hr, hs⟩ := hrel
      have HSX := Lib.hid hs; have HD := Lib.hid hd; have HR := Lib.hid hr
      clear hs hd hr HS1
      by_cases hlt : k < n
      · have hkx : k < zs.length := by rw [HN.out]; exact hlt
        obtain ⟨b, o, rfl⟩ := IntsV.addr HV.out (by omega)
        have hc0 := (HV.out.carry HSX.out.tl.hd).cellN hkx
        have HTK := Lib.hid (take_mem_split hkx)
        have HBR := Lib.hid (@perm_bad_rng zs n k hkx)
        have HBD := Lib.hid (@perm_bad_dup zs n k hkx)
        have HST := Lib.hid (fun h => @perm_step zs n k hkx h HD.out)
        generalize zs.getD k 0 = x at *
        have HW := Lib.hid fun W => within_any x 0 ((n : Int) - 1) W
        by_cases hin : 0 ≤ x ∧ x ≤ (n : Int) - 1
        · rw [decide_eq_true hin] at HW
          obtain ⟨j, rfl⟩ := Int.eq_ofNat_of_zero_le hin.1
          have hjm : j < n := by omega
          have hsc := bool_cell HSX.out.hd (seen_len n _).symm hjm
          have hsf := bool_free HSX.out.hd (seen_len n _).symm j
          rw [seen_at hjm] at hsc
          by_cases hold : (j : Int) ∈ zs.take k
          · rw [decide_eq_true hold] at hsc
            have HF := Lib.hid (HBD.out hold)
            have HK := Lib.hid (show w.grownBy wr none from HSX.out.tl.hd)
            clear hold hin hkx
            go_wp2_with (go_at_call 35; with_reducible refine (HW.out _).mono ?_; rintro e w3 ⟨rfl, rfl⟩)
            go_ret
            exact ⟨by rw [HF.out]; try rfl, HK.out⟩
          · rw [decide_eq_false hold] at hsc
            have hsn := seen_new hjm hold
            have h1 := HSX.out.setBo (seen_len n _).symm hjm true
            rw [← hsn.1, ← HTK.out] at h1
            have HF := Lib.hid h1
            have HD2 := Lib.hid (HST.out hold)
            have HR2 := Lib.hid (show ∀ x ∈ zs.take (k + 1), 0 ≤ x ∧ x < (n : Int) from by
              intro x hx
              rw [HTK.out] at hx
              rcases List.mem_append.1 hx with hx | hx
              · exact HR.out x hx
              · simp at hx
                omega)
            clear hold hin hkx hsn h1
            go_wp2_with (go_at_call 35; with_reducible refine (HW.out _).mono ?_; rintro e w3 ⟨rfl, rfl⟩)
            go_roundw
            case rel => exact ⟨k + 1, by omega, by go_num, HD2.out, HR2.out, HF.out⟩
            case measure => simp [intOf]; omega
        · rw [decide_eq_false hin] at HW
          have HF := Lib.hid (HBR.out hin)
          have HK := Lib.hid (show w.grownBy wr none from HSX.out.tl.hd)
          clear hin hkx
          go_wp2_with (go_at_call 35; with_reducible refine (HW.out _).mono ?_; rintro e w3 ⟨rfl, rfl⟩)
          go_ret
          exact ⟨by rw [HF.out]; try rfl, HK.out⟩
      · have hkn : k = n := by omega
        subst hkn
        have hd := HD.out
        have hr := HR.out
        rw [List.take_of_length_le (by rw [HN.out]; exact Nat.le_refl _)] at hd hr
        have HF := Lib.hid (perm_good HN.out hr hd)
        have HK := Lib.hid (show w.grownBy wr none from HSX.out.tl.hd)
        clear hlt hd hr
        go_wp2
        go_ret
        exact ⟨by rw [HF.out]; try rfl, HK.out⟩
  · have hn1 : ((n : Int) != (m : Int)) = true := by simp; omega
    have HF := Lib.hid (show permB zs m = false by unfold permB; rw [HN.out, decide_eq_false (by omega)]; simp)
    clear hne
    go_enter Try.func102, Try.ntmps102
    go_wp2
    go_ret
    exact ⟨by rw [HF.out]; try rfl, grownBy_refl _ _⟩
theorem occursOnce_any (v : Value) (xs : List RX) (m : Nat) (w : World) (hv : RdL w v xs) (hm : m ≤ 1000000) (hl : xs.length ≤ 1000000) (hj : (joinL xs).length ≤ 1000000) :
    Calls Try.prog 88 #[.int .i64 m, v] w fun e w' => e = .returned (.bool (permB (joinL xs) m)) ∧ w.grownBy w' none := by
  have HA := Lib.hid (joined_any v xs w hv hl hj)
  have HB := Lib.hid fun u W (h : IntsV W u (joinL xs)) => isPermutation_any u (joinL xs) m W h hm hj
  obtain ⟨a, c, rfl⟩ := hv.1.shape
  clear hv
  generalize permB (joinL xs) m = b at *
  go_enter Try.func88, Try.ntmps88
  go_wp2_with (first
    | (go_at_call 90
       with_reducible refine HA.out.mono ?_
       rintro e w2 ⟨u, rfl, hs⟩
       have HC := Lib.hid (HB.out u w2 (OwnInts.read (show OwnInts 0 w2 u _ from hs.hd)))
       have HK := Lib.hid (show w.grownBy w2 none from hs.tl.hd)
       clear hs)
    | (go_at_call 102
       with_reducible refine HC.out.mono ?_
       rintro e w3 ⟨rfl, hg⟩
       have HK2 := Lib.hid (grownBy_trans HK.out hg)
       clear hg))
  go_ret
  exact ⟨rfl, HK2.out⟩
end Go.Proofs.Ytlpgjnjhhgjkmaa

/-
  Is a graph monogamous, in the program. Conditions: lengths are small.
-/
namespace Go.Proofs.Ytlpgjnjhhgjkmaa
open Go.RowKit
set_option linter.unusedVariables false
set_option maxRecDepth 100000

theorem row_own {w : World} {l : List Asrt} (h : Sep w l) (a : Option Addr) (n c : Nat) (is : List Int) (b : Nat) (hb : b = w.heap.size) :
    Sep (w.alloc (.cells #[.slice a n c] 23)) (OR rowE (.slice (some ⟨b, 0, none⟩) 1 1) [⟨.slice a n c, is⟩] :: l) := by
  subst hb
  refine h.newR (grownBy_alloc w _ none) ?_
  refine ⟨rfl, Or.inr ⟨w.heap.size, 1, #[.slice a n c], rfl, Nat.le_refl _, ?_, Nat.le_refl _, ?_, rfl, rfl⟩⟩
  · exact alloc_heap_new _ _
  · decide
section
variable {α : Type} {E : Lay α} {ops : Array Oper} {rest : List Oper} {o : Oper} {a : Act} {Q : Exit → Act → World → Prop} {w : World} {v : Value} {xs : List α} {l : List Asrt} {y : α} {t : TypeId} {z : Value} {bytes b : Nat}
theorem app_RB (hinfo : (Try.prog.info? E.ty).map (fun i => (i.zero, i.size, i.bytes)) = some (some z, E.sz, bytes)) (hzs : z.cells.size = E.sz) (hby : bytes ≤ 10000) (ht : Try.prog.underlying t = some (.slice E.ty)) (hone : ∀ u ∈ E.cs y, u.oneCell' = true)
    (hgd : o.guard = none) (s x : Operand) (ho : o.op = .call { callee := .builtin .append, args := #[s, x], argTypes := #[t, t] })
    (hs : a.eval s = v) (hx : a.eval x = .slice (some ⟨b, 0, none⟩) 1 1) (hb : b = w.heap.size) {cs : Array Value} (hcs : cs.toList = E.cs y) (H : Sep w (OR E v xs :: l)) (hl : xs.length ≤ 10000000)
    (h : ∀ g cap w', Sep w' (OR E (.slice (some ⟨g, 0, none⟩) (xs.length + 1) cap) (xs ++ [y]) :: l) → wpList Try.prog ops Q rest (a.put o.dst (.slice (some ⟨g, 0, none⟩) (xs.length + 1) cap)) w') :
    wpList Try.prog ops Q (o :: rest) a (w.alloc (.cells cs E.ty)) := by
  subst hb
  exact app_R hinfo hzs hby ht hone hgd s x ho hs hx hcs H hl h
end
theorem joinL_snoc (xs : List RX) (x : RX) : joinL (xs ++ [x]) = joinL xs ++ x.zs := by unfold joinL; rw [List.flatMap_append]; simp
theorem RdL.of {w : World} {v : Value} {xs : List RX} (h : (OR rowE v xs).holds w) (hi : ∀ x ∈ xs, IntsV w x.v x.zs) : RdL w v xs := ⟨OwnR.read (show OwnR rowE 0 w v xs from h), hi⟩
theorem grB_n {g : Gr} (h : grB g = true) : ∃ m : Nat, g.n = m ∧ m ≤ 100 ∧ g.es.length ≤ 60 ∧ g.i.length ≤ 12 ∧ g.o.length ≤ 12 ∧ rngB g.n (wiresL g) = true ∧ (∀ e ∈ g.es, e.i.length ≤ 2 ∧ e.o.length ≤ 2) ∧ g.es.all edB = true := by
  have h0 := h
  rw [grB_spec] at h
  simp only [Bool.and_eq_true, decide_eq_true_iff] at h
  obtain ⟨h1, h2, h3, h4, h5, h6, h7, h8⟩ := h
  rw [inB_iff] at h1
  obtain ⟨m, hm⟩ := Int.eq_ofNat_of_zero_le h1.1
  refine ⟨m, hm, by omega, h2, h3, h4, ?_, edge_small h7, ?_⟩
  · unfold grB at h0
    simp only [Bool.and_eq_true] at h0
    exact h0.1.2
  · unfold grB at h0
    simp only [Bool.and_eq_true] at h0
    exact h0.1.1.2
set_option maxHeartbeats 4000000 in
theorem isMonogamous_any (ev iv ov : Value) (g : Gr) (w : World) (he : RdE edgeE w ev g.es) (hi : IntsV w iv g.i) (ho : IntsV w ov g.o) (l0 : g.es.length ≤ 2000000) (l1 : g.i.length ≤ 2000000) (l2 : g.o.length ≤ 2000000) :
    Calls Try.prog 64 #[grV g.n ev iv ov] w fun e w' => e = .returned (.bool (grB g && monB g)) ∧ w.grownBy w' none := by
  have HIG := Lib.hid fun W (h : w.grownBy W none) => isGraph_any ev iv ov g W (he.carry h) (hi.carry h) (ho.carry h) l0 l1 l2
  have HE := Lib.hid he; have HI := Lib.hid hi; have HO := Lib.hid ho
  unfold grV at *
  obtain ⟨ea, ec, rfl⟩ := he.shape
  obtain ⟨ia, ic, rfl⟩ := hi.shape
  obtain ⟨oa, oc, rfl⟩ := ho.shape
  clear he hi ho l0 l1 l2
  have HS0 := Lib.hid ((Sep.start w).box #[.int .i64 g.n, .slice ea g.es.length ec, .slice ia g.i.length ic, .slice oa g.o.length oc] 29)
  have HK0 := Lib.hid (show w.grownBy _ none from HS0.out.tl.hd)
  cases hb : grB g
  · rw [hb] at HIG
    rw [Bool.false_and]
    clear hb
    generalize g.es.length = m0 at *
    generalize g.i.length = m1 at *
    generalize g.o.length = m2 at *
    generalize g.n = n at *
    go_enter Try.func64, Try.ntmps64
    go_wp2_with (
      go_at_call 34
      with_reducible refine (HIG.out _ HK0.out).mono ?_
      rintro e w2 ⟨rfl, hg⟩
      have HK2 := Lib.hid (grownBy_trans HK0.out hg)
      clear hg)
    go_ret
    exact ⟨rfl, HK2.out⟩
  · rw [hb] at HIG
    rw [Bool.true_and]
    obtain ⟨m, hm, hm1, hg1, hg2, hg3, hg4, hg5, _⟩ := grB_n hb
    clear hb
    obtain ⟨gn, es, is, os⟩ := g
    rw [show monB ⟨gn, es, is, os⟩ = (permB (is ++ outE es) gn && permB (os ++ inE es) gn) from rfl]
    simp only at *
    subst hm
    have HLE := Lib.hid hg5
    have HES := Lib.hid hg1
    have hlo : ∀ k, (outE (es.take k)).length ≤ 120 := by
      intro k
      have h1 := outE_le es k
      have h2 := flat_small (fun e => e.o) es (fun e he => (hg5 e he).2)
      unfold outE at h1 ⊢
      omega
    have hli : ∀ k, (inE (es.take k)).length ≤ 120 := by
      intro k
      have h1 := inE_le es k
      have h2 := flat_small (fun e => e.i) es (fun e he => (hg5 e he).1)
      unfold inE at h1 ⊢
      omega
    have HLO := Lib.hid hlo; have HLI := Lib.hid hli
    have HMM := Lib.hid (show m ≤ 1000000 by omega)
    have HIS := Lib.hid hg2; have HOS := Lib.hid hg3
    generalize hes : es.length = m0 at *
    have HM0 := Lib.hid hes
    clear hg4 hg5 hlo hli hm1 hes
    generalize hil : is.length = m1 at *
    generalize hol : os.length = m2 at *
    have HIL := Lib.hid hil; have HOL := Lib.hid hol
    clear hil hol
    go_enter Try.func64, Try.ntmps64
    go_upto_region 3 with (
      go_at_call 34
      with_reducible refine (HIG.out _ HK0.out).mono ?_
      rintro e w2 ⟨rfl, hg⟩
      have hs2 := HS0.out.grown hg
      obtain ⟨x0, x1, x2, x3, _⟩ := bq4 hs2.hd
      have HS2 := Lib.hid hs2
      clear hg hs2)
    go_cut [3, 4] from 10 to 15 (fun xv yv wx => ∃ (b1 b2 : Nat), xv = .slice (some ⟨b1, 0, none⟩) 1 1 ∧ yv = .slice (some ⟨b2, 0, none⟩) 1 1 ∧ Sep wx [OR rowE (.slice (some ⟨b1, 0, none⟩) 1 1) [⟨.slice ia m1 ic, is⟩], OR rowE (.slice (some ⟨b2, 0, none⟩) 1 1) [⟨.slice oa m2 oc, os⟩], BxA w.heap.size #[.int .i64 m, .slice ea m0 ec, .slice ia m1 ic, .slice oa m2 oc] 29, KeepA w])
    case first =>
      have y2 := fun o => (bq4 (HS2.out.al o).hd).2.2.1
      have y3 := fun o => (bq4 (HS2.out.al o).hd).2.2.2.1
      have HA := Lib.hid (row_own (row_own HS2.out ia m1 ic is w2.heap.size rfl) oa m2 oc os (w2.heap.size + 1) (by simp)).s2.dr
      have HB := Lib.hid (row_own (row_own HS2.out oa m2 oc os w2.heap.size rfl) ia m1 ic is (w2.heap.size + 1) (by simp)).dr
      go_region
      all_goals
        go_wp2_with fail
        go_meet
      . exact ⟨_, _, rfl, rfl, HA.out⟩
      . exact ⟨_, _, rfl, rfl, HB.out⟩
    case rest =>
      obtain ⟨b1, b2, rfl, rfl, hs⟩ := hcut
      have HS3 := Lib.hid hs
      obtain ⟨x0, x1, x2, x3, _⟩ := bq4 hs.tl.tl.hd
      clear hs HS2 HIG
      go_wp2_with fail
      go_loopw [3, 4, 6, 19] (fun xv yv _ i wr => ∃ (k : Nat) (xs ys : List RX), k ≤ m0 ∧ i = .int .i64 k ∧ xs.length = k + 1 ∧ ys.length = k + 1 ∧ joinL xs = is ++ outE (es.take k) ∧ joinL ys = os ++ inE (es.take k) ∧ (∀ x ∈ xs, IntsV w x.v x.zs) ∧ (∀ x ∈ ys, IntsV w x.v x.zs) ∧
        Sep wr [OR rowE xv xs, OR rowE yv ys, BxA w.heap.size #[.int .i64 m, .slice ea m0 ec, .slice ia m1 ic, .slice oa m2 oc] 29, KeepA w]) (fun _ _ _ i _ => m0 - (intOf i).toNat)
      case atStart => exact ⟨0, [⟨.slice ia m1 ic, is⟩], [⟨.slice oa m2 oc, os⟩], by omega, rfl, rfl, rfl, by simp [joinL, outE], by simp [joinL, inE], by simpa using HI.out, by simpa using HO.out, HS3.out⟩
      case round =>
        obtain ⟨k, xs, ys, hk, rfl, hxl, hyl, hxj, hyj, hxi, hyi, hs⟩ := hrel
        have HSX := Lib.hid hs; have HXL := Lib.hid hxl; have HYL := Lib.hid hyl; have HXJ := Lib.hid hxj; have HYJ := Lib.hid hyj; have HXI := Lib.hid hxi; have HYI := Lib.hid hyi
        obtain ⟨p1, p2, he1⟩ := OwnR.shape (show OwnR rowE 0 wr u3 xs from hs.hd)
        obtain ⟨q1, q2, he2⟩ := OwnR.shape (show OwnR rowE 0 wr u4 ys from hs.tl.hd)
        rw [hxl] at he1
        rw [hyl] at he2
        subst he1 he2
        obtain ⟨x0, x1, x2, x3, _⟩ := bq4 hs.tl.tl.hd
        clear hs HS3 hxl hyl hxj hyj hxi hyi
        by_cases hlt : k < m0
        · have hke : k < es.length := by rw [HM0.out]; exact hlt
          obtain ⟨eb, eo, u1, u2, rfl, hat⟩ := HE.out.atK rfl rfl hke
          obtain ⟨⟨q0, q1', q2', q3⟩, hi, ho⟩ := hat wr HSX.out.tl.tl.tl.hd
          obtain ⟨_, hi0, ho0⟩ := hat w (grownBy_refl _ _)
          have HTO := Lib.hid (outE_take es k hke); have HTI := Lib.hid (inE_take es k hke)
          generalize es.getD k e0 = y at *
          obtain ⟨yk, yv, yi, yo⟩ := y
          simp only at q0 q1' q2' q3 hi ho hi0 ho0
          have HI0 := Lib.hid hi0; have HO0 := Lib.hid ho0
          obtain ⟨s1, r1, rfl⟩ := hi.shape
          obtain ⟨s2, r2, rfl⟩ := ho.shape
          have hb := (HSX.out.box #[.int .i64 yk, .int .i64 yv, .slice s1 yi.length r1, .slice s2 yo.length r2] 69).s2
          have HSB := Lib.hid hb
          clear hi ho hi0 ho0 hat hke hb
          go_wp2_with (first
            | (refine app_RB (E := rowE) (y := ⟨.slice s2 yo.length r2, yo⟩) info_row rfl (by decide) Try.underlying116 (by intro u hu; simp [rowE] at hu; subst hu; rfl) rfl (.tmp 23) (.tmp 26) rfl rfl rfl (by simp) rfl HSB.out (by rw [HXL.out]; omega) ?_
               intro g c w4 h4
               rw [HXL.out] at h4 ⊢
               obtain ⟨z0, z1, z2, z3, _⟩ := bq4 h4.tl.hd
               have HS4 := Lib.hid h4.s3
               clear h4)
            | (refine app_RB (E := rowE) (y := ⟨.slice s1 yi.length r1, yi⟩) info_row rfl (by decide) Try.underlying116 (by intro u hu; simp [rowE] at hu; subst hu; rfl) rfl (.tmp 28) (.tmp 31) rfl rfl rfl rfl rfl HS4.out (by rw [HYL.out]; omega) ?_
               intro g2 c2 w5 h5
               rw [HYL.out] at h5 ⊢
               have HS5 := Lib.hid (h5.s2.under (fun h => h.under Sep.tl (by simp +contextual)) (by simp +contextual))
               clear h5))
          go_roundw
          case rel => exact ⟨k + 1, xs ++ [⟨.slice s2 yo.length r2, yo⟩], ys ++ [⟨.slice s1 yi.length r1, yi⟩], by omega, by go_num, by rw [List.length_append, HXL.out]; rfl, by rw [List.length_append, HYL.out]; rfl, by rw [joinL_snoc, HXJ.out, HTO.out, List.append_assoc], by rw [joinL_snoc, HYJ.out, HTI.out, List.append_assoc], by
              intro x hx
              rcases List.mem_append.1 hx with hx | hx
              · exact HXI.out x hx
              · rw [List.mem_singleton.1 hx]; exact HO0.out, by
              intro x hx
              rcases List.mem_append.1 hx with hx | hx
              · exact HYI.out x hx
              · rw [List.mem_singleton.1 hx]; exact HI0.out, HS5.out⟩
          case measure => simp [intOf]; omega
        · have hkm : k = m0 := by omega
          subst hkm
          have htk : es.take k = es := List.take_of_length_le (by rw [HM0.out]; exact Nat.le_refl _)
          rw [htk] at HXJ HYJ
          have hkp : w.grownBy wr none := HSX.out.tl.tl.tl.hd
          have hjl : (joinL xs).length ≤ 1000000 := by rw [HXJ.out, List.length_append]; have := HLO.out k; rw [htk] at this; have := HIS.out; have := HIL.out; omega
          have hjl2 : (joinL ys).length ≤ 1000000 := by rw [HYJ.out, List.length_append]; have := HLI.out k; rw [htk] at this; have := HOS.out; have := HOL.out; omega
          have HOA := Lib.hid fun W (h : wr.grownBy W none) => occursOnce_any _ xs m W ((RdL.of HSX.out.hd (fun x hx => (HXI.out x hx).carry hkp)).carry h) HMM.out (by rw [HXL.out]; omega) hjl
          have HOB := Lib.hid fun W (h : wr.grownBy W none) => occursOnce_any _ ys m W ((RdL.of HSX.out.tl.hd (fun x hx => (HYI.out x hx).carry hkp)).carry h) HMM.out (by rw [HYL.out]; omega) hjl2
          rw [HXJ.out] at HOA
          rw [HYJ.out] at HOB
          have hKW := Lib.hid hkp
          have HBX := Lib.hid (show Sep wr [BxA w.heap.size #[.int .i64 m, .slice ea k ec, .slice ia m1 ic, .slice oa m2 oc] 29, KeepA w] from HSX.out.tl.tl)
          clear hlt htk hkp hjl hjl2
          cases hb1 : permB (is ++ outE es) m
          · rw [hb1] at HOA
            have HB1 := Lib.hid hb1
            clear hb1
            go_wp2_with (
              go_at_call 88
              with_reducible refine (HOA.out _ (grownBy_refl _ _)).mono ?_
              rintro e w6 ⟨rfl, hg⟩
              have HK6 := Lib.hid (grownBy_trans hKW.out hg)
              clear hg)
            go_ret
            exact ⟨by rw [HB1.out]; rfl, HK6.out⟩
          · rw [hb1] at HOA
            have HB1 := Lib.hid hb1
            clear hb1
            obtain ⟨b2, hb2⟩ : ∃ b, b = permB (os ++ inE es) m := ⟨_, rfl⟩
            rw [← hb2] at HOB
            have HB2 := Lib.hid hb2
            clear hb2
            go_wp2_with (first
              | (go_at_call 88
                 with_reducible refine (HOA.out _ (grownBy_refl _ _)).mono ?_
                 rintro e w6 ⟨rfl, hg⟩
                 have HG6 := Lib.hid hg
                 obtain ⟨z0, z1, z2, z3, _⟩ := bq4 (HBX.out.grown hg).hd
                 have HK6 := Lib.hid (grownBy_trans hKW.out hg)
                 clear hg)
              | (go_at_call 88
                 with_reducible refine (HOB.out _ HG6.out).mono ?_
                 rintro e w7 ⟨rfl, hg⟩
                 have HK7 := Lib.hid (grownBy_trans HK6.out hg)
                 clear hg))
            go_ret
            exact ⟨by rw [HB1.out, ← HB2.out]; rfl, HK7.out⟩
end Go.Proofs.Ytlpgjnjhhgjkmaa

/-
  All matches, or the first ones, in the program. Conditions: both graphs are valid.
-/
namespace Go.Proofs.Ytlpgjnjhhgjkmaa
open Go.RowKit
set_option linter.unusedVariables false
set_option maxRecDepth 100000

theorem rng_at {n : Int} {l : List Int} (h : rngB n l = true) {x : Int} (hx : x ∈ l) : 0 ≤ x ∧ x < n := rngB_iff.1 h x hx
theorem fine_of {g p : Gr} (hg : grB g = true) (hp : grB p = true) : Fine g p := by
  obtain ⟨m, hm, _, _, _, _, hr, _, hb⟩ := grB_n hg
  obtain ⟨m', hm', _, _, _, _, hr', _, hb'⟩ := grB_n hp
  have hw : ∀ {G : Gr}, rngB G.n (wiresL G) = true → ∀ f : Nat, f < G.es.length → ∀ x ∈ (G.es.getD f e0).i ++ (G.es.getD f e0).o, 0 ≤ x ∧ x < G.n := fun {G} h f hf x hx => by
    refine rng_at h ?_
    unfold wiresL wiresE
    refine List.mem_append_right _ (List.mem_append_right _ (List.mem_flatMap.2 ⟨G.es.getD f e0, ?_, hx⟩))
    rw [List.getD_eq_getElem?_getD, List.getElem?_eq_getElem hf]
    exact List.getElem_mem hf
  have hk : ∀ {G : Gr}, G.es.all edB = true → ∀ f : Nat, f < G.es.length → ((G.es.getD f e0).i.length, (G.es.getD f e0).o.length) = edW (G.es.getD f e0).k := fun {G} h f hf => by
    have := List.all_eq_true.1 h (G.es.getD f e0) (by rw [List.getD_eq_getElem?_getD, List.getElem?_eq_getElem hf]; exact List.getElem_mem hf)
    unfold edB at this
    simp only [Bool.and_eq_true, decide_eq_true_iff] at this
    exact this.2
  refine ⟨by omega, by omega, hw hr, hw hr', fun j f hj hf he => ?_⟩
  have h1 := hk hb' j hj
  have h2 := hk hb f hf
  rw [he, ← h2] at h1
  exact Prod.mk.inj h1
theorem prt_start {g p : Gr} : Prt g p (List.replicate p.n.toNat (-1)) (List.replicate p.es.length 0) 0 := by
  have hg : ∀ i, (List.replicate p.n.toNat (-1 : Int)).getD i 0 < 1 := fun i => by
    rw [List.getD_eq_getElem?_getD, List.getElem?_replicate]
    split <;> simp
  have hm : ∀ i, i < p.n.toNat → (List.replicate p.n.toNat (-1 : Int)).getD i 0 = -1 := fun i hi => by
    rw [List.getD_eq_getElem?_getD, List.getElem?_replicate, if_pos hi]; rfl
  refine ⟨by simp, by simp, by omega, fun x hx => Or.inl (List.eq_of_mem_replicate hx), fun a b ha hb h0 _ => ?_, fun j hj => absurd hj (by omega), fun a b ha => absurd ha (by omega), fun j hj => absurd hj (by omega)⟩
  rw [hm a (by simpa using ha)] at h0
  exact absurd h0 (by decide)
theorem ext_start {g p : Gr} : extL g p ⟨List.replicate p.n.toNat (-1), pre (List.replicate p.es.length 0) 0⟩ = allMt g p := by
  unfold extL
  refine List.filter_eq_self.2 fun M _ => tst_iff.2 ⟨fun i hi => ?_, fun i hi => ?_⟩
  · exfalso
    simp only at hi
    rw [List.getD_eq_getElem?_getD, List.getElem?_replicate] at hi
    split at hi <;> exact absurd hi (by decide)
  · exfalso
    simp only at hi
    rw [pre_get (by omega), if_neg (by omega)] at hi
    split at hi <;> exact absurd hi (by decide)
theorem mrk_start (n k : Nat) : mrk n (List.replicate k (-1)) = List.replicate n false := by
  unfold mrk
  refine List.ext_getElem (by simp) fun i h1 h2 => ?_
  rw [List.getElem_map, List.getElem_range, List.getElem_replicate, decide_eq_false_iff_not]
  intro h
  have := List.eq_of_mem_replicate h
  omega
section
variable {P : Program} {ops : Array Oper} {Q : Exit → Act → World → Prop} {md : Region.Mode} {Se Sa : World → Prop} {ap : Nat}
/-- Two operations may come up now: each is carried out. -/
theorem AnyL.two {i j : Nat} {oi oj : Oper} {fuel : Nat} {listed : Array Bool} {a : Act} {w : World} {r r' : List Oper} (hr : Region.ready md ops listed = [i, j]) (hi' : ops.toList.drop i = oi :: r) (hj' : ops.toList.drop j = oj :: r')
    (h1 : ∀ K' : Act → World → Prop, Shut (∀ a' w', Se w' → ((listed.setIfInBounds i true).getD ap true = false → Sa w') → AnyL P md ops Q Se Sa ap fuel (listed.setIfInBounds i true) a' w' → K' a' w') → if Region.wanted oi (yielded ops a.tmps) = true then Oper.wp P oi a w K' Q else K' (a.put oi.dst undef) w)
    (h2 : ∀ K' : Act → World → Prop, Shut (∀ a' w', Se w' → ((listed.setIfInBounds j true).getD ap true = false → Sa w') → AnyL P md ops Q Se Sa ap fuel (listed.setIfInBounds j true) a' w' → K' a' w') → if Region.wanted oj (yielded ops a.tmps) = true then Oper.wp P oj a w K' Q else K' (a.put oj.dst undef) w) :
    AnyL P md ops Q Se Sa ap (fuel + 1) listed a w := by
  refine ⟨fun h0 => (by rw [hr] at h0; cases h0), fun k hk => ?_⟩
  rw [hr] at hk
  simp only [List.mem_cons, List.not_mem_nil, or_false] at hk
  rcases hk with rfl | rfl
  · exact wpOp_step (op_at hi') fun K' hK => h1 K' fun a w h1 h2 h3 => hK a w ⟨⟨h1, h2⟩, h3⟩
  · exact wpOp_step (op_at hj') fun K' hK => h2 K' fun a w h1 h2 h3 => hK a w ⟨⟨h1, h2⟩, h3⟩
end
theorem step_make_bools {ops : Array Oper} {o : Oper} {a : Act} {Q : Exit → Act → World → Prop} {K : Act → World → Prop} {Ex : Prop} {w : World} {L : List Asrt} {lo co : Operand} {n : Nat} (hgd : o.guard = none) (ho : o.op = .makeSlice 76 lo co)
    (hl : a.eval lo = .int .i64 n) (hc : a.eval co = .int .i64 n) (hn : n ≤ 1000000) (H : Sep w L)
    (h : ∀ tb w', Sep w' (OR boolE (.slice (some ⟨tb, 0, none⟩) n n) (List.replicate n false) :: L) → K (a.put o.dst (.slice (some ⟨tb, 0, none⟩) n n)) w') :
    if Region.wanted o (yielded ops a.tmps) = true then Oper.wp Try.prog o a w K Q else Ex := by
  obtain ⟨i0, hi, hz0, hz1, hz2⟩ := info_parts info_bool
  rw [if_pos (by simp [Region.wanted, hgd])]
  obtain ⟨w', hrun, r1, r2⟩ := run_make_full (P := Try.prog) (w := w) w.heap.size 76 4 i0 _ 1 Try.underlying76 hi hz0 hz1 .i64 .i64 n (by rw [hz2]; omega) (by unfold maxLen; omega) (Nat.le_refl _)
  unfold Oper.wp
  simp [execOp, ho, hl, hc, hrun, Result.andThen]
  exact h _ w' (H.newR r2 (OwnR.made (E := boolE) falseCells r1))
theorem fin_of {g p : Gr} {mp most : Nat} (hmp : p.n = (mp : Int)) {outv : Value} {xs : List XM} {w w' : World} (h : mts xs = (mts [] ++ extL g p ⟨List.replicate mp (-1), pre (List.replicate p.es.length 0) 0⟩).take most) (hs : Sep w' [OR matchE outv xs, Bag (rowsM xs), KeepA w]) :
    ∃ v xs, Ending.returned outv = .returned v ∧ mts xs = (allMt g p).take most ∧ Sep w' [OR matchE v xs, Bag (rowsM xs), KeepA w] := by
  have := ext_start (g := g) (p := p)
  rw [hmp, Int.toNat_natCast] at this
  rw [this] at h
  exact ⟨outv, xs, rfl, h, hs⟩
set_option maxHeartbeats 8000000 in
theorem matches_any (g p : Gr) (hg : grB g = true) (hp : grB p = true) (gev giv gov pev piv pov : Value) (most : Nat) (h1 : 1 ≤ most) (h2 : most ≤ 1000) (w : World) (he : RdE edgeE w gev g.es) (hpe : RdE edgeE w pev p.es) :
    Calls Try.prog 45 #[grV g.n gev giv gov, grV p.n pev piv pov, .int .i64 most] w fun e w' => ∃ v xs, e = .returned v ∧ mts xs = (allMt g p).take most ∧ Sep w' [OR matchE v xs, Bag (rowsM xs), KeepA w] := by
  obtain ⟨mg, hmg, hg1, hg2, _, _, _, hgl, _⟩ := grB_n hg
  obtain ⟨mp, hmp, hp1, hp2, _, _, _, hpl, _⟩ := grB_n hp
  have hfine := fine_of hg hp
  obtain ⟨gea, gec, rfl⟩ := he.shape
  obtain ⟨pea, pec, rfl⟩ := hpe.shape
  have HED := Lib.hid fun kb wb cw tb ct eb ce ob mb w' l => edge_any g p hfine (by omega) (by omega) (by omega) (by omega) gea pea gec pec giv gov piv pov kb wb cw tb ct eb ce ob mb most h2 w he hpe hgl hpl p.es.length 0 (List.replicate p.n.toNat (-1)) (List.replicate p.es.length 0) (.slice (some ⟨w.heap.size + 1 + 1 + 1, 0, none⟩) 0 0) [] w' l (by omega) prt_start (show ([] : List XM).length < most from h1)
  have HRP := Lib.hid fun W => repeated_full (-1) mp W (by omega)
  have HZE := Lib.hid fun W => zeros_full p.es.length W (by omega)
  have hs0 := ((((Sep.start w).box #[.int .i64 g.n, .slice gea g.es.length gec, giv, gov] 29).box #[.int .i64 p.n, .slice pea p.es.length pec, piv, pov] 29).box #[.int .i64 most] 3).newR (grownBy_alloc _ (.cells #[] matchE.ty) none) (OwnR.empty matchE (Nat.le_refl _) rfl)
  have hs1 := hs0.box #[.slice (some ⟨w.heap.size + 1 + 1 + 1, 0, none⟩) 0 0] 43
  simp only [show ∀ (W : World) o, (W.alloc o).heap.size = W.heap.size + 1 from fun W o => by simp] at hs1
  have HS := Lib.hid hs1
  unfold grV
  clear hfine he hpe hs0 hs1 hg hp hgl hpl
  have HMP := Lib.hid hmp
  rw [hmg] at HED HS ⊢
  rw [hmp] at HED HS ⊢
  clear hmp hmg
  simp only [Int.toNat_natCast] at HED
  have HBX := Lib.hid fun (W' : World) (L : List Asrt) (h : Sep W' L) (hP : BxA (w.heap.size + 1) #[.int .i64 mp, .slice pea p.es.length pec, piv, pov] 29 ∈ L) (hG : BxA w.heap.size #[.int .i64 mg, .slice gea g.es.length gec, giv, gov] 29 ∈ L) => show W'.cell? ⟨w.heap.size + 1, 0, none⟩ = some (.int .i64 mp) ∧ W'.cell? ⟨w.heap.size + 1, 1, none⟩ = some (.slice pea p.es.length pec) ∧ W'.cell? ⟨w.heap.size + 1, 2, none⟩ = some piv ∧ W'.cell? ⟨w.heap.size + 1, 3, none⟩ = some pov ∧ W'.cell? ⟨w.heap.size, 0, none⟩ = some (.int .i64 mg) ∧ W'.cell? ⟨w.heap.size, 1, none⟩ = some (.slice gea g.es.length gec) ∧ W'.cell? ⟨w.heap.size, 2, none⟩ = some giv ∧ W'.cell? ⟨w.heap.size, 3, none⟩ = some gov from by
    have a := Sep.all h _ hP
    have b := Sep.all h _ hG
    obtain ⟨a0, a1, a2, a3, _⟩ := bq4 (show W'.heap[w.heap.size + 1]? = some (.cells #[.int .i64 mp, .slice pea p.es.length pec, piv, pov] 29 (0, 0)) from a)
    obtain ⟨b0, b1, b2, b3, _⟩ := bq4 (show W'.heap[w.heap.size]? = some (.cells #[.int .i64 mg, .slice gea g.es.length gec, giv, gov] 29 (0, 0)) from b)
    exact ⟨a0, a1, a2, a3, b0, b1, b2, b3⟩
  have hmg1 : mg ≤ 100 := hg1
  go_enter Try.func45, Try.ntmps45
  go_upto_region 2 with fail
  have HSD := Lib.hid HS.out.dr
  have X0 := Lib.hid (HBX.out _ _ HSD.out (by simp) (by simp))
  refine AnyL.start (fun W' => W'.cell? ⟨w.heap.size + 1, 0, none⟩ = some (.int .i64 mp) ∧ W'.cell? ⟨w.heap.size + 1, 1, none⟩ = some (.slice pea p.es.length pec) ∧ W'.cell? ⟨w.heap.size + 1, 2, none⟩ = some piv ∧ W'.cell? ⟨w.heap.size + 1, 3, none⟩ = some pov ∧ W'.cell? ⟨w.heap.size, 0, none⟩ = some (.int .i64 mg) ∧ W'.cell? ⟨w.heap.size, 1, none⟩ = some (.slice gea g.es.length gec) ∧ W'.cell? ⟨w.heap.size, 2, none⟩ = some giv ∧ W'.cell? ⟨w.heap.size, 3, none⟩ = some gov) (fun _ => True) 99 (by kernel_rfl) ?_
  refine AnyL.take (i := 0) (v := ?vx1) (by rfl) (by kernel_rfl) (by kernel_rfl) (by kernel_rfl) rfl (by exact fun _ _ _ h => h) (by rfl) ?hyx1 (by exact ⟨X0.out, fun _ => trivial⟩) ?restx1
  case hyx1 => intro W hSW; (try dsimp only at hSW); first | (go_simp; done) | (go_simp; with_reducible rfl)
  try simp only [Act.put, List.setIfInBounds_toArray, List.set_cons_zero, List.set_cons_succ]
  refine AnyL.take (i := 1) (v := ?vx2) (by rfl) (by kernel_rfl) (by kernel_rfl) (by kernel_rfl) rfl (by exact fun _ _ _ h => h) (by rfl) ?hyx2 (by exact ⟨X0.out, fun _ => trivial⟩) ?restx2
  case hyx2 => intro W hSW; (try dsimp only at hSW); first | (go_simp; done) | (go_simp; with_reducible rfl)
  try simp only [Act.put, List.setIfInBounds_toArray, List.set_cons_zero, List.set_cons_succ]
  refine AnyL.take (i := 2) (v := ?vx3) (by rfl) (by kernel_rfl) (by kernel_rfl) (by kernel_rfl) rfl (by exact fun _ _ _ h => h) (by rfl) ?hyx3 (by exact ⟨X0.out, fun _ => trivial⟩) ?restx3
  case hyx3 => intro W hSW; (try dsimp only at hSW); first | (go_simp; done) | (go_simp; with_reducible rfl)
  try simp only [Act.put, List.setIfInBounds_toArray, List.set_cons_zero, List.set_cons_succ]
  refine AnyL.take (i := 3) (v := ?vx4) (by rfl) (by kernel_rfl) (by kernel_rfl) (by kernel_rfl) rfl (by exact fun _ _ _ h => h) (by rfl) ?hyx4 (by exact ⟨X0.out, fun _ => trivial⟩) ?restx4
  case hyx4 => intro W hSW; (try dsimp only at hSW); first | (go_simp; done) | (go_simp; with_reducible rfl)
  try simp only [Act.put, List.setIfInBounds_toArray, List.set_cons_zero, List.set_cons_succ]
  refine AnyL.take (i := 5) (v := ?vx5) (by rfl) (by kernel_rfl) (by kernel_rfl) (by kernel_rfl) rfl (by exact fun _ _ _ h => h) (by rfl) ?hyx5 (by exact ⟨X0.out, fun _ => trivial⟩) ?restx5
  case hyx5 => intro W hSW; (try dsimp only at hSW); first | (go_simp; done) | (go_simp; with_reducible rfl)
  try simp only [Act.put, List.setIfInBounds_toArray, List.set_cons_zero, List.set_cons_succ]
  refine AnyL.take (i := 6) (v := ?vx6) (by rfl) (by kernel_rfl) (by kernel_rfl) (by kernel_rfl) rfl (by exact fun _ _ _ h => h) (by rfl) ?hyx6 (by exact ⟨X0.out, fun _ => trivial⟩) ?restx6
  case hyx6 => intro W hSW; (try dsimp only at hSW); first | (go_simp; done) | (go_simp; with_reducible rfl)
  try simp only [Act.put, List.setIfInBounds_toArray, List.set_cons_zero, List.set_cons_succ]
  refine AnyL.take (i := 7) (v := ?vx7) (by rfl) (by kernel_rfl) (by kernel_rfl) (by kernel_rfl) rfl (by exact fun _ _ _ h => h) (by rfl) ?hyx7 (by exact ⟨X0.out, fun _ => trivial⟩) ?restx7
  case hyx7 => intro W hSW; (try dsimp only at hSW); first | (go_simp; done) | (go_simp; with_reducible rfl)
  try simp only [Act.put, List.setIfInBounds_toArray, List.set_cons_zero, List.set_cons_succ]
  refine AnyL.take (i := 9) (v := ?vx8) (by rfl) (by kernel_rfl) (by kernel_rfl) (by kernel_rfl) rfl (by exact fun _ _ _ h => h) (by rfl) ?hyx8 (by exact ⟨X0.out, fun _ => trivial⟩) ?restx8
  case hyx8 => intro W hSW; (try dsimp only at hSW); first | (go_simp; done) | (go_simp; with_reducible rfl)
  try simp only [Act.put, List.setIfInBounds_toArray, List.set_cons_zero, List.set_cons_succ]
  refine AnyL.take (i := 10) (v := ?vx9) (by rfl) (by kernel_rfl) (by kernel_rfl) (by kernel_rfl) rfl (by exact fun _ _ _ h => h) (by rfl) ?hyx9 (by exact ⟨X0.out, fun _ => trivial⟩) ?restx9
  case hyx9 => intro W hSW; (try dsimp only at hSW); first | (go_simp; done) | (go_simp; with_reducible rfl)
  try simp only [Act.put, List.setIfInBounds_toArray, List.set_cons_zero, List.set_cons_succ]
  refine AnyL.two (i := 4) (j := 11) (by kernel_rfl) (by rfl) (by rfl) (fun K hK => ?_) (fun K hK => ?_)
  · go_simp
    go_at_call 65
    with_reducible refine (HRP.out _).mono ?_
    rintro e wHQ2 ⟨wb, cw, rfl, hsg⟩
    have HQ2 := Lib.hid (HSD.out.graft1 hsg OI_own)
    clear hsg
    refine hK.out _ _ (by exact HBX.out _ _ HQ2.out (by simp) (by simp)) (by exact fun _ => trivial) ?_
    clear hK K
    try simp only [Act.put, List.setIfInBounds_toArray, List.set_cons_zero, List.set_cons_succ]
    refine AnyL.two (i := 8) (j := 11) (by kernel_rfl) (by rfl) (by rfl) (fun K hK => ?_) (fun K hK => ?_)
    · go_simp
      go_at_call 66
      with_reducible refine (HZE.out _).mono ?_
      rintro e wHQ4 ⟨eb, ce, rfl, hsg⟩
      have HQ4 := Lib.hid (HQ2.out.graft1 hsg OI_own)
      clear hsg
      refine hK.out _ _ (by exact HBX.out _ _ HQ4.out (by simp) (by simp)) (by exact fun _ => trivial) ?_
      clear hK K
      try simp only [Act.put, List.setIfInBounds_toArray, List.set_cons_zero, List.set_cons_succ]
      refine AnyL.step (i := 11) (by kernel_rfl) (by rfl) (fun K hK => ?_)
      refine step_make_bools rfl rfl rfl rfl (by omega) HQ4.out ?_
      intro tb wHQ5 hk
      have HQ5 := Lib.hid hk
      clear hk
      refine hK.out _ _ (by exact HBX.out _ _ HQ5.out (by simp) (by simp)) (by exact fun _ => trivial) ?_
      clear hK K
      try simp only [Act.put, List.setIfInBounds_toArray, List.set_cons_zero, List.set_cons_succ]
      have HC := Lib.hid HQ5.out.s3
      refine AnyL.take (i := 12) (v := ?vx10) (by rfl) (by kernel_rfl) (by kernel_rfl) (by kernel_rfl) rfl (by exact fun _ _ _ h => h) (by rfl) ?hyx10 (by exact ⟨HBX.out _ _ HC.out (by simp) (by simp), fun _ => trivial⟩) ?restx10
      case hyx10 => intro W hSW; (try dsimp only at hSW); first | (go_simp; done) | (go_simp; with_reducible rfl)
      try simp only [Act.put, List.setIfInBounds_toArray, List.set_cons_zero, List.set_cons_succ]
      have HB := Lib.hid (HC.out.box #[.int .i64 mg, .slice gea g.es.length gec, giv, gov, .int .i64 mp, .slice pea p.es.length pec, piv, pov, .slice (some ⟨wb, 0, none⟩) mp cw, .slice (some ⟨eb, 0, none⟩) p.es.length ce, .slice (some ⟨tb, 0, none⟩) mg mg, .nilFunc] 92)
      refine AnyL.step (i := 13) (by kernel_rfl) (by rfl) (fun K hK => ?_)
      go_simp
      refine hK.out _ _ (by exact HBX.out _ _ HB.out (by simp) (by simp)) (by exact fun _ => trivial) ?_
      clear hK K
      try simp only [Act.put, List.setIfInBounds_toArray, List.set_cons_zero, List.set_cons_succ]
      refine AnyL.take (i := 14) (v := ?vx11) (by rfl) (by kernel_rfl) (by kernel_rfl) (by kernel_rfl) rfl (by exact fun _ _ _ h => h) (by rfl) ?hyx11 (by exact ⟨HBX.out _ _ HB.out (by simp) (by simp), fun _ => trivial⟩) ?restx11
      case hyx11 => intro W hSW; (try dsimp only at hSW); first | (go_simp; done) | (go_simp; with_reducible rfl)
      try simp only [Act.put, List.setIfInBounds_toArray, List.set_cons_zero, List.set_cons_succ]
      refine AnyL.done (by kernel_rfl) ?_ _
      have hb := HB.out
      clear HC HB HBX X0 HSD HS HRP HZE
      generalize wHQ5.alloc (.cells #[.int .i64 mg, .slice gea g.es.length gec, giv, gov, .int .i64 mp, .slice pea p.es.length pec, piv, pov, .slice (some ⟨wb, 0, none⟩) mp cw, .slice (some ⟨eb, 0, none⟩) p.es.length ce, .slice (some ⟨tb, 0, none⟩) mg mg, .nilFunc] 92) = w9 at *
      generalize wHQ5.heap.size = kb at *
      have p0 := cell_of_row _ _ 11 _ _ _ (show w9.heap[kb]? = some (.cells #[.int .i64 mg, .slice gea g.es.length gec, giv, gov, .int .i64 mp, .slice pea p.es.length pec, piv, pov, .slice (some ⟨wb, 0, none⟩) mp cw, .slice (some ⟨eb, 0, none⟩) p.es.length ce, .slice (some ⟨tb, 0, none⟩) mg mg, .nilFunc] 92 (0, 0)) from hb.hd)
      have p1 := frozen_of_row _ _ 11 _ _ (show w9.heap[kb]? = some (.cells #[.int .i64 mg, .slice gea g.es.length gec, giv, gov, .int .i64 mp, .slice pea p.es.length pec, piv, pov, .slice (some ⟨wb, 0, none⟩) mp cw, .slice (some ⟨eb, 0, none⟩) p.es.length ce, .slice (some ⟨tb, 0, none⟩) mg mg, .nilFunc] 92 (0, 0)) from hb.hd)
      simp only [List.getElem?_toArray, List.getElem?_cons_zero, List.getElem?_cons_succ] at p0
      have h1 := Sep.blk (A := [_]) (B := [_, _]) (hb.setB 11 (FV (w.heap.size + 1 + 1 + 1 + 1) (w.heap.size + 1 + 1)))
      have h2 := Sep.blk3 (X := [_, _, _, _]) (A := [_]) (B := [_]) h1
      have h3 := Sep.blk (A := [Bag (rowsM [])]) (B := [_, _, _, _, _]) (Sep.bag (l := rowsM []) h2)
      have h4 := Sep.blk3 (X := [_, _, _, _, _, _, _, _]) (A := [_, _]) (B := [_]) h3
      rw [← mrk_start mg mp] at h4
      have hcr := HED.out kb wb cw tb mg eb ce (w.heap.size + 1 + 1 + 1 + 1) (w.heap.size + 1 + 1) _ _ h4
      unfold EdgeR at hcr
      rw [show ((0 : Nat) : Int) = 0 from rfl] at hcr
      have HCR := Lib.hid hcr
      clear hb h1 h2 h3 h4 hcr HED
      unfold FV at HCR
      go_wp2_with (
        go_at_call 68
        with_reducible refine HCR.out.mono ?_
        rintro e w6 ⟨Es2, outv2, xs2, rfl, hm2, he2, hs6⟩
        obtain ⟨nb0, _⟩ := bq1 hs6.tl.tl.tl.tl.tl.tl.hd
        have HM2 := Lib.hid hm2
        have HS6 := Lib.hid (Sep.tlN [_, _] (Sep.blk (A := [_, _, _]) (B := [_, _]) (Sep.cutA (X := [_, _]) (A := [_, _]) (Sep.cutA (X := []) (A := [_, _, _, _]) hs6))))
        clear hs6 hm2 he2)
      go_ret
      exact fin_of HMP.out HM2.out HS6.out
    · refine step_make_bools rfl rfl rfl rfl (by omega) HQ2.out ?_
      intro tb wHQ7 hk
      have HQ7 := Lib.hid hk
      clear hk
      refine hK.out _ _ (by exact HBX.out _ _ HQ7.out (by simp) (by simp)) (by exact fun _ => trivial) ?_
      clear hK K
      try simp only [Act.put, List.setIfInBounds_toArray, List.set_cons_zero, List.set_cons_succ]
      refine AnyL.step (i := 8) (by kernel_rfl) (by rfl) (fun K hK => ?_)
      go_simp
      go_at_call 66
      with_reducible refine (HZE.out _).mono ?_
      rintro e wHQ8 ⟨eb, ce, rfl, hsg⟩
      have HQ8 := Lib.hid (HQ7.out.graft1 hsg OI_own)
      clear hsg
      refine hK.out _ _ (by exact HBX.out _ _ HQ8.out (by simp) (by simp)) (by exact fun _ => trivial) ?_
      clear hK K
      try simp only [Act.put, List.setIfInBounds_toArray, List.set_cons_zero, List.set_cons_succ]
      have HC := Lib.hid (HQ8.out.s3.under Sep.s2 (by simp +contextual))
      refine AnyL.take (i := 12) (v := ?vx12) (by rfl) (by kernel_rfl) (by kernel_rfl) (by kernel_rfl) rfl (by exact fun _ _ _ h => h) (by rfl) ?hyx12 (by exact ⟨HBX.out _ _ HC.out (by simp) (by simp), fun _ => trivial⟩) ?restx12
      case hyx12 => intro W hSW; (try dsimp only at hSW); first | (go_simp; done) | (go_simp; with_reducible rfl)
      try simp only [Act.put, List.setIfInBounds_toArray, List.set_cons_zero, List.set_cons_succ]
      have HB := Lib.hid (HC.out.box #[.int .i64 mg, .slice gea g.es.length gec, giv, gov, .int .i64 mp, .slice pea p.es.length pec, piv, pov, .slice (some ⟨wb, 0, none⟩) mp cw, .slice (some ⟨eb, 0, none⟩) p.es.length ce, .slice (some ⟨tb, 0, none⟩) mg mg, .nilFunc] 92)
      refine AnyL.step (i := 13) (by kernel_rfl) (by rfl) (fun K hK => ?_)
      go_simp
      refine hK.out _ _ (by exact HBX.out _ _ HB.out (by simp) (by simp)) (by exact fun _ => trivial) ?_
      clear hK K
      try simp only [Act.put, List.setIfInBounds_toArray, List.set_cons_zero, List.set_cons_succ]
      refine AnyL.take (i := 14) (v := ?vx13) (by rfl) (by kernel_rfl) (by kernel_rfl) (by kernel_rfl) rfl (by exact fun _ _ _ h => h) (by rfl) ?hyx13 (by exact ⟨HBX.out _ _ HB.out (by simp) (by simp), fun _ => trivial⟩) ?restx13
      case hyx13 => intro W hSW; (try dsimp only at hSW); first | (go_simp; done) | (go_simp; with_reducible rfl)
      try simp only [Act.put, List.setIfInBounds_toArray, List.set_cons_zero, List.set_cons_succ]
      refine AnyL.done (by kernel_rfl) ?_ _
      have hb := HB.out
      clear HC HB HBX X0 HSD HS HRP HZE
      generalize wHQ8.alloc (.cells #[.int .i64 mg, .slice gea g.es.length gec, giv, gov, .int .i64 mp, .slice pea p.es.length pec, piv, pov, .slice (some ⟨wb, 0, none⟩) mp cw, .slice (some ⟨eb, 0, none⟩) p.es.length ce, .slice (some ⟨tb, 0, none⟩) mg mg, .nilFunc] 92) = w9 at *
      generalize wHQ8.heap.size = kb at *
      have p0 := cell_of_row _ _ 11 _ _ _ (show w9.heap[kb]? = some (.cells #[.int .i64 mg, .slice gea g.es.length gec, giv, gov, .int .i64 mp, .slice pea p.es.length pec, piv, pov, .slice (some ⟨wb, 0, none⟩) mp cw, .slice (some ⟨eb, 0, none⟩) p.es.length ce, .slice (some ⟨tb, 0, none⟩) mg mg, .nilFunc] 92 (0, 0)) from hb.hd)
      have p1 := frozen_of_row _ _ 11 _ _ (show w9.heap[kb]? = some (.cells #[.int .i64 mg, .slice gea g.es.length gec, giv, gov, .int .i64 mp, .slice pea p.es.length pec, piv, pov, .slice (some ⟨wb, 0, none⟩) mp cw, .slice (some ⟨eb, 0, none⟩) p.es.length ce, .slice (some ⟨tb, 0, none⟩) mg mg, .nilFunc] 92 (0, 0)) from hb.hd)
      simp only [List.getElem?_toArray, List.getElem?_cons_zero, List.getElem?_cons_succ] at p0
      have h1 := Sep.blk (A := [_]) (B := [_, _]) (hb.setB 11 (FV (w.heap.size + 1 + 1 + 1 + 1) (w.heap.size + 1 + 1)))
      have h2 := Sep.blk3 (X := [_, _, _, _]) (A := [_]) (B := [_]) h1
      have h3 := Sep.blk (A := [Bag (rowsM [])]) (B := [_, _, _, _, _]) (Sep.bag (l := rowsM []) h2)
      have h4 := Sep.blk3 (X := [_, _, _, _, _, _, _, _]) (A := [_, _]) (B := [_]) h3
      rw [← mrk_start mg mp] at h4
      have hcr := HED.out kb wb cw tb mg eb ce (w.heap.size + 1 + 1 + 1 + 1) (w.heap.size + 1 + 1) _ _ h4
      unfold EdgeR at hcr
      rw [show ((0 : Nat) : Int) = 0 from rfl] at hcr
      have HCR := Lib.hid hcr
      clear hb h1 h2 h3 h4 hcr HED
      unfold FV at HCR
      go_wp2_with (
        go_at_call 68
        with_reducible refine HCR.out.mono ?_
        rintro e w6 ⟨Es2, outv2, xs2, rfl, hm2, he2, hs6⟩
        obtain ⟨nb0, _⟩ := bq1 hs6.tl.tl.tl.tl.tl.tl.hd
        have HM2 := Lib.hid hm2
        have HS6 := Lib.hid (Sep.tlN [_, _] (Sep.blk (A := [_, _, _]) (B := [_, _]) (Sep.cutA (X := [_, _]) (A := [_, _]) (Sep.cutA (X := []) (A := [_, _, _, _]) hs6))))
        clear hs6 hm2 he2)
      go_ret
      exact fin_of HMP.out HM2.out HS6.out
  · refine step_make_bools rfl rfl rfl rfl (by omega) HSD.out ?_
    intro tb wHQ10 hk
    have HQ10 := Lib.hid hk
    clear hk
    refine hK.out _ _ (by exact HBX.out _ _ HQ10.out (by simp) (by simp)) (by exact fun _ => trivial) ?_
    clear hK K
    try simp only [Act.put, List.setIfInBounds_toArray, List.set_cons_zero, List.set_cons_succ]
    refine AnyL.step (i := 4) (by kernel_rfl) (by rfl) (fun K hK => ?_)
    go_simp
    go_at_call 65
    with_reducible refine (HRP.out _).mono ?_
    rintro e wHQ11 ⟨wb, cw, rfl, hsg⟩
    have HQ11 := Lib.hid (HQ10.out.graft1 hsg OI_own)
    clear hsg
    refine hK.out _ _ (by exact HBX.out _ _ HQ11.out (by simp) (by simp)) (by exact fun _ => trivial) ?_
    clear hK K
    try simp only [Act.put, List.setIfInBounds_toArray, List.set_cons_zero, List.set_cons_succ]
    refine AnyL.step (i := 8) (by kernel_rfl) (by rfl) (fun K hK => ?_)
    go_simp
    go_at_call 66
    with_reducible refine (HZE.out _).mono ?_
    rintro e wHQ12 ⟨eb, ce, rfl, hsg⟩
    have HQ12 := Lib.hid (HQ11.out.graft1 hsg OI_own)
    clear hsg
    refine hK.out _ _ (by exact HBX.out _ _ HQ12.out (by simp) (by simp)) (by exact fun _ => trivial) ?_
    clear hK K
    try simp only [Act.put, List.setIfInBounds_toArray, List.set_cons_zero, List.set_cons_succ]
    have HC := Lib.hid (HQ12.out.s2.under Sep.s2 (by simp +contextual))
    refine AnyL.take (i := 12) (v := ?vx14) (by rfl) (by kernel_rfl) (by kernel_rfl) (by kernel_rfl) rfl (by exact fun _ _ _ h => h) (by rfl) ?hyx14 (by exact ⟨HBX.out _ _ HC.out (by simp) (by simp), fun _ => trivial⟩) ?restx14
    case hyx14 => intro W hSW; (try dsimp only at hSW); first | (go_simp; done) | (go_simp; with_reducible rfl)
    try simp only [Act.put, List.setIfInBounds_toArray, List.set_cons_zero, List.set_cons_succ]
    have HB := Lib.hid (HC.out.box #[.int .i64 mg, .slice gea g.es.length gec, giv, gov, .int .i64 mp, .slice pea p.es.length pec, piv, pov, .slice (some ⟨wb, 0, none⟩) mp cw, .slice (some ⟨eb, 0, none⟩) p.es.length ce, .slice (some ⟨tb, 0, none⟩) mg mg, .nilFunc] 92)
    refine AnyL.step (i := 13) (by kernel_rfl) (by rfl) (fun K hK => ?_)
    go_simp
    refine hK.out _ _ (by exact HBX.out _ _ HB.out (by simp) (by simp)) (by exact fun _ => trivial) ?_
    clear hK K
    try simp only [Act.put, List.setIfInBounds_toArray, List.set_cons_zero, List.set_cons_succ]
    refine AnyL.take (i := 14) (v := ?vx15) (by rfl) (by kernel_rfl) (by kernel_rfl) (by kernel_rfl) rfl (by exact fun _ _ _ h => h) (by rfl) ?hyx15 (by exact ⟨HBX.out _ _ HB.out (by simp) (by simp), fun _ => trivial⟩) ?restx15
    case hyx15 => intro W hSW; (try dsimp only at hSW); first | (go_simp; done) | (go_simp; with_reducible rfl)
    try simp only [Act.put, List.setIfInBounds_toArray, List.set_cons_zero, List.set_cons_succ]
    refine AnyL.done (by kernel_rfl) ?_ _
    have hb := HB.out
    clear HC HB HBX X0 HSD HS HRP HZE
    generalize wHQ12.alloc (.cells #[.int .i64 mg, .slice gea g.es.length gec, giv, gov, .int .i64 mp, .slice pea p.es.length pec, piv, pov, .slice (some ⟨wb, 0, none⟩) mp cw, .slice (some ⟨eb, 0, none⟩) p.es.length ce, .slice (some ⟨tb, 0, none⟩) mg mg, .nilFunc] 92) = w9 at *
    generalize wHQ12.heap.size = kb at *
    have p0 := cell_of_row _ _ 11 _ _ _ (show w9.heap[kb]? = some (.cells #[.int .i64 mg, .slice gea g.es.length gec, giv, gov, .int .i64 mp, .slice pea p.es.length pec, piv, pov, .slice (some ⟨wb, 0, none⟩) mp cw, .slice (some ⟨eb, 0, none⟩) p.es.length ce, .slice (some ⟨tb, 0, none⟩) mg mg, .nilFunc] 92 (0, 0)) from hb.hd)
    have p1 := frozen_of_row _ _ 11 _ _ (show w9.heap[kb]? = some (.cells #[.int .i64 mg, .slice gea g.es.length gec, giv, gov, .int .i64 mp, .slice pea p.es.length pec, piv, pov, .slice (some ⟨wb, 0, none⟩) mp cw, .slice (some ⟨eb, 0, none⟩) p.es.length ce, .slice (some ⟨tb, 0, none⟩) mg mg, .nilFunc] 92 (0, 0)) from hb.hd)
    simp only [List.getElem?_toArray, List.getElem?_cons_zero, List.getElem?_cons_succ] at p0
    have h1 := Sep.blk (A := [_]) (B := [_, _]) (hb.setB 11 (FV (w.heap.size + 1 + 1 + 1 + 1) (w.heap.size + 1 + 1)))
    have h2 := Sep.blk3 (X := [_, _, _, _]) (A := [_]) (B := [_]) h1
    have h3 := Sep.blk (A := [Bag (rowsM [])]) (B := [_, _, _, _, _]) (Sep.bag (l := rowsM []) h2)
    have h4 := Sep.blk3 (X := [_, _, _, _, _, _, _, _]) (A := [_, _]) (B := [_]) h3
    rw [← mrk_start mg mp] at h4
    have hcr := HED.out kb wb cw tb mg eb ce (w.heap.size + 1 + 1 + 1 + 1) (w.heap.size + 1 + 1) _ _ h4
    unfold EdgeR at hcr
    rw [show ((0 : Nat) : Int) = 0 from rfl] at hcr
    have HCR := Lib.hid hcr
    clear hb h1 h2 h3 h4 hcr HED
    unfold FV at HCR
    go_wp2_with (
      go_at_call 68
      with_reducible refine HCR.out.mono ?_
      rintro e w6 ⟨Es2, outv2, xs2, rfl, hm2, he2, hs6⟩
      obtain ⟨nb0, _⟩ := bq1 hs6.tl.tl.tl.tl.tl.tl.hd
      have HM2 := Lib.hid hm2
      have HS6 := Lib.hid (Sep.tlN [_, _] (Sep.blk (A := [_, _, _]) (B := [_, _]) (Sep.cutA (X := [_, _]) (A := [_, _]) (Sep.cutA (X := []) (A := [_, _, _, _]) hs6))))
      clear hs6 hm2 he2)
    go_ret
    exact fin_of HMP.out HM2.out HS6.out
end Go.Proofs.Ytlpgjnjhhgjkmaa

/-
  Are graphs monogamous; all matches, in the program. Conditions: lists are small.
-/
namespace Go.Proofs.Ytlpgjnjhhgjkmaa
open Go.RowKit
set_option linter.unusedVariables false
set_option maxRecDepth 100000

def mgB (g : Gr) : Bool := grB g && monB g
set_option maxHeartbeats 1000000 in
theorem areMono_any (v : Value) (gs : List Gr) (w : World) (hv : RdGs graphE edgeE w v gs) (hl : gs.length ≤ 1000) (hle : ∀ g ∈ gs, Sm g) :
    Calls Try.prog 44 #[v] w fun e w' => e = .returned (.bool (gs.all mgB)) ∧ w.grownBy w' none := by
  have HV := Lib.hid hv; have HLE := Lib.hid hle
  obtain ⟨a, c, rfl⟩ := hv.shape
  generalize hn : gs.length = n at *
  have HN := Lib.hid hn
  clear hv hle hn
  go_enter Try.func44, Try.ntmps44
  go_wp2
  go_loopw [4, 7] (fun _ i wr => ∃ k : Nat, k ≤ n ∧ i = .int .i64 k ∧ w.grownBy wr none ∧ ∀ j, j < k → mgB (gs.getD j gr00) = true) (fun _ i _ => n - (intOf i).toNat)
  case atStart => exact ⟨0, by omega, rfl, grownBy_refl _ _, fun j hj => absurd hj (by omega)⟩
  case round =>
    obtain ⟨k, hk, rfl, hg, hall⟩ := hrel
    have HG := Lib.hid hg; have HALL := Lib.hid hall
    clear hg hall
    by_cases hlt : k < n
    · have hkn : k < gs.length := by rw [HN.out]; exact hlt
      obtain ⟨b, o, ev, iv, ov, rfl, hat⟩ := HV.out.atK rfl rfl hkn
      obtain ⟨ea, ec, rfl⟩ := (hat wr HG.out).2.1.shape
      obtain ⟨ia, ic, rfl⟩ := (hat wr HG.out).2.2.1.shape
      obtain ⟨oa, oc, rfl⟩ := (hat wr HG.out).2.2.2.shape
      obtain ⟨x0, x1, x2, x3⟩ := (hat wr HG.out).1
      have hsm := HLE.out (gs.getD k gr00) (by rw [List.getD_eq_getElem?_getD, List.getElem?_eq_getElem hkn]; exact List.getElem_mem hkn)
      have hmono := isMonogamous_any _ _ _ (gs.getD k gr00) (wr.alloc (.cells #[.int .i64 (gs.getD k gr00).n, .slice ea (gs.getD k gr00).es.length ec, .slice ia (gs.getD k gr00).i.length ic, .slice oa (gs.getD k gr00).o.length oc] 29)) (hat _ (grownBy_trans HG.out (grownBy_alloc _ _ none))).2.1 (hat _ (grownBy_trans HG.out (grownBy_alloc _ _ none))).2.2.1 (hat _ (grownBy_trans HG.out (grownBy_alloc _ _ none))).2.2.2 (by have := hsm.es; omega) (by have := hsm.i; omega) (by have := hsm.o; omega)
      unfold grV at hmono
      have hki : (k : Int) < (n : Int) := by omega
      have HB := Lib.hid (show mgB (gs.getD k gr00) = (grB (gs.getD k gr00) && monB (gs.getD k gr00)) from rfl)
      have HNX := Lib.hid fun (h : mgB (gs.getD k gr00) = true) => show ∀ j, j < k + 1 → mgB (gs.getD j gr00) = true from fun j hj => by
        by_cases e : j = k
        · rw [e]; exact h
        · exact HALL.out j (by omega)
      have HFA := Lib.hid fun (h : mgB (gs.getD k gr00) = false) => show gs.all mgB = false from by
        rw [List.all_eq_false]
        exact ⟨gs.getD k gr00, by rw [List.getD_eq_getElem?_getD, List.getElem?_eq_getElem hkn]; exact List.getElem_mem hkn, by rw [h]; simp⟩
      have hs0 := ((Sep.start wr).box #[.int .i64 (gs.getD k gr00).n, .slice ea (gs.getD k gr00).es.length ec, .slice ia (gs.getD k gr00).i.length ic, .slice oa (gs.getD k gr00).o.length oc] 29)
      obtain ⟨y0, y1, y2, y3, _⟩ := bq4 hs0.hd
      clear hs0 hat hsm hkn
      rw [← HB.out] at hmono
      generalize gs.getD k gr00 = G at *
      cases hb : mgB G with
      | true =>
        rw [hb] at hmono
        have HM := Lib.hid hmono
        have HBB := Lib.hid hb
        clear hmono hb
        go_wp2_with (
          go_at_call 64
          with_reducible refine HM.out.mono ?_
          rintro e w3 ⟨rfl, hg3⟩
          have HG3 := Lib.hid (grownBy_trans (grownBy_trans HG.out (grownBy_alloc _ _ none)) hg3)
          clear hg3)
        go_roundw
        case rel => exact ⟨k + 1, by omega, by go_num, HG3.out, HNX.out HBB.out⟩
        case measure => simp [intOf]; omega
      | false =>
        rw [hb] at hmono
        have HM := Lib.hid hmono
        have HBB := Lib.hid hb
        clear hmono hb
        go_wp2_with (
          go_at_call 64
          with_reducible refine HM.out.mono ?_
          rintro e w3 ⟨rfl, hg3⟩
          have HG3 := Lib.hid (grownBy_trans (grownBy_trans HG.out (grownBy_alloc _ _ none)) hg3)
          clear hg3)
        go_ret
        exact ⟨by rw [HFA.out HBB.out]; try rfl, HG3.out⟩
    · have hkn : k = n := by omega
      subst hkn
      have HT := Lib.hid (show gs.all mgB = true from by
        rw [List.all_eq_true]
        intro x hx
        obtain ⟨j, hj, rfl⟩ := List.mem_iff_getElem.1 hx
        have := HALL.out j (by rw [← HN.out]; exact hj)
        rw [List.getD_eq_getElem?_getD, List.getElem?_eq_getElem hj] at this
        exact this)
      go_wp2
      go_ret
      exact ⟨by rw [HT.out]; try rfl, HG.out⟩
/-- Two graphs, laid side by side for a call. -/
theorem rdGs_two {w : World} {g p : Gr} {ge gi go pe pi po : Value} (h1 : RdE edgeE w ge g.es) (h2 : IntsV w gi g.i) (h3 : IntsV w go g.o) (k1 : RdE edgeE w pe p.es) (k2 : IntsV w pi p.i) (k3 : IntsV w po p.o) :
    RdGs graphE edgeE (w.alloc (.cells #[.int .i64 g.n, ge, gi, go, .int .i64 p.n, pe, pi, po] 29)) (.slice (some ⟨w.heap.size, 0, none⟩) 2 2) [g, p] := by
  have hg := grownBy_alloc w (.cells #[.int .i64 g.n, ge, gi, go, .int .i64 p.n, pe, pi, po] 29) none
  have hn := alloc_heap_new w (.cells #[.int .i64 g.n, ge, gi, go, .int .i64 p.n, pe, pi, po] 29)
  obtain ⟨xs, e1, r1, f1⟩ := h1
  obtain ⟨ys, e2, r2, f2⟩ := k1
  refine ⟨[⟨g.n, ge, xs, gi, g.i, go, g.o⟩, ⟨p.n, pe, ys, pi, p.i, po, p.o⟩], by simp [grs, XG.gr, e1, e2], ⟨_, _, rfl, fun _ => ⟨_, rfl, rfl, by simp, fun i hi j hj => ?_⟩⟩, fun x hx => ?_⟩
  · simp only [graphE] at hj
    match i, hi, j, hj with
    | 0, _, 0, _ => exact cell_of_row _ _ 0 _ _ _ hn
    | 0, _, 1, _ => exact cell_of_row _ _ 1 _ _ _ hn
    | 0, _, 2, _ => exact cell_of_row _ _ 2 _ _ _ hn
    | 0, _, 3, _ => exact cell_of_row _ _ 3 _ _ _ hn
    | 1, _, 0, _ => exact cell_of_row _ _ 4 _ _ _ hn
    | 1, _, 1, _ => exact cell_of_row _ _ 5 _ _ _ hn
    | 1, _, 2, _ => exact cell_of_row _ _ 6 _ _ _ hn
    | 1, _, 3, _ => exact cell_of_row _ _ 7 _ _ _ hn
    | n + 2, h, _, _ => simp at h; omega
    | _, _, m + 4, h => omega
  · simp only [List.mem_cons, List.not_mem_nil, or_false] at hx
    rcases hx with rfl | rfl
    · refine ⟨?_, h2.carry hg, h3.carry hg⟩
      show RdE edgeE _ ge (eds xs)
      exact (show RdE edgeE w ge (eds xs) from ⟨xs, rfl, r1, f1⟩).carry hg
    · refine ⟨?_, k2.carry hg, k3.carry hg⟩
      show RdE edgeE _ pe (eds ys)
      exact (show RdE edgeE w pe (eds ys) from ⟨ys, rfl, r2, f2⟩).carry hg
end Go.Proofs.Ytlpgjnjhhgjkmaa

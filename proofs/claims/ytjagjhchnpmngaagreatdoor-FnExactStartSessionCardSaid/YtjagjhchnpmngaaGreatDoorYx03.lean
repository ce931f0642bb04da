/-
  Wires made one, in the reference: the graph alone. Conditions: those of hgGlued.
-/
import Derived.Test.YtjagjhchnpmngaaGreatDoorYx02
import Derived.Test.YtjagjhchnpmngaaGreatDoorYx00
import Derived.Laws.Strings
namespace Go.Proofs.YtjagjhchnpmngaaGreatDoor
open Go.RowKit
set_option linter.unusedVariables false
set_option maxRecDepth 100000

/-- What a call hands back that glues a graph. -/
def GluedG (m : Nat) (ps : List (Int × Int)) (g : Gr) (w : World) (e : Ending) (w' : World) : Prop :=
  ∃ u0 xs u1 u2, e = .returned (grV (glueG (classOf m ps) g).n u0 u1 u2) ∧ eds xs = (glueG (classOf m ps) g).es ∧ Sep w' [OE u0 xs, OI u1 (glueG (classOf m ps) g).i, OI u2 (glueG (classOf m ps) g).o, KeepA w]
/-- What gluing asks for. -/
structure GlueOk (m : Nat) (ps : List (Int × Int)) (g : Gr) : Prop where
  hm : g.n = m
  m1 : m ≤ 400
  e : g.es.length ≤ 200
  i : g.i.length ≤ 40
  o : g.o.length ≤ 40
  le : ∀ e ∈ g.es, e.i.length ≤ 2 ∧ e.o.length ≤ 2
  w : ∀ x ∈ wiresL g, 0 ≤ x ∧ x < (m : Int)
  p : ∀ p ∈ ps, (0 ≤ p.1 ∧ p.1 < (m : Int)) ∧ 0 ≤ p.2 ∧ p.2 < (m : Int)
  l : ps.length ≤ 100
set_option maxHeartbeats 1000000 in
theorem hgGlue_any (ev iv ov : Value) (g : Gr) (m : Nat) (av bv : Value) (ps : List (Int × Int)) (w : World) (he : RdE edgeE w ev g.es) (hi : IntsV w iv g.i) (ho : IntsV w ov g.o) (ha : IntsV w av (ps.map Prod.fst)) (hb : IntsV w bv (ps.map Prod.snd)) (hk : GlueOk m ps g) :
    Calls Tryz.prog 66 #[grV g.n ev iv ov, av, bv] w (GluedG m ps g w) := by
  have HG := Lib.hid fun W (h : w.grownBy W none) => hgGlued_any ev iv ov g m av bv ps W (he.carry h) (hi.carry h) (ho.carry h) (ha.carry h) (hb.carry h) hk.hm hk.m1 hk.e hk.i hk.o hk.le hk.w hk.p hk.l
  unfold GluedG
  generalize glueG (classOf m ps) g = G at *
  clear hk ha hb
  unfold grV at *
  obtain ⟨ea, ec, rfl⟩ := he.shape
  obtain ⟨ia, ic, rfl⟩ := hi.shape
  obtain ⟨oa, oc, rfl⟩ := ho.shape
  clear he hi ho
  generalize g.es.length = m0 at *
  generalize g.i.length = n1 at *
  generalize g.o.length = n2 at *
  generalize g.n = gn at *
  have hs0 := ((Sep.start w).box #[.int .i64 gn, .slice ea m0 ec, .slice ia n1 ic, .slice oa n2 oc] 30).box #[.int .i64 0, .slice none 0 0, .slice none 0 0, .slice none 0 0] 30
  have e1 : (w.alloc (.cells #[.int .i64 gn, .slice ea m0 ec, .slice ia n1 ic, .slice oa n2 oc] 30)).heap.size = w.heap.size + 1 := by simp
  rw [e1] at hs0
  obtain ⟨x0, x1, x2, x3, _⟩ := bq4 hs0.tl.hd
  have HC := Lib.hid (HG.out _ (show w.grownBy _ none from hs0.tl.tl.hd))
  have HS0 := Lib.hid hs0
  clear hs0 e1 HG
  go_enter Tryz.func66, Tryz.ntmps66
  go_upto_region 2 with (
    go_at_call 90
    with_reducible refine HC.out.mono ?_
    rintro e w3 ⟨u0, xs, u1, u2, t, rfl, hxs, hsg⟩
    have HXS := Lib.hid hxs
    obtain ⟨s0, r0, rfl⟩ := OE.shape hsg.hd
    obtain ⟨s1, r1, rfl⟩ := own_shape hsg.tl.hd
    obtain ⟨s2, r2, rfl⟩ := own_shape hsg.tl.tl.hd
    have hs2 := (HS0.out.graft3 hsg OE_own OI_own OI_own).box #[.int .i64 G.n, .slice s0 xs.length r0, .slice s1 G.i.length r1, .slice s2 G.o.length r2] 30
    have HS2 := Lib.hid hs2
    clear hsg hs2 hxs)
  have hs2 := HS2.out
  clear HS2 HS0 HC
  generalize w3.alloc (.cells #[.int .i64 G.n, .slice s0 xs.length r0, .slice s1 G.i.length r1, .slice s2 G.o.length r2] 30) = w7 at *
  clear x0 x1 x2 x3
  obtain ⟨k0, k1, k2, k3, _⟩ := bq4 hs2.hd
  have hs3 := hs2.s5
  obtain ⟨a0, a1, a2, a3, b0, b1, b2, b3⟩ := bq4 hs3.hd
  have hs4 := (((hs3.setB 0 (.int .i64 G.n)).setB 1 (.slice s0 xs.length r0)).setB 2 (.slice s1 G.i.length r1)).setB 3 (.slice s2 G.o.length r2)
  obtain ⟨c0, c1, c2, c3, _⟩ := bq4 hs4.hd
  have HSF := Lib.hid (hs4.tl.tl.under (fun h => h.under (fun h => h.under (fun h => h.tl) (by simp +contextual)) (by simp +contextual)) (by simp +contextual))
  clear hs2 hs3 hs4
  go_wp2_with fail
  refine bodyPost_ret_by (v := .agg #[.int .i64 G.n, .slice s0 xs.length r0, .slice s1 G.i.length r1, .slice s2 G.o.length r2]) ?_ rfl ⟨_, xs, _, _, rfl, HXS.out, HSF.out⟩
  simp [results, go_sem, *]
end Go.Proofs.YtjagjhchnpmngaaGreatDoor

/-
  The graph of a tree. Plain mathematics. Conditions: as each says.
-/
namespace Go.Proofs.YtjagjhchnpmngaaGreatDoor
open Go.RowKit
set_option linter.unusedVariables false

/-- d, .., d + n - 1. -/
def frL (d n : Nat) : List Int := (List.range n).map fun i : Nat => ((d + i : Nat) : Int)
theorem frL_len (d n : Nat) : (frL d n).length = n := by simp [frL]
theorem frL_at {d n i : Nat} (h : i < n) : (frL d n).getD i 0 = ((d + i : Nat) : Int) := by
  unfold frL
  rw [List.getD_eq_getElem?_getD, List.getElem?_map, List.getElem?_range h]
  rfl
theorem ofL_fr {d n : Nat} {x : Int} (h0 : 0 ≤ x) (h1 : x < (n : Int)) : ofL (frL d n) x = (d : Int) + x := by
  unfold ofL
  rw [frL_at (by omega)]
  omega
theorem mem_frL {d n : Nat} {x : Int} : x ∈ frL d n ↔ (d : Int) ≤ x ∧ x < (d : Int) + n := by
  unfold frL
  rw [List.mem_map]
  constructor
  · rintro ⟨i, hi, rfl⟩
    have := List.mem_range.1 hi
    omega
  · rintro ⟨h1, h2⟩
    exact ⟨(x - d).toNat, List.mem_range.2 (by omega), by omega⟩
theorem mem_upL {n : Nat} {x : Int} : x ∈ upL n ↔ 0 ≤ x ∧ x < (n : Int) := by
  unfold upL
  rw [List.mem_map]
  constructor
  · rintro ⟨i, hi, rfl⟩
    have := List.mem_range.1 hi
    omega
  · rintro ⟨h1, h2⟩
    exact ⟨x.toNat, List.mem_range.2 (by omega), by omega⟩
def shL (a b : Gr) : List Int := frL a.n.toNat b.n.toNat
/-- Two graphs beside each other, the first one's inputs and the second one's outputs. -/
def seqI (a b : Gr) : Gr := ⟨a.n + b.n, a.es ++ b.es.map (mapE (shL a b)), a.i, b.o.map (ofL (shL a b))⟩
def seqP (a b : Gr) : List (Int × Int) := a.o.zip (b.i.map (ofL (shL a b)))
def seqG (a b : Gr) : Gr := glueG (classOf (a.n.toNat + b.n.toNat) (seqP a b)) (seqI a b)
def parG (a b : Gr) : Gr := ⟨a.n + b.n, a.es ++ b.es.map (mapE (shL a b)), a.i ++ b.i.map (ofL (shL a b)), a.o ++ b.o.map (ofL (shL a b))⟩
theorem shL_rng {a b : Gr} {n m : Nat} (ha : a.n = n) (hb : b.n = m) {x : Int} (h0 : 0 ≤ x) (h1 : x < (m : Int)) : 0 ≤ ofL (shL a b) x ∧ ofL (shL a b) x < ((n + m : Nat) : Int) := by
  unfold shL
  rw [ha, hb, Int.toNat_natCast, Int.toNat_natCast, ofL_fr h0 h1]
  omega
theorem seq_fst {a b : Gr} (h : a.o.length = b.i.length) : (seqP a b).map Prod.fst = a.o := by
  unfold seqP
  rw [List.map_fst_zip (by rw [List.length_map]; omega)]
theorem seq_snd {a b : Gr} (h : a.o.length = b.i.length) : (seqP a b).map Prod.snd = b.i.map (ofL (shL a b)) := by
  unfold seqP
  rw [List.map_snd_zip (by rw [List.length_map]; omega)]
theorem mem_wiresG {g : Gr} {x : Int} : x ∈ wiresL g ↔ x ∈ g.i ∨ x ∈ g.o ∨ ∃ e ∈ g.es, x ∈ e.i ∨ x ∈ e.o := by
  unfold wiresL wiresE
  simp only [List.mem_append, List.mem_flatMap]
theorem seq_ok {a b : Gr} (ha : grB a = true) (hb : grB b = true) {n m : Nat} (hn : a.n = n) (hm : b.n = m) (hl : a.o.length = b.i.length) : GlueOk (n + m) (seqP a b) (seqI a b) := by
  obtain ⟨n', hn', a1, a2, a3, a4, a5, a6, _⟩ := grB_n ha
  obtain ⟨m', hm', b1, b2, b3, b4, b5, b6, _⟩ := grB_n hb
  have e1 : n' = n := by omega
  have e2 : m' = m := by omega
  subst e1 e2
  have ra := rngB_iff.1 a5
  have rb := rngB_iff.1 b5
  rw [hn] at ra
  rw [hm] at rb
  refine ⟨by show a.n + b.n = _; omega, by omega, ?_, ?_, ?_, ?_, ?_, ?_, ?_⟩
  · show (a.es ++ _).length ≤ _
    rw [List.length_append, List.length_map]; omega
  · show a.i.length ≤ _; omega
  · show (b.o.map _).length ≤ _; rw [List.length_map]; omega
  · intro e he
    rcases List.mem_append.1 (show e ∈ a.es ++ b.es.map (mapE (shL a b)) from he) with he | he
    · exact a6 e he
    · obtain ⟨e', he', rfl⟩ := List.mem_map.1 he
      have := b6 e' he'
      simp only [mapE, List.length_map]
      exact this
  · intro x hx
    rcases mem_wiresG.1 hx with hx | hx | ⟨e, he, hx⟩
    · have := ra x (mem_wiresG.2 (Or.inl hx)); omega
    · obtain ⟨y, hy, rfl⟩ := List.mem_map.1 (show x ∈ b.o.map _ from hx)
      have := rb y (mem_wiresG.2 (Or.inr (Or.inl hy)))
      exact shL_rng hn hm this.1 this.2
    · rcases List.mem_append.1 (show e ∈ a.es ++ b.es.map (mapE (shL a b)) from he) with he | he
      · have := ra x (mem_wiresG.2 (Or.inr (Or.inr ⟨e, he, hx⟩))); omega
      · obtain ⟨e', he', rfl⟩ := List.mem_map.1 he
        simp only [mapE] at hx
        rcases hx with hx | hx
        · obtain ⟨y, hy, rfl⟩ := List.mem_map.1 hx
          have := rb y (mem_wiresG.2 (Or.inr (Or.inr ⟨e', he', Or.inl hy⟩)))
          exact shL_rng hn hm this.1 this.2
        · obtain ⟨y, hy, rfl⟩ := List.mem_map.1 hx
          have := rb y (mem_wiresG.2 (Or.inr (Or.inr ⟨e', he', Or.inr hy⟩)))
          exact shL_rng hn hm this.1 this.2
  · intro p hp
    obtain ⟨h1, h2⟩ := (show p.1 ∈ a.o ∧ p.2 ∈ b.i.map (ofL (shL a b)) from List.of_mem_zip (show (p.1, p.2) ∈ a.o.zip _ from hp))
    have q1 := ra p.1 (mem_wiresG.2 (Or.inr (Or.inl h1)))
    obtain ⟨y, hy, e⟩ := List.mem_map.1 h2
    have q2 := rb y (mem_wiresG.2 (Or.inl hy))
    have q3 := shL_rng hn hm q2.1 q2.2
    rw [e] at q3
    omega
  · unfold seqP
    rw [List.length_zip, List.length_map]; omega
theorem seq_lens (a b : Gr) : (seqG a b).i.length = a.i.length ∧ (seqG a b).o.length = b.o.length := by
  constructor
  · show ((a.i).map _).length = _
    rw [List.length_map]
  · show ((b.o.map _).map _).length = _
    rw [List.length_map, List.length_map]
theorem par_lens (a b : Gr) : (parG a b).i.length = a.i.length + b.i.length ∧ (parG a b).o.length = a.o.length + b.o.length := by
  constructor
  · show (a.i ++ _).length = _
    rw [List.length_append, List.length_map]
  · show (a.o ++ _).length = _
    rw [List.length_append, List.length_map]
/-- The graph of a leaf. -/
def genG (k v : Int) (a b : Nat) : Gr := ⟨((a + b : Nat) : Int), [⟨k, v, upL a, frL a b⟩], upL a, frL a b⟩
def leafG (n : Nd) : Gr := if n.k = 1 then ⟨n.v, [], upL n.v.toNat, upL n.v.toNat⟩ else if n.k = 2 then ⟨2, [], [0, 1], [1, 0]⟩ else genG n.k n.v (edW n.k).1 (edW n.k).2
def Tr.g : Tr → Gr
  | .leaf n => leafG n
  | .seq a b => seqG a.g b.g
  | .par a b => parG a.g b.g
/-- Are all graphs on the way valid? -/
def Tr.gB : Tr → Bool
  | .leaf _ => true
  | .seq a b => a.gB && (b.gB && grB (seqG a.g b.g))
  | .par a b => a.gB && (b.gB && grB (parG a.g b.g))
theorem genG_ok {k v : Int} (hk : inB k 3 14 = true) (hv : valB k v = true) : grB (genG k v (edW k).1 (edW k).2) = true := by
  have hs := edW_small k
  obtain ⟨a, ha⟩ : ∃ a, (edW k).1 = a := ⟨_, rfl⟩
  obtain ⟨b, hb⟩ : ∃ b, (edW k).2 = b := ⟨_, rfl⟩
  have hed : edB ⟨k, v, upL a, frL a b⟩ = true := by
    unfold edB
    rw [hk, hv]
    simp only [Bool.true_and]
    exact decide_eq_true (by rw [upL_len, frL_len, ← ha, ← hb])
  rw [ha, hb] at hs ⊢
  have hw : ∀ x, x ∈ wiresL (genG k v a b) ↔ 0 ≤ x ∧ x < ((a + b : Nat) : Int) := by
    intro x
    rw [mem_wiresG]
    have hx : (x ∈ upL a ∨ x ∈ frL a b ∨ ∃ e ∈ [(⟨k, v, upL a, frL a b⟩ : Ed)], x ∈ e.i ∨ x ∈ e.o) ↔ (x ∈ upL a ∨ x ∈ frL a b) := by
      constructor
      · rintro (h | h | ⟨e, he, h⟩)
        · exact Or.inl h
        · exact Or.inr h
        · rw [List.mem_singleton.1 he] at h; exact h
      · rintro (h | h)
        · exact Or.inl h
        · exact Or.inr (Or.inl h)
    refine Iff.trans hx ?_
    rw [mem_upL, mem_frL]
    omega
  unfold grB
  simp only [Bool.and_eq_true]
  refine ⟨⟨⟨⟨?_, ?_⟩, ?_⟩, ?_⟩, ?_⟩
  · rw [inB_iff]; show 0 ≤ ((a + b : Nat) : Int) ∧ _; exact ⟨by omega, by show ((a + b : Nat) : Int) ≤ 100; omega⟩
  · refine decide_eq_true ⟨by show 1 ≤ 60; omega, ?_, ?_⟩
    · show (upL a).length ≤ 12; rw [upL_len]; omega
    · show (frL a b).length ≤ 12; rw [frL_len]; omega
  · show [(⟨k, v, upL a, frL a b⟩ : Ed)].all edB = true
    simp only [List.all_cons, List.all_nil, Bool.and_true]; exact hed
  · rw [rngB_iff]; intro x hx; exact (hw x).1 hx
  · rw [List.all_eq_true]
    intro w hx
    have hx2 := List.mem_range.1 hx
    have hx3 : w < (((a + b : Nat) : Int)).toNat := hx2
    rw [Int.toNat_natCast] at hx3
    exact decide_eq_true ((hw _).2 (by omega))
theorem idG_ok {v : Int} (h0 : 0 ≤ v) (h1 : v ≤ 12) : grB ⟨v, [], upL v.toNat, upL v.toNat⟩ = true := by
  have hw : ∀ x, x ∈ wiresL ⟨v, [], upL v.toNat, upL v.toNat⟩ ↔ 0 ≤ x ∧ x < v := by
    intro x
    rw [mem_wiresG]
    have hx : (x ∈ upL v.toNat ∨ x ∈ upL v.toNat ∨ ∃ e ∈ ([] : List Ed), x ∈ e.i ∨ x ∈ e.o) ↔ x ∈ upL v.toNat := by
      constructor
      · rintro (h | h | ⟨e, he, h⟩)
        · exact h
        · exact h
        · cases he
      · exact Or.inl
    refine Iff.trans hx ?_
    rw [mem_upL]
    omega
  unfold grB
  simp only [Bool.and_eq_true]
  refine ⟨⟨⟨⟨?_, ?_⟩, rfl⟩, ?_⟩, ?_⟩
  · rw [inB_iff]; show 0 ≤ v ∧ v ≤ 100; omega
  · refine decide_eq_true ⟨by show 0 ≤ 60; omega, ?_, ?_⟩
    · show (upL _).length ≤ 12; rw [upL_len]; omega
    · show (upL _).length ≤ 12; rw [upL_len]; omega
  · rw [rngB_iff]; intro x hx; exact (hw x).1 hx
  · rw [List.all_eq_true]
    intro w hx
    have hx2 : w < v.toNat := by simpa using List.mem_range.1 hx
    exact decide_eq_true ((hw _).2 (by omega))
theorem leafG_ok {n : Nd} (h : lfB n = true) : grB (leafG n) = true ∧ ((leafG n).i.length : Int) = (lfTy n).1 ∧ ((leafG n).o.length : Int) = (lfTy n).2 := by
  unfold lfB lfV at h
  rw [Bool.and_eq_true] at h
  have h2 := h.2
  unfold leafG lfTy
  by_cases h1 : n.k = 1
  · rw [if_pos h1] at h2
    have h3 := of_decide_eq_true h2
    rw [if_pos h1, if_pos h1]
    refine ⟨idG_ok h3.1 h3.2, ?_, ?_⟩ <;> (simp only [upL_len]; omega)
  · rw [if_neg h1] at h2
    rw [if_neg h1, if_neg h1]
    by_cases h4 : n.k = 2
    · rw [if_pos h4, if_pos h4]
      exact ⟨by decide, by decide, by decide⟩
    · rw [if_neg h4, Bool.and_eq_true] at h2
      rw [if_neg h4, if_neg h4]
      refine ⟨genG_ok h2.1 h2.2, ?_, ?_⟩
      · show ((upL _).length : Int) = _; rw [upL_len]
      · show ((frL _ _).length : Int) = _; rw [frL_len]
theorem Tr.g_ok {t : Tr} (h : t.Ok) (hb : t.gB = true) : grB t.g = true ∧ (t.g.i.length : Int) = t.ty.1 ∧ (t.g.o.length : Int) = t.ty.2 := by
  induction t with
  | leaf n => exact leafG_ok h
  | seq a b iha ihb =>
    obtain ⟨ha, hb', he⟩ := h
    simp only [Tr.gB, Bool.and_eq_true] at hb
    obtain ⟨_, a1, a2⟩ := iha ha hb.1
    obtain ⟨_, b1, b2⟩ := ihb hb' hb.2.1
    refine ⟨hb.2.2, ?_, ?_⟩
    · show ((seqG a.g b.g).i.length : Int) = a.ty.1
      rw [(seq_lens _ _).1]; exact a1
    · show ((seqG a.g b.g).o.length : Int) = b.ty.2
      rw [(seq_lens _ _).2]; exact b2
  | par a b iha ihb =>
    obtain ⟨ha, hb', he⟩ := h
    simp only [Tr.gB, Bool.and_eq_true] at hb
    obtain ⟨_, a1, a2⟩ := iha ha hb.1
    obtain ⟨_, b1, b2⟩ := ihb hb' hb.2.1
    refine ⟨hb.2.2, ?_, ?_⟩
    · show ((parG a.g b.g).i.length : Int) = a.ty.1 + b.ty.1
      rw [(par_lens _ _).1]; omega
    · show ((parG a.g b.g).o.length : Int) = a.ty.2 + b.ty.2
      rw [(par_lens _ _).2]; omega
theorem Tr.seq_fit {a b : Tr} (h : (Tr.seq a b).Ok) (ha : a.gB = true) (hb : b.gB = true) : a.g.o.length = b.g.i.length := by
  obtain ⟨h1, h2, he⟩ := h
  have q1 := (Tr.g_ok h1 ha).2.2
  have q2 := (Tr.g_ok h2 hb).2.1
  omega
/-- A tree whose part fails fails. -/
theorem pstep_bad {S S' : List Tr} {n : Nd} (h : pstep S n = some S') (hb : S'.all Tr.gB = true) : S.all Tr.gB = true := by
  rcases pstep_cases h with ⟨_, _, rfl⟩ | ⟨A, B, R, rfl, _, _, rfl⟩ | ⟨A, B, R, rfl, _, _, rfl⟩
  · simp only [List.all_cons, Bool.and_eq_true] at hb; exact hb.2
  · simp only [List.all_cons, Bool.and_eq_true, Tr.gB] at hb ⊢
    exact ⟨hb.1.2.1, hb.1.1, hb.2⟩
  · simp only [List.all_cons, Bool.and_eq_true, Tr.gB] at hb ⊢
    exact ⟨hb.1.2.1, hb.1.1, hb.2⟩
theorem prun_bad {ns : List Nd} {i : Nat} {S : List Tr} (h : prun ns i = some S) (hb : S.all Tr.gB = false) : ∀ j S', i ≤ j → prun ns j = some S' → S'.all Tr.gB = false := by
  intro j
  induction j with
  | zero =>
    intro S' hj h'
    rw [show i = 0 by omega] at h
    rw [h] at h'
    injection h' with h'
    rw [← h']; exact hb
  | succ j ih =>
    intro S' hj h'
    rcases Nat.lt_or_ge i (j + 1) with h1 | h1
    · obtain ⟨P, hP⟩ := prun_back h' (Nat.le_succ j)
      have := ih P (by omega) hP
      rw [prun_succ hP] at h'
      cases hq : S'.all Tr.gB with
      | false => rfl
      | true => rw [pstep_bad h' hq] at this; cases this
    · rw [show i = j + 1 by omega] at h
      rw [h] at h'
      injection h' with h'
      rw [← h']; exact hb
end Go.Proofs.YtjagjhchnpmngaaGreatDoor

/-
  The typing of terms, in the program. Conditions: lengths are small.
-/
namespace Go.Proofs.YtjagjhchnpmngaaGreatDoor
open Go.RowKit
set_option linter.unusedVariables false
set_option maxRecDepth 100000

theorem bw2 {w : World} {k : Nat} {x y : Value} {t : TypeId} (h : w.heap[k]? = some (.cells #[x, y] t (0, 0))) : w.cell? ⟨k, 0, none⟩ = some x ∧ w.cell? ⟨k, 1, none⟩ = some y ∧ w.frozen? ⟨k, 0, none⟩ = false ∧ w.frozen? ⟨k, 1, none⟩ = false :=
  ⟨cell_of_row w k 0 _ _ _ h, cell_of_row w k 1 _ _ _ h, frozen_of_row w k 0 _ _ h, frozen_of_row w k 1 _ _ h⟩
theorem bw3 {w : World} {k : Nat} {x y z : Value} {t : TypeId} (h : w.heap[k]? = some (.cells #[x, y, z] t (0, 0))) : w.cell? ⟨k, 0, none⟩ = some x ∧ w.cell? ⟨k, 1, none⟩ = some y ∧ w.cell? ⟨k, 2, none⟩ = some z :=
  ⟨cell_of_row w k 0 _ _ _ h, cell_of_row w k 1 _ _ _ h, cell_of_row w k 2 _ _ _ h⟩
theorem ba_ne {s : ByteArray} (h : s ≠ noS) : s.toList.isEmpty = false := by
  rw [ByteArray.toList_eq]
  obtain ⟨⟨l⟩⟩ := s
  cases l with
  | nil => exact absurd rfl h
  | cons x r => rfl
/-- What a call hands back that types. -/
def TyR (b : Bool) (p : Int × Int) (w : World) (e : Ending) (w' : World) : Prop :=
  (∃ q : Int × Int, e = .returned (.tuple #[.agg #[.int .i64 q.1, .int .i64 q.2], .bool b]) ∧ (b = true → q = p)) ∧ w.grownBy w' none
theorem lfB_name {n : Nd} (h : n.s ≠ noS) : lfB n = false := by unfold lfB; rw [decide_eq_false h]; rfl
theorem lfB_one {n : Nd} (hs : n.s = noS) (h : n.k = 1) : lfB n = decide (0 ≤ n.v ∧ n.v ≤ 12) := by unfold lfB lfV; rw [decide_eq_true hs, if_pos h, Bool.true_and]
theorem lfB_two {n : Nd} (hs : n.s = noS) (h : n.k = 2) : lfB n = decide (n.v = 0) := by unfold lfB lfV; rw [decide_eq_true hs, if_neg (by omega), if_pos h, Bool.true_and]
theorem lfB_gen {n : Nd} (hs : n.s = noS) (h : inB n.k 3 14 = true) : lfB n = valB n.k n.v := by
  have h2 := h
  rw [inB_iff] at h2
  unfold lfB lfV
  rw [decide_eq_true hs, if_neg (by omega), if_neg (by omega), h, Bool.true_and, Bool.true_and]
theorem lfB_no {n : Nd} (h1 : n.k ≠ 1) (h2 : n.k ≠ 2) (h : inB n.k 3 14 = false) : lfB n = false := by
  unfold lfB lfV
  rw [if_neg h1, if_neg h2, h, Bool.false_and, Bool.and_false]
theorem lfTy_gen {n : Nd} (h : inB n.k 3 14 = true) : lfTy n = (((edW n.k).1 : Int), ((edW n.k).2 : Int)) := by
  rw [inB_iff] at h
  unfold lfTy
  rw [if_neg (by omega), if_neg (by omega)]
set_option maxHeartbeats 2000000 in
theorem leafW_name (k v : Int) (s : ByteArray) (w : World) (hs : s ≠ noS) : Calls Tryz.prog 92 #[.agg #[.int .i64 k, .int .i64 v, .string s]] w (TyR false (0, 0) w) := by
  have hs0 := ((Sep.start w).boxAt w.heap.size rfl #[.int .i64 k, .int .i64 v, .string s] 66).boxAt (w.heap.size + 1) (by simp) #[.int .i64 0, .int .i64 0] 95
  have HS0 := Lib.hid hs0
  obtain ⟨x0, x1, x2⟩ := bw3 hs0.tl.hd
  obtain ⟨y0, y1, f0, f1⟩ := bw2 hs0.hd
  clear hs0
  have HKF := Lib.hid (show w.grownBy _ none from HS0.out.tl.tl.hd)
  have hs1 := ba_ne hs
  go_enter Tryz.func92, Tryz.ntmps92
  go_wp2_with fail
  refine bodyPost_ret_by (v := .tuple #[.agg #[.int .i64 0, .int .i64 0], .bool false]) ?_ rfl ⟨⟨(0, 0), rfl, fun h => by cases h⟩, HKF.out⟩
  simp [results, go_sem, *]
set_option maxHeartbeats 2000000 in
theorem leafW_one (v : Int) (w : World) : Calls Tryz.prog 92 #[.agg #[.int .i64 1, .int .i64 v, .string noS]] w (TyR (decide (0 ≤ v ∧ v ≤ 12)) (v, v) w) := by
  have hs0 := ((Sep.start w).boxAt w.heap.size rfl #[.int .i64 1, .int .i64 v, .string noS] 66).boxAt (w.heap.size + 1) (by simp) #[.int .i64 0, .int .i64 0] 95
  have HS0 := Lib.hid hs0
  obtain ⟨x0, x1, x2⟩ := bw3 hs0.tl.hd
  obtain ⟨y0, y1, f0, f1⟩ := bw2 hs0.hd
  clear hs0
  have HBM := Lib.hid fun (W1 : World) (L : List Asrt) (h : Sep W1 L) (h1 : BxA w.heap.size #[.int .i64 1, .int .i64 v, .string noS] 66 ∈ L) => show W1.cell? ⟨w.heap.size, 0, none⟩ = some (.int .i64 1) ∧ W1.cell? ⟨w.heap.size, 1, none⟩ = some (.int .i64 v) from by
    obtain ⟨a0, a1, _⟩ := bw3 (show W1.heap[w.heap.size]? = some (.cells #[.int .i64 1, .int .i64 v, .string noS] 66 (0, 0)) from Sep.all h _ h1)
    exact ⟨a0, a1⟩
  have HW := Lib.hid fun W => within_any v 0 12 W
  generalize decide (0 ≤ v ∧ v ≤ 12) = b at *
  go_enter Tryz.func92, Tryz.ntmps92
  go_upto_region 4 with fail
  generalize (w.alloc (.cells #[.int .i64 1, .int .i64 v, .string noS] 66)).alloc (.cells #[.int .i64 0, .int .i64 0] 95) = w4 at *
  clear x0 x1 x2 y0 y1 f0 f1
  have HSD := Lib.hid HS0.out.dr
  refine AnyL.start (fun W1 => W1.cell? ⟨w.heap.size, 0, none⟩ = some (.int .i64 1) ∧ W1.cell? ⟨w.heap.size, 1, none⟩ = some (.int .i64 v)) (fun _ => True) 99 (by kernel_rfl) ?_
  refine AnyL.take (i := 0) (v := ?vx1) (by rfl) (by kernel_rfl) (by kernel_rfl) (by kernel_rfl) rfl (by exact fun _ _ _ h => h) (by rfl) ?hyx1 (by exact ⟨HBM.out _ _ HSD.out (by simp), fun _ => trivial⟩) ?restx1
  case hyx1 => intro W hSW; (try dsimp only at hSW); first | (go_simp; done) | (go_simp; with_reducible rfl)
  try simp only [Act.put, List.setIfInBounds_toArray, List.set_cons_zero, List.set_cons_succ]
  refine AnyL.take (i := 1) (v := ?vx2) (by rfl) (by kernel_rfl) (by kernel_rfl) (by kernel_rfl) rfl (by exact fun _ _ _ h => h) (by rfl) ?hyx2 (by exact ⟨HBM.out _ _ HSD.out (by simp), fun _ => trivial⟩) ?restx2
  case hyx2 => intro W hSW; (try dsimp only at hSW); first | (go_simp; done) | (go_simp; with_reducible rfl)
  try simp only [Act.put, List.setIfInBounds_toArray, List.set_cons_zero, List.set_cons_succ]
  refine AnyL.take (i := 2) (v := ?vx3) (by rfl) (by kernel_rfl) (by kernel_rfl) (by kernel_rfl) rfl (by exact fun _ _ _ h => h) (by rfl) ?hyx3 (by exact ⟨HBM.out _ _ HSD.out (by simp), fun _ => trivial⟩) ?restx3
  case hyx3 => intro W hSW; (try dsimp only at hSW); first | (go_simp; done) | (go_simp; with_reducible rfl)
  try simp only [Act.put, List.setIfInBounds_toArray, List.set_cons_zero, List.set_cons_succ]
  refine AnyL.take (i := 3) (v := ?vx4) (by rfl) (by kernel_rfl) (by kernel_rfl) (by kernel_rfl) rfl (by exact fun _ _ _ h => h) (by rfl) ?hyx4 (by exact ⟨HBM.out _ _ HSD.out (by simp), fun _ => trivial⟩) ?restx4
  case hyx4 => intro W hSW; (try dsimp only at hSW); first | (go_simp; done) | (go_simp; with_reducible rfl)
  try simp only [Act.put, List.setIfInBounds_toArray, List.set_cons_zero, List.set_cons_succ]
  refine AnyL.take (i := 4) (v := ?vx5) (by rfl) (by kernel_rfl) (by kernel_rfl) (by kernel_rfl) rfl (by exact fun _ _ _ h => h) (by rfl) ?hyx5 (by exact ⟨HBM.out _ _ HSD.out (by simp), fun _ => trivial⟩) ?restx5
  case hyx5 => intro W hSW; (try dsimp only at hSW); first | (go_simp; done) | (go_simp; with_reducible rfl)
  try simp only [Act.put, List.setIfInBounds_toArray, List.set_cons_zero, List.set_cons_succ]
  refine AnyL.take (i := 5) (v := ?vx6) (by rfl) (by kernel_rfl) (by kernel_rfl) (by kernel_rfl) rfl (by exact fun _ _ _ h => h) (by rfl) ?hyx6 (by exact ⟨HBM.out _ _ HSD.out (by simp), fun _ => trivial⟩) ?restx6
  case hyx6 => intro W hSW; (try dsimp only at hSW); first | (go_simp; done) | (go_simp; with_reducible rfl)
  try simp only [Act.put, List.setIfInBounds_toArray, List.set_cons_zero, List.set_cons_succ]
  refine AnyL.take (i := 6) (v := ?vx7) (by rfl) (by kernel_rfl) (by kernel_rfl) (by kernel_rfl) rfl (by exact fun _ _ _ h => h) (by rfl) ?hyx7 (by exact ⟨HBM.out _ _ HSD.out (by simp), fun _ => trivial⟩) ?restx7
  case hyx7 => intro W hSW; (try dsimp only at hSW); first | (go_simp; done) | (go_simp; with_reducible rfl)
  try simp only [Act.put, List.setIfInBounds_toArray, List.set_cons_zero, List.set_cons_succ]
  refine AnyL.step (i := 7) (by kernel_rfl) (by rfl) (fun K hK => ?_)
  go_simp
  go_at_call 77
  with_reducible refine (HW.out _).mono ?_
  rintro e w5 ⟨rfl, rfl⟩
  refine hK.out _ _ (by exact HBM.out _ _ HSD.out (by simp)) (by exact fun _ => trivial) ?_
  clear hK K
  try simp only [Act.put, List.setIfInBounds_toArray, List.set_cons_zero, List.set_cons_succ]
  obtain ⟨y0, y1, f0, f1⟩ := bw2 HS0.out.hd
  have HS5 := Lib.hid ((HSD.out.setB 0 (.int .i64 v)).setB 1 (.int .i64 v))
  refine AnyL.step (i := 8) (by kernel_rfl) (by rfl) (fun K hK => ?_)
  go_simp
  refine hK.out _ ((w4.drew.setCell ⟨w.heap.size + 1, 0, none⟩ (.int .i64 v)).setCell ⟨w.heap.size + 1, 1, none⟩ (.int .i64 v)) (by exact HBM.out _ _ HS5.out (by simp)) (by exact fun _ => trivial) ?_
  clear hK K
  try simp only [Act.put, List.setIfInBounds_toArray, List.set_cons_zero, List.set_cons_succ]
  clear y0 y1 f0 f1
  refine AnyL.take (i := 9) (v := ?vx8) (by rfl) (by kernel_rfl) (by kernel_rfl) (by kernel_rfl) rfl (by exact fun _ _ _ h => h) (by rfl) ?hyx8 (by exact ⟨HBM.out _ _ HS5.out (by simp), fun _ => trivial⟩) ?restx8
  case hyx8 => intro W hSW; (try dsimp only at hSW); first | (go_simp; done) | (go_simp; with_reducible rfl)
  try simp only [Act.put, List.setIfInBounds_toArray, List.set_cons_zero, List.set_cons_succ]
  refine AnyL.done (by kernel_rfl) ?_ _
  generalize ((w4.drew.setCell ⟨w.heap.size + 1, 0, none⟩ (.int .i64 v)).setCell ⟨w.heap.size + 1, 1, none⟩ (.int .i64 v)) = w9 at *
  obtain ⟨y0, y1, _, _⟩ := bw2 HS5.out.hd
  have HKF := Lib.hid (show w.grownBy _ none from HS5.out.tl.tl.hd)
  go_wp2_with fail
  refine bodyPost_ret_by (v := .tuple #[.agg #[.int .i64 v, .int .i64 v], .bool b]) ?_ rfl ⟨⟨_, rfl, fun _ => rfl⟩, HKF.out⟩
  simp [results, go_sem, *]
set_option maxHeartbeats 2000000 in
theorem leafW_two (v : Int) (w : World) : Calls Tryz.prog 92 #[.agg #[.int .i64 2, .int .i64 v, .string noS]] w (TyR (decide (v = 0)) (2, 2) w) := by
  have hs0 := ((Sep.start w).boxAt w.heap.size rfl #[.int .i64 2, .int .i64 v, .string noS] 66).boxAt (w.heap.size + 1) (by simp) #[.int .i64 0, .int .i64 0] 95
  have HS0 := Lib.hid hs0
  obtain ⟨x0, x1, x2⟩ := bw3 hs0.tl.hd
  obtain ⟨y0, y1, f0, f1⟩ := bw2 hs0.hd
  clear hs0
  have HBM := Lib.hid fun (W1 : World) (L : List Asrt) (h : Sep W1 L) (h1 : BxA w.heap.size #[.int .i64 2, .int .i64 v, .string noS] 66 ∈ L) => show W1.cell? ⟨w.heap.size, 0, none⟩ = some (.int .i64 2) ∧ W1.cell? ⟨w.heap.size, 1, none⟩ = some (.int .i64 v) from by
    obtain ⟨a0, a1, _⟩ := bw3 (show W1.heap[w.heap.size]? = some (.cells #[.int .i64 2, .int .i64 v, .string noS] 66 (0, 0)) from Sep.all h _ h1)
    exact ⟨a0, a1⟩
  have HD := Lib.hid (show (v == 0) = decide (v = 0) from by by_cases h : v = 0 <;> simp [h])
  have hd := HD.out
  generalize decide (v = 0) = b at *
  go_enter Tryz.func92, Tryz.ntmps92
  go_upto_region 6 with fail
  generalize (w.alloc (.cells #[.int .i64 2, .int .i64 v, .string noS] 66)).alloc (.cells #[.int .i64 0, .int .i64 0] 95) = w4 at *
  clear x0 x1 x2 y0 y1 f0 f1
  have HSD := Lib.hid HS0.out.dr
  refine AnyL.start (fun W1 => W1.cell? ⟨w.heap.size, 0, none⟩ = some (.int .i64 2) ∧ W1.cell? ⟨w.heap.size, 1, none⟩ = some (.int .i64 v)) (fun _ => True) 99 (by kernel_rfl) ?_
  refine AnyL.take (i := 0) (v := ?vx9) (by rfl) (by kernel_rfl) (by kernel_rfl) (by kernel_rfl) rfl (by exact fun _ _ _ h => h) (by rfl) ?hyx9 (by exact ⟨HBM.out _ _ HSD.out (by simp), fun _ => trivial⟩) ?restx9
  case hyx9 => intro W hSW; (try dsimp only at hSW); first | (go_simp; done) | (go_simp; with_reducible rfl)
  try simp only [Act.put, List.setIfInBounds_toArray, List.set_cons_zero, List.set_cons_succ]
  refine AnyL.take (i := 1) (v := ?vx10) (by rfl) (by kernel_rfl) (by kernel_rfl) (by kernel_rfl) rfl (by exact fun _ _ _ h => h) (by rfl) ?hyx10 (by exact ⟨HBM.out _ _ HSD.out (by simp), fun _ => trivial⟩) ?restx10
  case hyx10 => intro W hSW; (try dsimp only at hSW); first | (go_simp; done) | (go_simp; with_reducible rfl)
  try simp only [Act.put, List.setIfInBounds_toArray, List.set_cons_zero, List.set_cons_succ]
  refine AnyL.take (i := 2) (v := ?vx11) (by rfl) (by kernel_rfl) (by kernel_rfl) (by kernel_rfl) rfl (by exact fun _ _ _ h => h) (by rfl) ?hyx11 (by exact ⟨HBM.out _ _ HSD.out (by simp), fun _ => trivial⟩) ?restx11
  case hyx11 => intro W hSW; (try dsimp only at hSW); first | (go_simp; done) | (go_simp; with_reducible rfl)
  try simp only [Act.put, List.setIfInBounds_toArray, List.set_cons_zero, List.set_cons_succ]
  refine AnyL.take (i := 3) (v := ?vx12) (by rfl) (by kernel_rfl) (by kernel_rfl) (by kernel_rfl) rfl (by exact fun _ _ _ h => h) (by rfl) ?hyx12 (by exact ⟨HBM.out _ _ HSD.out (by simp), fun _ => trivial⟩) ?restx12
  case hyx12 => intro W hSW; (try dsimp only at hSW); first | (go_simp; done) | (go_simp; with_reducible rfl)
  try simp only [Act.put, List.setIfInBounds_toArray, List.set_cons_zero, List.set_cons_succ]
  obtain ⟨y0, y1, f0, f1⟩ := bw2 HS0.out.hd
  have HS5 := Lib.hid ((HSD.out.setB 0 (.int .i64 2)).setB 1 (.int .i64 2))
  refine AnyL.step (i := 4) (by kernel_rfl) (by rfl) (fun K hK => ?_)
  go_simp
  refine hK.out _ ((w4.drew.setCell ⟨w.heap.size + 1, 0, none⟩ (.int .i64 2)).setCell ⟨w.heap.size + 1, 1, none⟩ (.int .i64 2)) (by exact HBM.out _ _ HS5.out (by simp)) (by exact fun _ => trivial) ?_
  clear hK K
  try simp only [Act.put, List.setIfInBounds_toArray, List.set_cons_zero, List.set_cons_succ]
  clear y0 y1 f0 f1
  refine AnyL.take (i := 5) (v := ?vx13) (by rfl) (by kernel_rfl) (by kernel_rfl) (by kernel_rfl) rfl (by exact fun _ _ _ h => h) (by rfl) ?hyx13 (by exact ⟨HBM.out _ _ HS5.out (by simp), fun _ => trivial⟩) ?restx13
  case hyx13 => intro W hSW; (try dsimp only at hSW); first | (go_simp; done) | (go_simp; with_reducible rfl)
  try simp only [Act.put, List.setIfInBounds_toArray, List.set_cons_zero, List.set_cons_succ]
  refine AnyL.done (by kernel_rfl) ?_ _
  generalize ((w4.drew.setCell ⟨w.heap.size + 1, 0, none⟩ (.int .i64 2)).setCell ⟨w.heap.size + 1, 1, none⟩ (.int .i64 2)) = w9 at *
  obtain ⟨y0, y1, _, _⟩ := bw2 HS5.out.hd
  have HKF := Lib.hid (show w.grownBy _ none from HS5.out.tl.tl.hd)
  go_wp2_with fail
  refine bodyPost_ret_by (v := .tuple #[.agg #[.int .i64 2, .int .i64 2], .bool b]) ?_ rfl ⟨⟨_, rfl, fun _ => rfl⟩, HKF.out⟩
  simp [results, go_sem, *]
set_option maxHeartbeats 2000000 in
theorem leafW_gen (k v : Int) (w : World) (hk : inB k 3 14 = true) : Calls Tryz.prog 92 #[.agg #[.int .i64 k, .int .i64 v, .string noS]] w (TyR (valB k v) (((edW k).1 : Int), ((edW k).2 : Int)) w) := by
  have hs0 := ((Sep.start w).boxAt w.heap.size rfl #[.int .i64 k, .int .i64 v, .string noS] 66).boxAt (w.heap.size + 1) (by simp) #[.int .i64 0, .int .i64 0] 95
  have HS0 := Lib.hid hs0
  obtain ⟨x0, x1, x2⟩ := bw3 hs0.tl.hd
  obtain ⟨y0, y1, f0, f1⟩ := bw2 hs0.hd
  clear hs0
  have HBM := Lib.hid fun (W1 : World) (L : List Asrt) (h : Sep W1 L) (h1 : BxA w.heap.size #[.int .i64 k, .int .i64 v, .string noS] 66 ∈ L) => show W1.cell? ⟨w.heap.size, 0, none⟩ = some (.int .i64 k) ∧ W1.cell? ⟨w.heap.size, 1, none⟩ = some (.int .i64 v) from by
    obtain ⟨a0, a1, _⟩ := bw3 (show W1.heap[w.heap.size]? = some (.cells #[.int .i64 k, .int .i64 v, .string noS] 66 (0, 0)) from Sep.all h _ h1)
    exact ⟨a0, a1⟩
  have HA := Lib.hid fun W => isGenerator_any k W
  rw [hk] at HA
  have HG := Lib.hid fun W => generatorWires_any k W hk
  have HV := Lib.hid fun W => isGeneratorValue_any k v W
  rw [inB_iff] at hk
  have h1 : (k == 1) = false := by simp; omega
  have h2 : (k == 2) = false := by simp; omega
  generalize valB k v = b at *
  obtain ⟨a, ha⟩ : ∃ a : Int, ((edW k).1 : Int) = a := ⟨_, rfl⟩
  obtain ⟨c, hc⟩ : ∃ a : Int, ((edW k).2 : Int) = a := ⟨_, rfl⟩
  rw [ha, hc] at HG ⊢
  clear ha hc hk
  go_enter Tryz.func92, Tryz.ntmps92
  go_upto_region 8 with (
    go_at_call 99
    with_reducible refine (HA.out _).mono ?_
    rintro e w3 ⟨rfl, rfl⟩)
  generalize (w.alloc (.cells #[.int .i64 k, .int .i64 v, .string noS] 66)).alloc (.cells #[.int .i64 0, .int .i64 0] 95) = w4 at *
  clear x0 x1 x2 y0 y1 f0 f1
  have HSD := Lib.hid HS0.out.dr
  refine AnyL.start (fun W1 => W1.cell? ⟨w.heap.size, 0, none⟩ = some (.int .i64 k) ∧ W1.cell? ⟨w.heap.size, 1, none⟩ = some (.int .i64 v)) (fun _ => True) 99 (by kernel_rfl) ?_
  refine AnyL.take (i := 0) (v := ?vx14) (by rfl) (by kernel_rfl) (by kernel_rfl) (by kernel_rfl) rfl (by exact fun _ _ _ h => h) (by rfl) ?hyx14 (by exact ⟨HBM.out _ _ HSD.out (by simp), fun _ => trivial⟩) ?restx14
  case hyx14 => intro W hSW; (try dsimp only at hSW); first | (go_simp; done) | (go_simp; with_reducible rfl)
  try simp only [Act.put, List.setIfInBounds_toArray, List.set_cons_zero, List.set_cons_succ]
  refine AnyL.take (i := 1) (v := ?vx15) (by rfl) (by kernel_rfl) (by kernel_rfl) (by kernel_rfl) rfl (by exact fun _ _ _ h => h) (by rfl) ?hyx15 (by exact ⟨HBM.out _ _ HSD.out (by simp), fun _ => trivial⟩) ?restx15
  case hyx15 => intro W hSW; (try dsimp only at hSW); first | (go_simp; done) | (go_simp; with_reducible rfl)
  try simp only [Act.put, List.setIfInBounds_toArray, List.set_cons_zero, List.set_cons_succ]
  refine AnyL.take (i := 3) (v := ?vx16) (by rfl) (by kernel_rfl) (by kernel_rfl) (by kernel_rfl) rfl (by exact fun _ _ _ h => h) (by rfl) ?hyx16 (by exact ⟨HBM.out _ _ HSD.out (by simp), fun _ => trivial⟩) ?restx16
  case hyx16 => intro W hSW; (try dsimp only at hSW); first | (go_simp; done) | (go_simp; with_reducible rfl)
  try simp only [Act.put, List.setIfInBounds_toArray, List.set_cons_zero, List.set_cons_succ]
  refine AnyL.take (i := 4) (v := ?vx17) (by rfl) (by kernel_rfl) (by kernel_rfl) (by kernel_rfl) rfl (by exact fun _ _ _ h => h) (by rfl) ?hyx17 (by exact ⟨HBM.out _ _ HSD.out (by simp), fun _ => trivial⟩) ?restx17
  case hyx17 => intro W hSW; (try dsimp only at hSW); first | (go_simp; done) | (go_simp; with_reducible rfl)
  try simp only [Act.put, List.setIfInBounds_toArray, List.set_cons_zero, List.set_cons_succ]
  refine AnyL.take (i := 5) (v := ?vx18) (by rfl) (by kernel_rfl) (by kernel_rfl) (by kernel_rfl) rfl (by exact fun _ _ _ h => h) (by rfl) ?hyx18 (by exact ⟨HBM.out _ _ HSD.out (by simp), fun _ => trivial⟩) ?restx18
  case hyx18 => intro W hSW; (try dsimp only at hSW); first | (go_simp; done) | (go_simp; with_reducible rfl)
  try simp only [Act.put, List.setIfInBounds_toArray, List.set_cons_zero, List.set_cons_succ]
  refine AnyL.take (i := 6) (v := ?vx19) (by rfl) (by kernel_rfl) (by kernel_rfl) (by kernel_rfl) rfl (by exact fun _ _ _ h => h) (by rfl) ?hyx19 (by exact ⟨HBM.out _ _ HSD.out (by simp), fun _ => trivial⟩) ?restx19
  case hyx19 => intro W hSW; (try dsimp only at hSW); first | (go_simp; done) | (go_simp; with_reducible rfl)
  try simp only [Act.put, List.setIfInBounds_toArray, List.set_cons_zero, List.set_cons_succ]
  refine AnyL.step (i := 2) (by kernel_rfl) (by rfl) (fun K hK => ?_)
  go_simp
  go_at_call 75
  with_reducible refine (HG.out _).mono ?_
  rintro e w5 ⟨rfl, hg⟩
  have HS4 := Lib.hid (HSD.out.grown hg)
  clear hg
  refine hK.out _ _ (by exact HBM.out _ _ HS4.out (by simp)) (by exact fun _ => trivial) ?_
  clear hK K
  try simp only [Act.put, List.setIfInBounds_toArray, List.set_cons_zero, List.set_cons_succ]
  refine AnyL.step (i := 7) (by kernel_rfl) (by rfl) (fun K hK => ?_)
  go_simp
  go_at_call 100
  with_reducible refine (HV.out _).mono ?_
  rintro e w6 ⟨rfl, rfl⟩
  refine hK.out _ _ (by exact HBM.out _ _ HS4.out (by simp)) (by exact fun _ => trivial) ?_
  clear hK K
  try simp only [Act.put, List.setIfInBounds_toArray, List.set_cons_zero, List.set_cons_succ]
  obtain ⟨y0, y1, f0, f1⟩ := bw2 HS4.out.hd
  have HS5 := Lib.hid ((HS4.out.setB 0 (.int .i64 a)).setB 1 (.int .i64 c))
  refine AnyL.step (i := 8) (by kernel_rfl) (by rfl) (fun K hK => ?_)
  go_simp
  refine hK.out _ ((w6.setCell ⟨w.heap.size + 1, 0, none⟩ (.int .i64 a)).setCell ⟨w.heap.size + 1, 1, none⟩ (.int .i64 c)) (by exact HBM.out _ _ HS5.out (by simp)) (by exact fun _ => trivial) ?_
  clear hK K
  try simp only [Act.put, List.setIfInBounds_toArray, List.set_cons_zero, List.set_cons_succ]
  clear y0 y1 f0 f1
  refine AnyL.take (i := 9) (v := ?vx20) (by rfl) (by kernel_rfl) (by kernel_rfl) (by kernel_rfl) rfl (by exact fun _ _ _ h => h) (by rfl) ?hyx20 (by exact ⟨HBM.out _ _ HS5.out (by simp), fun _ => trivial⟩) ?restx20
  case hyx20 => intro W hSW; (try dsimp only at hSW); first | (go_simp; done) | (go_simp; with_reducible rfl)
  try simp only [Act.put, List.setIfInBounds_toArray, List.set_cons_zero, List.set_cons_succ]
  refine AnyL.done (by kernel_rfl) ?_ _
  generalize ((w6.setCell ⟨w.heap.size + 1, 0, none⟩ (.int .i64 a)).setCell ⟨w.heap.size + 1, 1, none⟩ (.int .i64 c)) = w9 at *
  obtain ⟨y0, y1, _, _⟩ := bw2 HS5.out.hd
  have HKF := Lib.hid (show w.grownBy _ none from HS5.out.tl.tl.hd)
  go_wp2_with fail
  refine bodyPost_ret_by (v := .tuple #[.agg #[.int .i64 a, .int .i64 c], .bool b]) ?_ rfl ⟨⟨_, rfl, fun _ => rfl⟩, HKF.out⟩
  simp [results, go_sem, *]
set_option maxHeartbeats 2000000 in
theorem leafW_no (k v : Int) (w : World) (h1 : k ≠ 1) (h2 : k ≠ 2) (hk : inB k 3 14 = false) : Calls Tryz.prog 92 #[.agg #[.int .i64 k, .int .i64 v, .string noS]] w (TyR false (0, 0) w) := by
  have hs0 := ((Sep.start w).boxAt w.heap.size rfl #[.int .i64 k, .int .i64 v, .string noS] 66).boxAt (w.heap.size + 1) (by simp) #[.int .i64 0, .int .i64 0] 95
  have HS0 := Lib.hid hs0
  obtain ⟨x0, x1, x2⟩ := bw3 hs0.tl.hd
  obtain ⟨y0, y1, f0, f1⟩ := bw2 hs0.hd
  clear hs0
  have HA := Lib.hid fun W => isGenerator_any k W
  rw [hk] at HA
  clear hk
  have h1b : (k == 1) = false := by simpa using h1
  have h2b : (k == 2) = false := by simpa using h2
  have HKF := Lib.hid (show w.grownBy _ none from HS0.out.tl.tl.hd)
  go_enter Tryz.func92, Tryz.ntmps92
  go_wp2_with (
    go_at_call 99
    with_reducible refine (HA.out _).mono ?_
    rintro e w3 ⟨rfl, rfl⟩)
  refine bodyPost_ret_by (v := .tuple #[.agg #[.int .i64 0, .int .i64 0], .bool false]) ?_ rfl ⟨⟨(0, 0), rfl, fun h => by cases h⟩, HKF.out⟩
  simp [results, go_sem, *]
theorem leafWires_any (n : Nd) (w : World) : Calls Tryz.prog 92 #[.agg #[.int .i64 n.k, .int .i64 n.v, .string n.s]] w (TyR (lfB n) (lfTy n) w) := by
  by_cases hs : n.s = noS
  · by_cases h1 : n.k = 1
    · rw [lfB_one hs h1, show lfTy n = (n.v, n.v) from if_pos h1, hs, h1]
      exact leafW_one n.v w
    · by_cases h2 : n.k = 2
      · rw [lfB_two hs h2, show lfTy n = (2, 2) from (if_neg h1).trans (if_pos h2), hs, h2]
        exact leafW_two n.v w
      · cases hk : inB n.k 3 14
        · rw [lfB_no h1 h2 hk, hs]
          exact (leafW_no n.k n.v w h1 h2 hk).mono fun e w' ⟨⟨q, he, _⟩, hg⟩ => ⟨⟨q, he, fun h => by cases h⟩, hg⟩
        · rw [lfB_gen hs hk, lfTy_gen hk, hs]
          exact leafW_gen n.k n.v w hk
  · rw [lfB_name hs]
    exact (leafW_name n.k n.v n.s w hs).mono fun e w' ⟨⟨q, he, _⟩, hg⟩ => ⟨⟨q, he, fun h => by cases h⟩, hg⟩
end Go.Proofs.YtjagjhchnpmngaaGreatDoor

/-
  Graphs put together, in the program: numbers from a first one on; one graph beside another. Conditions: the graphs are valid.
-/
namespace Go.Proofs.YtjagjhchnpmngaaGreatDoor
open Go.RowKit
set_option linter.unusedVariables false
set_option linter.unusedSimpArgs false
set_option maxRecDepth 100000

/-- Some of the numbers have been moved. -/
def frTo (d n k : Nat) : List Int := (frL d n).take k ++ (upL n).drop k
theorem frTo_len {d n k : Nat} (h : k ≤ n) : (frTo d n k).length = n := by unfold frTo; rw [List.length_append, List.length_take, List.length_drop, frL_len, upL_len]; omega
theorem frTo_zero (d n : Nat) : frTo d n 0 = upL n := by simp [frTo]
theorem frTo_full (d n : Nat) : frTo d n n = frL d n := by
  unfold frTo
  rw [List.take_of_length_le (by rw [frL_len]; exact Nat.le_refl _), List.drop_of_length_le (by rw [upL_len]; exact Nat.le_refl _), List.append_nil]
theorem upT_at {n i : Nat} (h : i < n) : (upL n).getD i 0 = (i : Int) := by
  unfold upL
  rw [List.getD_eq_getElem?_getD, List.getElem?_map, List.getElem?_range h]
  rfl
theorem frTo_at {d n k : Nat} (h : k < n) : (frTo d n k).getD k 0 = (k : Int) := by
  have hl : ((frL d n).take k).length = k := by rw [List.length_take, frL_len]; omega
  unfold frTo
  rw [List.getD_eq_getElem?_getD, List.getElem?_append_right (by omega), hl, Nat.sub_self, List.getElem?_drop, Nat.add_zero, ← List.getD_eq_getElem?_getD, upT_at h]
theorem frTo_set {d n k : Nat} (h : k < n) : (frTo d n k).set k ((k : Int) + d) = frTo d n (k + 1) := by
  have hl : ((frL d n).take k).length = k := by rw [List.length_take, frL_len]; omega
  unfold frTo
  rw [List.set_append_right _ _ (by omega), hl, Nat.sub_self, List.drop_eq_getElem_cons (by rw [upL_len]; exact h), List.set_cons_zero]
  have e : (frL d n).take (k + 1) = (frL d n).take k ++ [(k : Int) + d] := by
    rw [List.take_succ_eq_append_getElem (by rw [frL_len]; exact h)]
    congr 1
    have := frL_at (d := d) h
    rw [List.getD_eq_getElem?_getD, List.getElem?_eq_getElem (by rw [frL_len]; exact h)] at this
    simp only [Option.getD_some] at this
    rw [this]
    congr 1
    omega
  rw [e, List.append_assoc]
  rfl
theorem from_any (d n : Nat) (w : World) (hd : d ≤ 100000) (hn : n ≤ 100000) :
    Calls Tryz.prog 71 #[.int .i64 d, .int .i64 n] w fun e w' => ∃ g c, e = .returned (.slice (some ⟨g, 0, none⟩) n c) ∧ Sep w' [OI (.slice (some ⟨g, 0, none⟩) n c) (frL d n), KeepA w] := by
  have HU := Lib.hid fun W => upTo_any n W (by omega)
  go_enter Tryz.func71, Tryz.ntmps71
  go_wp2_with (
    go_at_call 76
    with_reducible refine (HU.out _).mono ?_
    rintro e w1 ⟨g, c, rfl, hs⟩
    rw [← frTo_zero d n] at hs
    have HS0 := Lib.hid hs
    clear hs)
  go_loopw [6, 11] (fun _ s8 wr => ∃ k : Nat, k ≤ n ∧ s8 = .int .i64 k ∧ Sep wr [OI (.slice (some ⟨g, 0, none⟩) n c) (frTo d n k), KeepA w]) (fun _ s8 _ => n - (intOf s8).toNat)
  case atStart => exact ⟨0, by omega, rfl, HS0.out⟩
  case round =>
    obtain ⟨k, hk, rfl, hs⟩ := hrel
    have HSX := Lib.hid hs
    clear hs
    by_cases hlt : k < n
    · have hll : n = (frTo d n k).length := (frTo_len hk).symm
      have hf := (show OwnInts 0 wr _ (frTo d n k) from HSX.out.hd).free hll k
      obtain hc0 : wr.cell? ⟨g, k, none⟩ = some (.int .i64 (k : Int)) := by
        have h := (show OwnInts 0 wr _ (frTo d n k) from HSX.out.hd).cell hll (j := k) (by omega)
        have e := frTo_at (d := d) hlt
        rw [List.getD_eq_getElem?_getD, List.getElem?_eq_getElem (by omega)] at e
        simp only [Option.getD_some] at e
        rw [e] at h
        exact h
      have hset := HSX.out.setI hll k ((k : Int) + d)
      rw [frTo_set hlt] at hset
      have HSET := Lib.hid hset
      have hki : (k : Int) < (n : Int) := by omega
      have hwr : IntKind.i64.wrap ((k : Int) + (d : Int)) = (k : Int) + (d : Int) := wrap_id (by omega) (by omega)
      clear hll hset
      go_wp2_with fail
      go_roundw
      case rel => exact ⟨k + 1, by omega, by go_num, HSET.out⟩
      case measure => simp [intOf]; omega
    · have hkn : k = n := by omega
      subst hkn
      have hkk : ¬ (k : Int) < (k : Int) := by omega
      clear hlt
      go_wp2_with fail
      go_ret
      have := HSX.out
      rw [frTo_full] at this
      exact ⟨_, _, rfl, this⟩
theorem cloneT_any (u : Value) (ys : List Int) (w : World) (hu : IntsV w u ys) (hl : ys.length ≤ 1000000) :
    Calls Tryz.prog 69 #[u] w fun e w' => ∃ a c, e = .returned (.slice a ys.length c) ∧ Sep w' [OI (.slice a ys.length c) ys, KeepA w] := by
  have HU := Lib.hid hu
  obtain ⟨ua, ucap, rfl, hx⟩ := hu
  clear hx
  have HS0 := Lib.hid ((Sep.start w).emptyI)
  go_enter Tryz.func69, Tryz.ntmps69
  go_wp2_with (at_builtin; go_loud (refine app_ints rfl _ _ rfl rfl rfl (HU.out.carry (grownBy_alloc _ _ _)) (OwnInts.empty (Nat.le_refl _) rfl) (by simp) (by simp; omega) ?_); intro v' w1 hown' hbel')
  have hs : Sep w1 [OI v' ys, KeepA w] := (Sep.start w).newI (grown_of_below (((Below.refl _ _).alloc (Nat.le_refl _) _).trans hbel')) (by simpa using hown')
  obtain ⟨a, c, rfl⟩ := own_shape (show OwnInts 0 w1 v' ys from hs.hd)
  have HS := Lib.hid hs
  clear hown' hbel' hs
  go_wp2
  go_ret
  exact ⟨a, c, rfl, HS.out⟩
theorem gq4 {w : World} {k : Nat} {x y z u : Value} {t : TypeId} (h : w.heap[k]? = some (.cells #[x, y, z, u] t (0, 0))) :
    w.cell? ⟨k, 0, none⟩ = some x ∧ w.cell? ⟨k, 1, none⟩ = some y ∧ w.cell? ⟨k, 2, none⟩ = some z ∧ w.cell? ⟨k, 3, none⟩ = some u ∧ w.frozen? ⟨k, 0, none⟩ = false ∧ w.frozen? ⟨k, 1, none⟩ = false ∧ w.frozen? ⟨k, 2, none⟩ = false ∧ w.frozen? ⟨k, 3, none⟩ = false :=
  ⟨cell_of_row w k 0 _ _ _ h, cell_of_row w k 1 _ _ _ h, cell_of_row w k 2 _ _ _ h, cell_of_row w k 3 _ _ _ h, frozen_of_row w k 0 _ _ h, frozen_of_row w k 1 _ _ h, frozen_of_row w k 2 _ _ h, frozen_of_row w k 3 _ _ h⟩
/-- The identity's graph. -/
theorem identG_any (n : Nat) (w : World) (hn : n ≤ 12) :
    Calls Tryz.prog 74 #[.int .i64 n] w (OwnG ⟨(n : Int), [], upL n, upL n⟩ w) := by
  have HU := Lib.hid fun W => upTo_any n W (by omega)
  unfold OwnG
  have hs0 := (Sep.start w).boxAt w.heap.size rfl #[.int .i64 0, .slice none 0 0, .slice none 0 0, .slice none 0 0] 30
  have HS0 := Lib.hid hs0
  clear hs0
  go_enter Tryz.func74, Tryz.ntmps74
  go_wp2_with (first
    | (go_at_call 76
       with_reducible refine (HU.out _).mono ?_
       rintro e w3 ⟨g1, c1, rfl, hs⟩
       have HS1 := Lib.hid (HS0.out.graft1 hs OI_own)
       clear hs HS0)
    | (go_at_call 76
       with_reducible refine (HU.out _).mono ?_
       rintro e w4 ⟨g2, c2, rfl, hs⟩
       have hs2 := Sep.blk (A := [_, _]) (B := [_]) (HS1.out.graft1 hs OI_own)
       obtain ⟨y0, y1, y2, y3, f0, f1, f2, f3⟩ := gq4 hs2.hd
       have hsz := (((hs2.setB 0 (.int .i64 n)).setB 1 (.slice none 0 0)).setB 2 (.slice (some ⟨g1, 0, none⟩) n c1)).setB 3 (.slice (some ⟨g2, 0, none⟩) n c2)
       obtain ⟨u0, u1, u2, u3, _⟩ := gq4 hsz.hd
       have HSZ := Lib.hid hsz
       clear hs hs2 hsz))
  refine bodyPost_ret_by (v := .agg #[.int .i64 n, .slice none 0 0, .slice (some ⟨g1, 0, none⟩) n c1, .slice (some ⟨g2, 0, none⟩) n c2]) ?_ rfl ⟨_, [], _, _, rfl, rfl, ?_⟩
  · simp [results, go_sem, *]
  · exact Sep.bag (l := [OR edgeE nilS []]) (Sep.nilR edgeE HSZ.out.tl.s2)
end Go.Proofs.YtjagjhchnpmngaaGreatDoor

/-
  The type of a list of nodes, in the program. Conditions: lengths are small.
-/
namespace Go.Proofs.YtjagjhchnpmngaaGreatDoor
open Go.RowKit
set_option linter.unusedVariables false
set_option maxRecDepth 100000

theorem tmB_no {ns : List Nd} {i : Nat} {S : List Tr} (hi : i < ns.length) (h : prun ns i = some S) (hn : pstep S (ns.getD i nd0) = none) : tmB ns = false := by
  have h1 : prun ns (i + 1) = none := by rw [prun_succ h]; exact hn
  unfold tmB
  rw [prun_stop h1 ns.length hi, Bool.and_false]
theorem tmB_len {ns : List Nd} (h : ¬ (1 ≤ ns.length ∧ ns.length ≤ 400)) : tmB ns = false := by
  unfold tmB
  rw [decide_eq_false h, Bool.false_and]
theorem pstep_leaf {S : List Tr} {n : Nd} (h : ¬ (n.k = 15 ∨ n.k = 16)) : pstep S n = if lfB n = true then some (.leaf n :: S) else none := by
  unfold pstep
  rw [if_neg h]
theorem pstep_no {S : List Tr} {n : Nd} (h : n.k = 15 ∨ n.k = 16) (h2 : n.v ≠ 0 ∨ n.s ≠ noS ∨ S.length < 2) : pstep S n = none := by
  unfold pstep
  rw [if_pos h]
  by_cases h3 : n.v = 0 ∧ n.s = noS
  · rw [if_pos h3]
    match S, h2 with
    | [], _ => rfl
    | [_], _ => rfl
    | _ :: _ :: _, h2 =>
      rcases h2 with h2 | h2 | h2
      · exact absurd h3.1 h2
      · exact absurd h3.2 h2
      · simp only [List.length_cons] at h2; omega
  · rw [if_neg h3]
theorem pstep_seq {A B : Tr} {R : List Tr} {n : Nd} (h : n.k = 15) (hv : n.v = 0) (hs : n.s = noS) : pstep (B :: A :: R) n = if A.ty.2 = B.ty.1 then some (.seq A B :: R) else none := by
  unfold pstep
  rw [if_pos (Or.inl h), if_pos ⟨hv, hs⟩]
  simp only
  rw [if_pos h]
theorem pstep_par {A B : Tr} {R : List Tr} {n : Nd} (h : n.k = 16) (hv : n.v = 0) (hs : n.s = noS) : pstep (B :: A :: R) n = if A.ty.1 + B.ty.1 ≤ 12 ∧ A.ty.2 + B.ty.2 ≤ 12 then some (.par A B :: R) else none := by
  unfold pstep
  rw [if_pos (Or.inr h), if_pos ⟨hv, hs⟩]
  simp only
  rw [if_neg (by omega)]
/-- The type of a term. -/
def tmT (ns : List Nd) : Int × Int := match prun ns ns.length with
  | some (t :: _) => t.ty
  | _ => (0, 0)
theorem tm_end {ns : List Nd} {S : List Tr} (h1 : 1 ≤ ns.length) (h2 : ns.length ≤ 400) (h : prun ns ns.length = some S) : ∃ T R, S = T :: R ∧ tmB ns = decide (S.length = 1) ∧ tmT ns = T.ty := by
  have hv := prun_inv _ _ (Nat.le_refl _) h
  match S, h with
  | [], h =>
    have := hv.nd
    rw [List.take_length] at this
    rw [this] at h1
    simp at h1
  | T :: R, h =>
    refine ⟨T, R, rfl, ?_, ?_⟩
    · unfold tmB
      rw [decide_eq_true ⟨h1, h2⟩, h, Bool.true_and]
      match R with
      | [] => rfl
      | _ :: _ => simp
    · unfold tmT; rw [h]
def styL (S : List Tr) : List (Int × Int) := (S.map Tr.ty).reverse
theorem styL_len (S : List Tr) : (styL S).length = S.length := by simp [styL]
theorem styL_push (T : Tr) (S : List Tr) : styL (T :: S) = styL S ++ [T.ty] := by simp [styL]
theorem styL_two (A B : Tr) (R : List Tr) : styL (B :: A :: R) = styL R ++ [A.ty, B.ty] := by simp [styL]
theorem two_le {S : List Tr} (h : ¬ S.length < 2) : ∃ A B R, S = B :: A :: R := by
  match S, h with
  | [], h => simp at h
  | [_], h => simp at h
  | B :: A :: R, _ => exact ⟨A, B, R, rfl⟩
theorem prun_cnt {ns : List Nd} : ∀ (i : Nat) (S : List Tr), prun ns i = some S → S.length ≤ i := by
  intro i
  induction i with
  | zero => intro S h; have : S = [] := (Option.some.inj h).symm; rw [this]; simp
  | succ i ih =>
    intro S h
    obtain ⟨P, hP⟩ := prun_back h (Nat.le_succ i)
    have := ih P hP
    rw [prun_succ hP] at h
    rcases pstep_cases h with ⟨_, _, rfl⟩ | ⟨A, B, R, rfl, _, _, rfl⟩ | ⟨A, B, R, rfl, _, _, rfl⟩ <;> simp only [List.length_cons] at this ⊢ <;> omega
theorem fit_any (a c : Int) (w : World) : Calls Tryz.prog 105 #[.agg #[.int .i64 a, .int .i64 c]] w fun e w' => e = .returned (.bool (decide (a ≤ 12 ∧ c ≤ 12))) ∧ w.grownBy w' none := by
  have HS0 := Lib.hid ((Sep.start w).boxAt w.heap.size rfl #[.int .i64 a, .int .i64 c] 95)
  obtain ⟨x0, x1, _, _⟩ := bw2 HS0.out.hd
  by_cases h1 : a ≤ 12
  · by_cases h2 : c ≤ 12
    · rw [decide_eq_true ⟨h1, h2⟩]
      go_enter Tryz.func105, Tryz.ntmps105
      go_wp2_with fail
      go_ret
      exact ⟨rfl, HS0.out.tl.hd⟩
    · rw [decide_eq_false (fun h => h2 h.2)]
      go_enter Tryz.func105, Tryz.ntmps105
      go_wp2_with fail
      go_ret
      exact ⟨rfl, HS0.out.tl.hd⟩
  · rw [decide_eq_false (fun h => h1 h.1)]
    go_enter Tryz.func105, Tryz.ntmps105
    go_wp2_with fail
    go_ret
    exact ⟨rfl, HS0.out.tl.hd⟩
set_option maxHeartbeats 2000000 in
theorem joinW_seq (a1 a2 b1 b2 : Int) (w : World) : Calls Tryz.prog 104 #[.int .i64 15, .agg #[.int .i64 a1, .int .i64 a2], .agg #[.int .i64 b1, .int .i64 b2]] w (TyR (decide (a2 = b1)) ((a1, b2)) w) := by
  have hs0 := (((Sep.start w).boxAt w.heap.size rfl #[.int .i64 a1, .int .i64 a2] 95).boxAt (w.heap.size + 1) (by simp) #[.int .i64 b1, .int .i64 b2] 95).boxAt (w.heap.size + 2) (by simp) #[.int .i64 0, .int .i64 0] 95
  have HS0 := Lib.hid hs0
  obtain ⟨x0, x1, _, _⟩ := bw2 hs0.tl.tl.hd
  obtain ⟨y0, y1, _, _⟩ := bw2 hs0.tl.hd
  clear hs0
  have HBM := Lib.hid fun (W1 : World) (L : List Asrt) (h : Sep W1 L) (h1 : BxA w.heap.size #[.int .i64 a1, .int .i64 a2] 95 ∈ L) (h2 : BxA (w.heap.size + 1) #[.int .i64 b1, .int .i64 b2] 95 ∈ L) => show (W1.cell? ⟨w.heap.size, 0, none⟩ = some (.int .i64 a1) ∧ W1.cell? ⟨w.heap.size, 1, none⟩ = some (.int .i64 a2)) ∧ W1.cell? ⟨w.heap.size + 1, 0, none⟩ = some (.int .i64 b1) ∧ W1.cell? ⟨w.heap.size + 1, 1, none⟩ = some (.int .i64 b2) from by
    obtain ⟨p0, p1, _, _⟩ := bw2 (show W1.heap[w.heap.size]? = some (.cells #[.int .i64 a1, .int .i64 a2] 95 (0, 0)) from Sep.all h _ h1)
    obtain ⟨r0, r1, _, _⟩ := bw2 (show W1.heap[w.heap.size + 1]? = some (.cells #[.int .i64 b1, .int .i64 b2] 95 (0, 0)) from Sep.all h _ h2)
    exact ⟨⟨p0, p1⟩, r0, r1⟩
  have HD := Lib.hid (show (a2 == b1) = decide (a2 = b1) from by by_cases h : a2 = b1 <;> simp [h])
  have hd := HD.out
  generalize decide (a2 = b1) = b at *
  go_enter Tryz.func104, Tryz.ntmps104
  go_upto_region 2 with fail
  clear x0 x1 y0 y1
  generalize ((w.alloc (.cells #[.int .i64 a1, .int .i64 a2] 95)).alloc (.cells #[.int .i64 b1, .int .i64 b2] 95)).alloc (.cells #[.int .i64 0, .int .i64 0] 95) = w4 at *
  have HSD := Lib.hid HS0.out.dr
  refine AnyL.start (fun W1 => (W1.cell? ⟨w.heap.size, 0, none⟩ = some (.int .i64 a1) ∧ W1.cell? ⟨w.heap.size, 1, none⟩ = some (.int .i64 a2)) ∧ W1.cell? ⟨w.heap.size + 1, 0, none⟩ = some (.int .i64 b1) ∧ W1.cell? ⟨w.heap.size + 1, 1, none⟩ = some (.int .i64 b2)) (fun _ => True) 99 (by kernel_rfl) ?_
  refine AnyL.take (i := 0) (v := ?vx21) (by rfl) (by kernel_rfl) (by kernel_rfl) (by kernel_rfl) rfl (by exact fun _ _ _ h => h) (by rfl) ?hyx21 (by exact ⟨HBM.out _ _ HSD.out (by simp) (by simp), fun _ => trivial⟩) ?restx21
  case hyx21 => intro W hSW; (try dsimp only at hSW); first | (go_simp; done) | (go_simp; with_reducible rfl)
  try simp only [Act.put, List.setIfInBounds_toArray, List.set_cons_zero, List.set_cons_succ]
  refine AnyL.take (i := 1) (v := ?vx22) (by rfl) (by kernel_rfl) (by kernel_rfl) (by kernel_rfl) rfl (by exact fun _ _ _ h => h) (by rfl) ?hyx22 (by exact ⟨HBM.out _ _ HSD.out (by simp) (by simp), fun _ => trivial⟩) ?restx22
  case hyx22 => intro W hSW; (try dsimp only at hSW); first | (go_simp; done) | (go_simp; with_reducible rfl)
  try simp only [Act.put, List.setIfInBounds_toArray, List.set_cons_zero, List.set_cons_succ]
  refine AnyL.take (i := 2) (v := ?vx23) (by rfl) (by kernel_rfl) (by kernel_rfl) (by kernel_rfl) rfl (by exact fun _ _ _ h => h) (by rfl) ?hyx23 (by exact ⟨HBM.out _ _ HSD.out (by simp) (by simp), fun _ => trivial⟩) ?restx23
  case hyx23 => intro W hSW; (try dsimp only at hSW); first | (go_simp; done) | (go_simp; with_reducible rfl)
  try simp only [Act.put, List.setIfInBounds_toArray, List.set_cons_zero, List.set_cons_succ]
  refine AnyL.take (i := 3) (v := ?vx24) (by rfl) (by kernel_rfl) (by kernel_rfl) (by kernel_rfl) rfl (by exact fun _ _ _ h => h) (by rfl) ?hyx24 (by exact ⟨HBM.out _ _ HSD.out (by simp) (by simp), fun _ => trivial⟩) ?restx24
  case hyx24 => intro W hSW; (try dsimp only at hSW); first | (go_simp; done) | (go_simp; with_reducible rfl)
  try simp only [Act.put, List.setIfInBounds_toArray, List.set_cons_zero, List.set_cons_succ]
  refine AnyL.take (i := 4) (v := ?vx25) (by rfl) (by kernel_rfl) (by kernel_rfl) (by kernel_rfl) rfl (by exact fun _ _ _ h => h) (by rfl) ?hyx25 (by exact ⟨HBM.out _ _ HSD.out (by simp) (by simp), fun _ => trivial⟩) ?restx25
  case hyx25 => intro W hSW; (try dsimp only at hSW); first | (go_simp; done) | (go_simp; with_reducible rfl)
  try simp only [Act.put, List.setIfInBounds_toArray, List.set_cons_zero, List.set_cons_succ]
  refine AnyL.take (i := 5) (v := ?vx26) (by rfl) (by kernel_rfl) (by kernel_rfl) (by kernel_rfl) rfl (by exact fun _ _ _ h => h) (by rfl) ?hyx26 (by exact ⟨HBM.out _ _ HSD.out (by simp) (by simp), fun _ => trivial⟩) ?restx26
  case hyx26 => intro W hSW; (try dsimp only at hSW); first | (go_simp; done) | (go_simp; with_reducible rfl)
  try simp only [Act.put, List.setIfInBounds_toArray, List.set_cons_zero, List.set_cons_succ]
  refine AnyL.take (i := 6) (v := ?vx27) (by rfl) (by kernel_rfl) (by kernel_rfl) (by kernel_rfl) rfl (by exact fun _ _ _ h => h) (by rfl) ?hyx27 (by exact ⟨HBM.out _ _ HSD.out (by simp) (by simp), fun _ => trivial⟩) ?restx27
  case hyx27 => intro W hSW; (try dsimp only at hSW); first | (go_simp; done) | (go_simp; with_reducible rfl)
  try simp only [Act.put, List.setIfInBounds_toArray, List.set_cons_zero, List.set_cons_succ]
  refine AnyL.take (i := 7) (v := ?vx28) (by rfl) (by kernel_rfl) (by kernel_rfl) (by kernel_rfl) rfl (by exact fun _ _ _ h => h) (by rfl) ?hyx28 (by exact ⟨HBM.out _ _ HSD.out (by simp) (by simp), fun _ => trivial⟩) ?restx28
  case hyx28 => intro W hSW; (try dsimp only at hSW); first | (go_simp; done) | (go_simp; with_reducible rfl)
  try simp only [Act.put, List.setIfInBounds_toArray, List.set_cons_zero, List.set_cons_succ]
  refine AnyL.take (i := 8) (v := ?vx29) (by rfl) (by kernel_rfl) (by kernel_rfl) (by kernel_rfl) rfl (by exact fun _ _ _ h => h) (by rfl) ?hyx29 (by exact ⟨HBM.out _ _ HSD.out (by simp) (by simp), fun _ => trivial⟩) ?restx29
  case hyx29 => intro W hSW; (try dsimp only at hSW); first | (go_simp; done) | (go_simp; with_reducible rfl)
  try simp only [Act.put, List.setIfInBounds_toArray, List.set_cons_zero, List.set_cons_succ]
  refine AnyL.take (i := 9) (v := ?vx30) (by rfl) (by kernel_rfl) (by kernel_rfl) (by kernel_rfl) rfl (by exact fun _ _ _ h => h) (by rfl) ?hyx30 (by exact ⟨HBM.out _ _ HSD.out (by simp) (by simp), fun _ => trivial⟩) ?restx30
  case hyx30 => intro W hSW; (try dsimp only at hSW); first | (go_simp; done) | (go_simp; with_reducible rfl)
  try simp only [Act.put, List.setIfInBounds_toArray, List.set_cons_zero, List.set_cons_succ]
  obtain ⟨y0, y1, f0, f1⟩ := bw2 HS0.out.hd
  have HS5 := Lib.hid ((HSD.out.setB 0 (.int .i64 a1)).setB 1 (.int .i64 b2))
  refine AnyL.step (i := 10) (by kernel_rfl) (by rfl) (fun K hK => ?_)
  go_simp
  refine hK.out _ ((w4.drew.setCell ⟨w.heap.size + 2, 0, none⟩ (.int .i64 a1)).setCell ⟨w.heap.size + 2, 1, none⟩ (.int .i64 b2)) (by exact HBM.out _ _ HS5.out (by simp) (by simp)) (by exact fun _ => trivial) ?_
  clear hK K
  try simp only [Act.put, List.setIfInBounds_toArray, List.set_cons_zero, List.set_cons_succ]
  clear y0 y1 f0 f1
  refine AnyL.take (i := 11) (v := ?vx31) (by rfl) (by kernel_rfl) (by kernel_rfl) (by kernel_rfl) rfl (by exact fun _ _ _ h => h) (by rfl) ?hyx31 (by exact ⟨HBM.out _ _ HS5.out (by simp) (by simp), fun _ => trivial⟩) ?restx31
  case hyx31 => intro W hSW; (try dsimp only at hSW); first | (go_simp; done) | (go_simp; with_reducible rfl)
  try simp only [Act.put, List.setIfInBounds_toArray, List.set_cons_zero, List.set_cons_succ]
  refine AnyL.done (by kernel_rfl) ?_ _
  generalize ((w4.drew.setCell ⟨w.heap.size + 2, 0, none⟩ (.int .i64 a1)).setCell ⟨w.heap.size + 2, 1, none⟩ (.int .i64 b2)) = w9 at *
  obtain ⟨y0, y1, _, _⟩ := bw2 HS5.out.hd
  have HKF := Lib.hid (show w.grownBy _ none from HS5.out.tl.tl.tl.hd)
  go_wp2_with fail
  refine bodyPost_ret_by (v := .tuple #[.agg #[.int .i64 a1, .int .i64 b2], .bool b]) ?_ rfl ⟨⟨_, rfl, fun _ => rfl⟩, HKF.out⟩
  simp [results, go_sem, *]
set_option maxHeartbeats 2000000 in
theorem joinW_par (a1 a2 b1 b2 : Int) (w : World) (ha : (0 ≤ a1 ∧ a1 ≤ 12) ∧ 0 ≤ a2 ∧ a2 ≤ 12) (hb : (0 ≤ b1 ∧ b1 ≤ 12) ∧ 0 ≤ b2 ∧ b2 ≤ 12) : Calls Tryz.prog 104 #[.int .i64 16, .agg #[.int .i64 a1, .int .i64 a2], .agg #[.int .i64 b1, .int .i64 b2]] w (TyR (decide (a1 + b1 ≤ 12 ∧ a2 + b2 ≤ 12)) ((a1 + b1, a2 + b2)) w) := by
  obtain ⟨⟨p1, p2⟩, p3, p4⟩ := ha
  obtain ⟨⟨p5, p6⟩, p7, p8⟩ := hb
  have hs0 := (((Sep.start w).boxAt w.heap.size rfl #[.int .i64 a1, .int .i64 a2] 95).boxAt (w.heap.size + 1) (by simp) #[.int .i64 b1, .int .i64 b2] 95).boxAt (w.heap.size + 2) (by simp) #[.int .i64 0, .int .i64 0] 95
  have HS0 := Lib.hid hs0
  obtain ⟨x0, x1, _, _⟩ := bw2 hs0.tl.tl.hd
  obtain ⟨y0, y1, _, _⟩ := bw2 hs0.tl.hd
  clear hs0
  have HF := Lib.hid fun W => fit_any (a1 + b1) (a2 + b2) W
  have e1 : IntKind.i64.wrap (a1 + b1) = a1 + b1 := wrap_id (by omega) (by omega)
  have e2 : IntKind.i64.wrap (a2 + b2) = a2 + b2 := wrap_id (by omega) (by omega)
  have HSB := Lib.hid (HS0.out.boxAt (w.heap.size + 3) (by simp) #[.int .i64 (a1 + b1), .int .i64 (a2 + b2)] 95)
  generalize decide (a1 + b1 ≤ 12 ∧ a2 + b2 ≤ 12) = b at *
  go_enter Tryz.func104, Tryz.ntmps104
  go_upto_region 4 with fail
  clear x0 x1 y0 y1
  generalize (((w.alloc (.cells #[.int .i64 a1, .int .i64 a2] 95)).alloc (.cells #[.int .i64 b1, .int .i64 b2] 95)).alloc (.cells #[.int .i64 0, .int .i64 0] 95)).alloc (.cells #[.int .i64 (a1 + b1), .int .i64 (a2 + b2)] 95) = w4 at *
  have HSD := Lib.hid HSB.out.dr
  obtain ⟨x0, x1, _, _⟩ := bw2 HSD.out.hd
  have X0 := Lib.hid x0; have X1 := Lib.hid x1
  clear x0 x1
  refine AnyL.start (fun W1 => W1.cell? ⟨w.heap.size + 3, 0, none⟩ = some (.int .i64 (a1 + b1)) ∧ W1.cell? ⟨w.heap.size + 3, 1, none⟩ = some (.int .i64 (a2 + b2))) (fun _ => True) 99 (by kernel_rfl) ?_
  refine AnyL.take (i := 0) (v := ?vx32) (by rfl) (by kernel_rfl) (by kernel_rfl) (by kernel_rfl) rfl (by exact fun _ _ _ h => h) (by rfl) ?hyx32 (by exact ⟨⟨X0.out, X1.out⟩, fun _ => trivial⟩) ?restx32
  case hyx32 => intro W hSW; (try dsimp only at hSW); first | (go_simp; done) | (go_simp; with_reducible rfl)
  try simp only [Act.put, List.setIfInBounds_toArray, List.set_cons_zero, List.set_cons_succ]
  refine AnyL.take (i := 1) (v := ?vx33) (by rfl) (by kernel_rfl) (by kernel_rfl) (by kernel_rfl) rfl (by exact fun _ _ _ h => h) (by rfl) ?hyx33 (by exact ⟨⟨X0.out, X1.out⟩, fun _ => trivial⟩) ?restx33
  case hyx33 => intro W hSW; (try dsimp only at hSW); first | (go_simp; done) | (go_simp; with_reducible rfl)
  try simp only [Act.put, List.setIfInBounds_toArray, List.set_cons_zero, List.set_cons_succ]
  refine AnyL.step (i := 2) (by kernel_rfl) (by rfl) (fun K hK => ?_)
  go_simp
  go_at_call 105
  with_reducible refine (HF.out _).mono ?_
  rintro e w5 ⟨rfl, hg⟩
  have HS4 := Lib.hid (HSD.out.grown hg)
  obtain ⟨x0, x1, _, _⟩ := bw2 HS4.out.hd
  have X2 := Lib.hid x0; have X3 := Lib.hid x1
  clear hg x0 x1
  refine hK.out _ _ (by exact ⟨X2.out, X3.out⟩) (by exact fun _ => trivial) ?_
  clear hK K
  try simp only [Act.put, List.setIfInBounds_toArray, List.set_cons_zero, List.set_cons_succ]
  have hsq := Sep.blk (A := [_]) (B := [_]) HS4.out
  obtain ⟨y0, y1, f0, f1⟩ := bw2 hsq.hd
  have HS5 := Lib.hid (Sep.blk (A := [_]) (B := [_]) ((hsq.setB 0 (.int .i64 (a1 + b1))).setB 1 (.int .i64 (a2 + b2))))
  obtain ⟨x0, x1, _, _⟩ := bw2 HS5.out.hd
  have X4 := Lib.hid x0; have X5 := Lib.hid x1
  clear hsq x0 x1
  refine AnyL.step (i := 3) (by kernel_rfl) (by rfl) (fun K hK => ?_)
  go_simp
  refine hK.out _ ((w5.setCell ⟨w.heap.size + 2, 0, none⟩ (.int .i64 (a1 + b1))).setCell ⟨w.heap.size + 2, 1, none⟩ (.int .i64 (a2 + b2))) (by exact ⟨X4.out, X5.out⟩) (by exact fun _ => trivial) ?_
  clear hK K
  try simp only [Act.put, List.setIfInBounds_toArray, List.set_cons_zero, List.set_cons_succ]
  clear y0 y1 f0 f1
  refine AnyL.take (i := 4) (v := ?vx34) (by rfl) (by kernel_rfl) (by kernel_rfl) (by kernel_rfl) rfl (by exact fun _ _ _ h => h) (by rfl) ?hyx34 (by exact ⟨⟨X4.out, X5.out⟩, fun _ => trivial⟩) ?restx34
  case hyx34 => intro W hSW; (try dsimp only at hSW); first | (go_simp; done) | (go_simp; with_reducible rfl)
  try simp only [Act.put, List.setIfInBounds_toArray, List.set_cons_zero, List.set_cons_succ]
  refine AnyL.done (by kernel_rfl) ?_ _
  generalize ((w5.setCell ⟨w.heap.size + 2, 0, none⟩ (.int .i64 (a1 + b1))).setCell ⟨w.heap.size + 2, 1, none⟩ (.int .i64 (a2 + b2))) = w9 at *
  obtain ⟨y0, y1, _, _⟩ := bw2 HS5.out.tl.hd
  have HKF := Lib.hid (show w.grownBy _ none from HS5.out.tl.tl.tl.tl.hd)
  go_wp2_with fail
  refine bodyPost_ret_by (v := .tuple #[.agg #[.int .i64 (a1 + b1), .int .i64 (a2 + b2)], .bool b]) ?_ rfl ⟨⟨_, rfl, fun _ => rfl⟩, HKF.out⟩
  simp [results, go_sem, *]
end Go.Proofs.YtjagjhchnpmngaaGreatDoor

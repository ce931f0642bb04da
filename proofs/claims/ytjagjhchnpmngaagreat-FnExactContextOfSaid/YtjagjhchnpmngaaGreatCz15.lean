/-
 Wires made one, in the reference: the graph alone. Conditions: those of hgGlued.
-/
import Derived.Test.YtjagjhchnpmngaaGreatCz05
import Derived.Test.YtjagjhchnpmngaaGreatCz04
import Derived.Test.YtjagjhchnpmngaaGreatCz03
import Derived.Test.YtjagjhchnpmngaaGreatCz02
import Derived.Test.YtjagjhchnpmngaaGreatCz01
import Derived.Test.YtjagjhchnpmngaaGreatCz00
import Derived.Test.YtjagjhchnpmngaaGreatCz14
import Derived.Test.YtjagjhchnpmngaaGreatCz07
import Derived.Test.YtjagjhchnpmngaaGreatCz09
import Derived.Test.YtjagjhchnpmngaaGreatCz13
import Derived.Test.YtjagjhchnpmngaaGreatCz06
set_option linter.unusedVariables false
set_option linter.unusedSimpArgs false
set_option maxRecDepth 100000
namespace Go.Proofs.YtjagjhchnpmngaaGreat
open Go.RowKit
def GluedG (m : Nat) (ps : List (Int × Int)) (g : Gr) (w : World) (e : Ending) (w' : World) : Prop :=
 ∃ u0 xs u1 u2, e = .returned (grV (glueG (classOf m ps) g).n u0 u1 u2) ∧ eds xs = (glueG (classOf m ps) g).es ∧ Sep w' [OE u0 xs, OI u1 (glueG (classOf m ps) g).i, OI u2 (glueG (classOf m ps) g).o, KeepA w]
structure GlueOk (m : Nat) (ps : List (Int × Int)) (g : Gr) : Prop where
 hm : g.n = m
 m1 : m ≤ 400
 e : g.es.length ≤ 200
 i : g.i.length ≤ 40
 o : g.o.length ≤ 40
 le : ∀ e ∈ g.es, e.i.length ≤ 2 ∧ e.o.length ≤ 2
 w : ∀ x ∈ wiresL g, 0 ≤ x ∧ x < (m : Int)
 p : ∀ p ∈ ps, (0 ≤ p.1 ∧ p.1 < (m : Int)) ∧ 0 ≤ p.2 ∧ p.2 < (m : Int)
 l : ps.length ≤ 100
set_option maxHeartbeats 1000000 in
theorem hgGlue_any (ev iv ov : Value) (g : Gr) (m : Nat) (av bv : Value) (ps : List (Int × Int)) (w : World) (he : RdE edgeE w ev g.es) (hi : IntsV w iv g.i) (ho : IntsV w ov g.o) (ha : IntsV w av (ps.map Prod.fst)) (hb : IntsV w bv (ps.map Prod.snd)) (hk : GlueOk m ps g) :
 Calls Tryz.prog 32 #[grV g.n ev iv ov, av, bv] w (GluedG m ps g w) := by
 have HG := qd fun W (h : w.grownBy W none) => hgGlued_any ev iv ov g m av bv ps W (he.carry h) (hi.carry h) (ho.carry h) (ha.carry h) (hb.carry h) hk.hm hk.m1 hk.e hk.i hk.o hk.le hk.w hk.p hk.l
 unfold GluedG
 generalize glueG (classOf m ps) g = G at *
 clear hk ha hb
 unfold grV at *
 obtain ⟨ea, ec, rfl⟩ := he.shape
 obtain ⟨ia, ic, rfl⟩ := hi.shape
 obtain ⟨oa, oc, rfl⟩ := ho.shape
 clear he hi ho
 generalize g.es.length = m0 at *
 generalize g.i.length = n1 at *
 generalize g.o.length = n2 at *
 generalize g.n = gn at *
 have hs0 := ((Sep.start w).box #[.int .i64 gn, .slice ea m0 ec, .slice ia n1 ic, .slice oa n2 oc] 38).box #[.int .i64 0, .slice none 0 0, .slice none 0 0, .slice none 0 0] 38
 have e1 : (w.alloc (.cells #[.int .i64 gn, .slice ea m0 ec, .slice ia n1 ic, .slice oa n2 oc] 38)).heap.size = w.heap.size + 1 := by simp
 rw [e1] at hs0
 obtain ⟨x0, x1, x2, x3, _⟩ := bq4 hs0.tl.hd
 have HC := qd (HG.out _ (show w.grownBy _ none from hs0.tl.tl.hd))
 have HS0 := qd hs0
 clear hs0 e1 HG
 go_enter Tryz.func32, Tryz.ntmps32
 go_upto_region 2 with (
  go_at_call 63
  with_reducible refine HC.out.mono ?_
  rintro e w3 ⟨u0, xs, u1, u2, t, rfl, hxs, hsg⟩
  have HXS := qd hxs
  obtain ⟨s0, r0, rfl⟩ := OE.shape hsg.hd
  obtain ⟨s1, r1, rfl⟩ := own_shape hsg.tl.hd
  obtain ⟨s2, r2, rfl⟩ := own_shape hsg.tl.tl.hd
  have hs2 := (HS0.out.graft3 hsg OE_own OI_own OI_own).box #[.int .i64 G.n, .slice s0 xs.length r0, .slice s1 G.i.length r1, .slice s2 G.o.length r2] 38
  have HS2 := qd hs2
  clear hsg hs2 hxs)
 have hs2 := HS2.out
 clear HS2 HS0 HC
 generalize w3.alloc (.cells #[.int .i64 G.n, .slice s0 xs.length r0, .slice s1 G.i.length r1, .slice s2 G.o.length r2] 38) = w7 at *
 clear x0 x1 x2 x3
 obtain ⟨k0, k1, k2, k3, _⟩ := bq4 hs2.hd
 have hs3 := hs2.s5
 obtain ⟨a0, a1, a2, a3, b0, b1, b2, b3⟩ := bq4 hs3.hd
 have hs4 := (((hs3.setB 0 (.int .i64 G.n)).setB 1 (.slice s0 xs.length r0)).setB 2 (.slice s1 G.i.length r1)).setB 3 (.slice s2 G.o.length r2)
 obtain ⟨c0, c1, c2, c3, _⟩ := bq4 hs4.hd
 have HSF := qd (hs4.tl.tl.under (fun h => h.under (fun h => h.under (fun h => h.tl) (by simp +contextual)) (by simp +contextual)) (by simp +contextual))
 clear hs2 hs3 hs4
 go_wp2_with fail
 refine bodyPost_ret_by (v := .agg #[.int .i64 G.n, .slice s0 xs.length r0, .slice s1 G.i.length r1, .slice s2 G.o.length r2]) ?_ rfl ⟨_, xs, _, _, rfl, HXS.out, HSF.out⟩
 simp [results, go_sem, *]
def frL (d n : Nat) : List Int := (List.range n).map fun i : Nat => ((d + i : Nat) : Int)
theorem frL_len (d n : Nat) : (frL d n).length = n := by simp [frL]
theorem frL_at {d n i : Nat} (h : i < n) : (frL d n).getD i 0 = ((d + i : Nat) : Int) := by
 unfold frL
 rw [List.getD_eq_getElem?_getD, List.getElem?_map, List.getElem?_range h]
 rfl
theorem ofL_fr {d n : Nat} {x : Int} (h0 : 0 ≤ x) (h1 : x < (n : Int)) : ofL (frL d n) x = (d : Int) + x := by
 unfold ofL
 rw [frL_at (by omega)]
 omega
theorem mem_frL {d n : Nat} {x : Int} : x ∈ frL d n ↔ (d : Int) ≤ x ∧ x < (d : Int) + n := by
 unfold frL
 rw [List.mem_map]
 constructor
 ·rintro ⟨i, hi, rfl⟩
  have := List.mem_range.1 hi
  omega
 ·rintro ⟨h1, h2⟩
  exact ⟨(x - d).toNat, List.mem_range.2 (by omega), by omega⟩
theorem mem_upL {n : Nat} {x : Int} : x ∈ upL n ↔ 0 ≤ x ∧ x < (n : Int) := by
 unfold upL
 rw [List.mem_map]
 constructor
 ·rintro ⟨i, hi, rfl⟩
  have := List.mem_range.1 hi
  omega
 ·rintro ⟨h1, h2⟩
  exact ⟨x.toNat, List.mem_range.2 (by omega), by omega⟩
def shL (a b : Gr) : List Int := frL a.n.toNat b.n.toNat
def seqI (a b : Gr) : Gr := ⟨a.n + b.n, a.es ++ b.es.map (mapE (shL a b)), a.i, b.o.map (ofL (shL a b))⟩
def seqP (a b : Gr) : List (Int × Int) := a.o.zip (b.i.map (ofL (shL a b)))
def seqG (a b : Gr) : Gr := glueG (classOf (a.n.toNat + b.n.toNat) (seqP a b)) (seqI a b)
def parG (a b : Gr) : Gr := ⟨a.n + b.n, a.es ++ b.es.map (mapE (shL a b)), a.i ++ b.i.map (ofL (shL a b)), a.o ++ b.o.map (ofL (shL a b))⟩
theorem shL_rng {a b : Gr} {n m : Nat} (ha : a.n = n) (hb : b.n = m) {x : Int} (h0 : 0 ≤ x) (h1 : x < (m : Int)) : 0 ≤ ofL (shL a b) x ∧ ofL (shL a b) x < ((n + m : Nat) : Int) := by
 unfold shL
 rw [ha, hb, Int.toNat_natCast, Int.toNat_natCast, ofL_fr h0 h1]
 omega
theorem seq_fst {a b : Gr} (h : a.o.length = b.i.length) : (seqP a b).map Prod.fst = a.o := by
 unfold seqP
 rw [List.map_fst_zip (by rw [List.length_map]; omega)]
theorem seq_snd {a b : Gr} (h : a.o.length = b.i.length) : (seqP a b).map Prod.snd = b.i.map (ofL (shL a b)) := by
 unfold seqP
 rw [List.map_snd_zip (by rw [List.length_map]; omega)]
theorem mem_wiresG {g : Gr} {x : Int} : x ∈ wiresL g ↔ x ∈ g.i ∨ x ∈ g.o ∨ ∃ e ∈ g.es, x ∈ e.i ∨ x ∈ e.o := by
 unfold wiresL wiresE
 simp only [List.mem_append, List.mem_flatMap]
theorem seq_ok {a b : Gr} (ha : grB a = true) (hb : grB b = true) {n m : Nat} (hn : a.n = n) (hm : b.n = m) (hl : a.o.length = b.i.length) : GlueOk (n + m) (seqP a b) (seqI a b) := by
 obtain ⟨n', hn', a1, a2, a3, a4, a5, a6, _⟩ := grB_n ha
 obtain ⟨m', hm', b1, b2, b3, b4, b5, b6, _⟩ := grB_n hb
 have e1 : n' = n := by omega
 have e2 : m' = m := by omega
 subst e1 e2
 have ra := rngB_iff.1 a5
 have rb := rngB_iff.1 b5
 rw [hn] at ra
 rw [hm] at rb
 refine ⟨by show a.n + b.n = _; omega, by omega, ?_, ?_, ?_, ?_, ?_, ?_, ?_⟩
 ·show (a.es ++ _).length ≤ _
  rw [List.length_append, List.length_map]; omega
 ·show a.i.length ≤ _; omega
 ·show (b.o.map _).length ≤ _; rw [List.length_map]; omega
 ·intro e he
  rcases List.mem_append.1 (show e ∈ a.es ++ b.es.map (mapE (shL a b)) from he) with he | he
  ·exact a6 e he
  ·obtain ⟨e', he', rfl⟩ := List.mem_map.1 he
   have := b6 e' he'
   simp only [mapE, List.length_map]
   exact this
 ·intro x hx
  rcases mem_wiresG.1 hx with hx | hx | ⟨e, he, hx⟩
  ·have := ra x (mem_wiresG.2 (Or.inl hx)); omega
  ·obtain ⟨y, hy, rfl⟩ := List.mem_map.1 (show x ∈ b.o.map _ from hx)
   have := rb y (mem_wiresG.2 (Or.inr (Or.inl hy)))
   exact shL_rng hn hm this.1 this.2
  ·rcases List.mem_append.1 (show e ∈ a.es ++ b.es.map (mapE (shL a b)) from he) with he | he
   ·have := ra x (mem_wiresG.2 (Or.inr (Or.inr ⟨e, he, hx⟩))); omega
   ·obtain ⟨e', he', rfl⟩ := List.mem_map.1 he
    simp only [mapE] at hx
    rcases hx with hx | hx
    ·obtain ⟨y, hy, rfl⟩ := List.mem_map.1 hx
     have := rb y (mem_wiresG.2 (Or.inr (Or.inr ⟨e', he', Or.inl hy⟩)))
     exact shL_rng hn hm this.1 this.2
    ·obtain ⟨y, hy, rfl⟩ := List.mem_map.1 hx
     have := rb y (mem_wiresG.2 (Or.inr (Or.inr ⟨e', he', Or.inr hy⟩)))
     exact shL_rng hn hm this.1 this.2
 ·intro p hp
  obtain ⟨h1, h2⟩ := (show p.1 ∈ a.o ∧ p.2 ∈ b.i.map (ofL (shL a b)) from List.of_mem_zip (show (p.1, p.2) ∈ a.o.zip _ from hp))
  have q1 := ra p.1 (mem_wiresG.2 (Or.inr (Or.inl h1)))
  obtain ⟨y, hy, e⟩ := List.mem_map.1 h2
  have q2 := rb y (mem_wiresG.2 (Or.inl hy))
  have q3 := shL_rng hn hm q2.1 q2.2
  rw [e] at q3
  omega
 ·unfold seqP
  rw [List.length_zip, List.length_map]; omega
theorem seq_lens (a b : Gr) : (seqG a b).i.length = a.i.length ∧ (seqG a b).o.length = b.o.length := by
 constructor
 ·show ((a.i).map _).length = _
  rw [List.length_map]
 ·show ((b.o.map _).map _).length = _
  rw [List.length_map, List.length_map]
theorem par_lens (a b : Gr) : (parG a b).i.length = a.i.length + b.i.length ∧ (parG a b).o.length = a.o.length + b.o.length := by
 constructor
 ·show (a.i ++ _).length = _
  rw [List.length_append, List.length_map]
 ·show (a.o ++ _).length = _
  rw [List.length_append, List.length_map]
def genG (k v : Int) (a b : Nat) : Gr := ⟨((a + b : Nat) : Int), [⟨k, v, upL a, frL a b⟩], upL a, frL a b⟩
def leafG (n : Nd) : Gr := if n.k = 1 then ⟨n.v, [], upL n.v.toNat, upL n.v.toNat⟩ else if n.k = 2 then ⟨2, [], [0, 1], [1, 0]⟩ else genG n.k n.v (edW n.k).1 (edW n.k).2
def Tr.g : Tr → Gr
 | .leaf n => leafG n
 | .seq a b => seqG a.g b.g
 | .par a b => parG a.g b.g
def Tr.gB : Tr → Bool
 | .leaf _ => true
 | .seq a b => a.gB && (b.gB && grB (seqG a.g b.g))
 | .par a b => a.gB && (b.gB && grB (parG a.g b.g))
theorem genG_ok {k v : Int} (hk : inB k 3 14 = true) (hv : valB k v = true) : grB (genG k v (edW k).1 (edW k).2) = true := by
 have hs := edW_small k
 obtain ⟨a, ha⟩ : ∃ a, (edW k).1 = a := ⟨_, rfl⟩
 obtain ⟨b, hb⟩ : ∃ b, (edW k).2 = b := ⟨_, rfl⟩
 have hed : edB ⟨k, v, upL a, frL a b⟩ = true := by
  unfold edB
  rw [hk, hv]
  simp only [Bool.true_and]
  exact decide_eq_true (by rw [upL_len, frL_len, ← ha, ← hb])
 rw [ha, hb] at hs ⊢
 have hw : ∀ x, x ∈ wiresL (genG k v a b) ↔ 0 ≤ x ∧ x < ((a + b : Nat) : Int) := by
  intro x
  rw [mem_wiresG]
  have hx : (x ∈ upL a ∨ x ∈ frL a b ∨ ∃ e ∈ [(⟨k, v, upL a, frL a b⟩ : Ed)], x ∈ e.i ∨ x ∈ e.o) ↔ (x ∈ upL a ∨ x ∈ frL a b) := by
   constructor
   ·rintro (h | h | ⟨e, he, h⟩)
    ·exact Or.inl h
    ·exact Or.inr h
    ·rw [List.mem_singleton.1 he] at h; exact h
   ·rintro (h | h)
    ·exact Or.inl h
    ·exact Or.inr (Or.inl h)
  refine Iff.trans hx ?_
  rw [mem_upL, mem_frL]
  omega
 unfold grB
 simp only [Bool.and_eq_true]
 refine ⟨⟨⟨⟨?_, ?_⟩, ?_⟩, ?_⟩, ?_⟩
 ·rw [inB_iff]; show 0 ≤ ((a + b : Nat) : Int) ∧ _; exact ⟨by omega, by show ((a + b : Nat) : Int) ≤ 100; omega⟩
 ·refine decide_eq_true ⟨by show 1 ≤ 60; omega, ?_, ?_⟩
  ·show (upL a).length ≤ 12; rw [upL_len]; omega
  ·show (frL a b).length ≤ 12; rw [frL_len]; omega
 ·show [(⟨k, v, upL a, frL a b⟩ : Ed)].all edB = true
  simp only [List.all_cons, List.all_nil, Bool.and_true]; exact hed
 ·rw [rngB_iff]; intro x hx; exact (hw x).1 hx
 ·rw [List.all_eq_true]
  intro w hx
  have hx2 := List.mem_range.1 hx
  have hx3 : w < (((a + b : Nat) : Int)).toNat := hx2
  rw [Int.toNat_natCast] at hx3
  exact decide_eq_true ((hw _).2 (by omega))
theorem idG_ok {v : Int} (h0 : 0 ≤ v) (h1 : v ≤ 12) : grB ⟨v, [], upL v.toNat, upL v.toNat⟩ = true := by
 have hw : ∀ x, x ∈ wiresL ⟨v, [], upL v.toNat, upL v.toNat⟩ ↔ 0 ≤ x ∧ x < v := by
  intro x
  rw [mem_wiresG]
  have hx : (x ∈ upL v.toNat ∨ x ∈ upL v.toNat ∨ ∃ e ∈ ([] : List Ed), x ∈ e.i ∨ x ∈ e.o) ↔ x ∈ upL v.toNat := by
   constructor
   ·rintro (h | h | ⟨e, he, h⟩)
    ·exact h
    ·exact h
    ·cases he
   ·exact Or.inl
  refine Iff.trans hx ?_
  rw [mem_upL]
  omega
 unfold grB
 simp only [Bool.and_eq_true]
 refine ⟨⟨⟨⟨?_, ?_⟩, rfl⟩, ?_⟩, ?_⟩
 ·rw [inB_iff]; show 0 ≤ v ∧ v ≤ 100; omega
 ·refine decide_eq_true ⟨by show 0 ≤ 60; omega, ?_, ?_⟩
  ·show (upL _).length ≤ 12; rw [upL_len]; omega
  ·show (upL _).length ≤ 12; rw [upL_len]; omega
 ·rw [rngB_iff]; intro x hx; exact (hw x).1 hx
 ·rw [List.all_eq_true]
  intro w hx
  have hx2 : w < v.toNat := by simpa using List.mem_range.1 hx
  exact decide_eq_true ((hw _).2 (by omega))
theorem leafG_ok {n : Nd} (h : lfB n = true) : grB (leafG n) = true ∧ ((leafG n).i.length : Int) = (lfTy n).1 ∧ ((leafG n).o.length : Int) = (lfTy n).2 := by
 unfold lfB lfV at h
 rw [Bool.and_eq_true] at h
 have h2 := h.2
 unfold leafG lfTy
 by_cases h1 : n.k = 1
 ·rw [if_pos h1] at h2
  have h3 := of_decide_eq_true h2
  rw [if_pos h1, if_pos h1]
  refine ⟨idG_ok h3.1 h3.2, ?_, ?_⟩ <;> (simp only [upL_len]; omega)
 ·rw [if_neg h1] at h2
  rw [if_neg h1, if_neg h1]
  by_cases h4 : n.k = 2
  ·rw [if_pos h4, if_pos h4]
   exact ⟨by decide, by decide, by decide⟩
  ·rw [if_neg h4, Bool.and_eq_true] at h2
   rw [if_neg h4, if_neg h4]
   refine ⟨genG_ok h2.1 h2.2, ?_, ?_⟩
   ·show ((upL _).length : Int) = _; rw [upL_len]
   ·show ((frL _ _).length : Int) = _; rw [frL_len]
theorem Tr.g_ok {t : Tr} (h : t.Ok) (hb : t.gB = true) : grB t.g = true ∧ (t.g.i.length : Int) = t.ty.1 ∧ (t.g.o.length : Int) = t.ty.2 := by
 induction t with
 | leaf n => exact leafG_ok h
 | seq a b iha ihb =>
  obtain ⟨ha, hb', he⟩ := h
  simp only [Tr.gB, Bool.and_eq_true] at hb
  obtain ⟨_, a1, a2⟩ := iha ha hb.1
  obtain ⟨_, b1, b2⟩ := ihb hb' hb.2.1
  refine ⟨hb.2.2, ?_, ?_⟩
  ·show ((seqG a.g b.g).i.length : Int) = a.ty.1
   rw [(seq_lens _ _).1]; exact a1
  ·show ((seqG a.g b.g).o.length : Int) = b.ty.2
   rw [(seq_lens _ _).2]; exact b2
 | par a b iha ihb =>
  obtain ⟨ha, hb', he⟩ := h
  simp only [Tr.gB, Bool.and_eq_true] at hb
  obtain ⟨_, a1, a2⟩ := iha ha hb.1
  obtain ⟨_, b1, b2⟩ := ihb hb' hb.2.1
  refine ⟨hb.2.2, ?_, ?_⟩
  ·show ((parG a.g b.g).i.length : Int) = a.ty.1 + b.ty.1
   rw [(par_lens _ _).1]; omega
  ·show ((parG a.g b.g).o.length : Int) = a.ty.2 + b.ty.2
   rw [(par_lens _ _).2]; omega
theorem Tr.seq_fit {a b : Tr} (h : (Tr.seq a b).Ok) (ha : a.gB = true) (hb : b.gB = true) : a.g.o.length = b.g.i.length := by
 obtain ⟨h1, h2, he⟩ := h
 have q1 := (Tr.g_ok h1 ha).2.2
 have q2 := (Tr.g_ok h2 hb).2.1
 omega
theorem pstep_bad {S S' : List Tr} {n : Nd} (h : pstep S n = some S') (hb : S'.all Tr.gB = true) : S.all Tr.gB = true := by
 rcases pstep_cases h with ⟨_, _, rfl⟩ | ⟨A, B, R, rfl, _, _, rfl⟩ | ⟨A, B, R, rfl, _, _, rfl⟩
 ·simp only [List.all_cons, Bool.and_eq_true] at hb; exact hb.2
 ·simp only [List.all_cons, Bool.and_eq_true, Tr.gB] at hb ⊢
  exact ⟨hb.1.2.1, hb.1.1, hb.2⟩
 ·simp only [List.all_cons, Bool.and_eq_true, Tr.gB] at hb ⊢
  exact ⟨hb.1.2.1, hb.1.1, hb.2⟩
theorem prun_bad {ns : List Nd} {i : Nat} {S : List Tr} (h : prun ns i = some S) (hb : S.all Tr.gB = false) : ∀ j S', i ≤ j → prun ns j = some S' → S'.all Tr.gB = false := by
 intro j
 induction j with
 | zero =>
  intro S' hj h'
  rw [show i = 0 by omega] at h
  rw [h] at h'
  injection h' with h'
  rw [← h']; exact hb
 | succ j ih =>
  intro S' hj h'
  rcases Nat.lt_or_ge i (j + 1) with h1 | h1
  ·obtain ⟨P, hP⟩ := prun_back h' (Nat.le_succ j)
   have := ih P (by omega) hP
   rw [prun_succ hP] at h'
   cases hq : S'.all Tr.gB with
   | false => rfl
   | true => rw [pstep_bad h' hq] at this; cases this
  ·rw [show i = j + 1 by omega] at h
   rw [h] at h'
   injection h' with h'
   rw [← h']; exact hb
def frTo (d n k : Nat) : List Int := (frL d n).take k ++ (upL n).drop k
theorem frTo_len {d n k : Nat} (h : k ≤ n) : (frTo d n k).length = n := by unfold frTo; rw [List.length_append, List.length_take, List.length_drop, frL_len, upL_len]; omega
theorem frTo_zero (d n : Nat) : frTo d n 0 = upL n := by simp [frTo]
theorem frTo_full (d n : Nat) : frTo d n n = frL d n := by
 unfold frTo
 rw [List.take_of_length_le (by rw [frL_len]; exact Nat.le_refl _), List.drop_of_length_le (by rw [upL_len]; exact Nat.le_refl _), List.append_nil]
theorem upT_at {n i : Nat} (h : i < n) : (upL n).getD i 0 = (i : Int) := by
 unfold upL
 rw [List.getD_eq_getElem?_getD, List.getElem?_map, List.getElem?_range h]
 rfl
theorem frTo_at {d n k : Nat} (h : k < n) : (frTo d n k).getD k 0 = (k : Int) := by
 have hl : ((frL d n).take k).length = k := by rw [List.length_take, frL_len]; omega
 unfold frTo
 rw [List.getD_eq_getElem?_getD, List.getElem?_append_right (by omega), hl, Nat.sub_self, List.getElem?_drop, Nat.add_zero, ← List.getD_eq_getElem?_getD, upT_at h]
theorem frTo_set {d n k : Nat} (h : k < n) : (frTo d n k).set k ((k : Int) + d) = frTo d n (k + 1) := by
 have hl : ((frL d n).take k).length = k := by rw [List.length_take, frL_len]; omega
 unfold frTo
 rw [List.set_append_right _ _ (by omega), hl, Nat.sub_self, List.drop_eq_getElem_cons (by rw [upL_len]; exact h), List.set_cons_zero]
 have e : (frL d n).take (k + 1) = (frL d n).take k ++ [(k : Int) + d] := by
  rw [List.take_succ_eq_append_getElem (by rw [frL_len]; exact h)]
  congr 1
  have := frL_at (d := d) h
  rw [List.getD_eq_getElem?_getD, List.getElem?_eq_getElem (by rw [frL_len]; exact h)] at this
  simp only [Option.getD_some] at this
  rw [this]
  congr 1
  omega
 rw [e, List.append_assoc]
 rfl
theorem from_any (d n : Nat) (w : World) (hd : d ≤ 100000) (hn : n ≤ 100000) :
 Calls Tryz.prog 124 #[.int .i64 d, .int .i64 n] w fun e w' => ∃ g c, e = .returned (.slice (some ⟨g, 0, none⟩) n c) ∧ Sep w' [OI (.slice (some ⟨g, 0, none⟩) n c) (frL d n), KeepA w] := by
 have HU := qd fun W => upTo_any n W (by omega)
 go_enter Tryz.func124, Tryz.ntmps124
 go_wp2_with (
  go_at_call 77
  with_reducible refine (HU.out _).mono ?_
  rintro e w1 ⟨g, c, rfl, hs⟩
  rw [← frTo_zero d n] at hs
  have HS0 := qd hs
  clear hs)
 go_loopw [6, 11] (fun _ s8 wr => ∃ k : Nat, k ≤ n ∧ s8 = .int .i64 k ∧ Sep wr [OI (.slice (some ⟨g, 0, none⟩) n c) (frTo d n k), KeepA w]) (fun _ s8 _ => n - (intOf s8).toNat)
 case atStart => exact ⟨0, by omega, rfl, HS0.out⟩
 case round =>
  obtain ⟨k, hk, rfl, hs⟩ := hrel
  have HSX := qd hs
  clear hs
  by_cases hlt : k < n
  ·have hll : n = (frTo d n k).length := (frTo_len hk).symm
   have hf := (show OwnInts 0 wr _ (frTo d n k) from HSX.out.hd).free hll k
   obtain hc0 : wr.cell? ⟨g, k, none⟩ = some (.int .i64 (k : Int)) := by
    have h := (show OwnInts 0 wr _ (frTo d n k) from HSX.out.hd).cell hll (j := k) (by omega)
    have e := frTo_at (d := d) hlt
    rw [List.getD_eq_getElem?_getD, List.getElem?_eq_getElem (by omega)] at e
    simp only [Option.getD_some] at e
    rw [e] at h
    exact h
   have hset := HSX.out.setI hll k ((k : Int) + d)
   rw [frTo_set hlt] at hset
   have HSET := qd hset
   have hki : (k : Int) < (n : Int) := by omega
   have hwr : IntKind.i64.wrap ((k : Int) + (d : Int)) = (k : Int) + (d : Int) := wrap_id (by omega) (by omega)
   clear hll hset
   go_wp2_with fail
   go_roundw
   case rel => exact ⟨k + 1, by omega, by go_num, HSET.out⟩
   case measure => simp [intOf]; omega
  ·have hkn : k = n := by omega
   subst hkn
   have hkk : ¬ (k : Int) < (k : Int) := by omega
   clear hlt
   go_wp2_with fail
   go_ret
   have := HSX.out
   rw [frTo_full] at this
   exact ⟨_, _, rfl, this⟩
theorem cloneT_any (u : Value) (ys : List Int) (w : World) (hu : IntsV w u ys) (hl : ys.length ≤ 1000000) :
 Calls Tryz.prog 123 #[u] w fun e w' => ∃ a c, e = .returned (.slice a ys.length c) ∧ Sep w' [OI (.slice a ys.length c) ys, KeepA w] := by
 have HU := qd hu
 obtain ⟨ua, ucap, rfl, hx⟩ := hu
 clear hx
 have HS0 := qd ((Sep.start w).emptyI)
 go_enter Tryz.func123, Tryz.ntmps123
 go_wp2_with (at_builtin; go_loud (refine app_ints rfl _ _ rfl rfl rfl (HU.out.carry (grownBy_alloc _ _ _)) (OwnInts.empty (Nat.le_refl _) rfl) (by simp) (by simp; omega) ?_); intro v' w1 hown' hbel')
 have hs : Sep w1 [OI v' ys, KeepA w] := (Sep.start w).newI (grown_of_below (((Below.refl _ _).alloc (Nat.le_refl _) _).trans hbel')) (by simpa using hown')
 obtain ⟨a, c, rfl⟩ := own_shape (show OwnInts 0 w1 v' ys from hs.hd)
 have HS := qd hs
 clear hown' hbel' hs
 go_wp2
 go_ret
 exact ⟨a, c, rfl, HS.out⟩
theorem gq4 {w : World} {k : Nat} {x y z u : Value} {t : TypeId} (h : w.heap[k]? = some (.cells #[x, y, z, u] t (0, 0))) :
 w.cell? ⟨k, 0, none⟩ = some x ∧ w.cell? ⟨k, 1, none⟩ = some y ∧ w.cell? ⟨k, 2, none⟩ = some z ∧ w.cell? ⟨k, 3, none⟩ = some u ∧ w.frozen? ⟨k, 0, none⟩ = false ∧ w.frozen? ⟨k, 1, none⟩ = false ∧ w.frozen? ⟨k, 2, none⟩ = false ∧ w.frozen? ⟨k, 3, none⟩ = false :=
 ⟨cell_of_row w k 0 _ _ _ h, cell_of_row w k 1 _ _ _ h, cell_of_row w k 2 _ _ _ h, cell_of_row w k 3 _ _ _ h, frozen_of_row w k 0 _ _ h, frozen_of_row w k 1 _ _ h, frozen_of_row w k 2 _ _ h, frozen_of_row w k 3 _ _ h⟩
theorem identG_any (n : Nat) (w : World) (hn : n ≤ 12) :
 Calls Tryz.prog 152 #[.int .i64 n] w (OwnG ⟨(n : Int), [], upL n, upL n⟩ w) := by
 have HU := qd fun W => upTo_any n W (by omega)
 unfold OwnG
 have hs0 := (Sep.start w).boxAt w.heap.size rfl #[.int .i64 0, .slice none 0 0, .slice none 0 0, .slice none 0 0] 38
 have HS0 := qd hs0
 clear hs0
 go_enter Tryz.func152, Tryz.ntmps152
 go_wp2_with (first
  |(go_at_call 77
    with_reducible refine (HU.out _).mono ?_
    rintro e w3 ⟨g1, c1, rfl, hs⟩
    have HS1 := qd (HS0.out.graft1 hs OI_own)
    clear hs HS0)
  |(go_at_call 77
    with_reducible refine (HU.out _).mono ?_
    rintro e w4 ⟨g2, c2, rfl, hs⟩
    have hs2 := Sep.blk (A := [_, _]) (B := [_]) (HS1.out.graft1 hs OI_own)
    obtain ⟨y0, y1, y2, y3, f0, f1, f2, f3⟩ := gq4 hs2.hd
    have hsz := (((hs2.setB 0 (.int .i64 n)).setB 1 (.slice none 0 0)).setB 2 (.slice (some ⟨g1, 0, none⟩) n c1)).setB 3 (.slice (some ⟨g2, 0, none⟩) n c2)
    obtain ⟨u0, u1, u2, u3, _⟩ := gq4 hsz.hd
    have HSZ := qd hsz
    clear hs hs2 hsz))
 refine bodyPost_ret_by (v := .agg #[.int .i64 n, .slice none 0 0, .slice (some ⟨g1, 0, none⟩) n c1, .slice (some ⟨g2, 0, none⟩) n c2]) ?_ rfl ⟨_, [], _, _, rfl, rfl, ?_⟩
 ·simp [results, go_sem, *]
 ·exact Sep.bag (l := [OR edgeE nilS []]) (Sep.nilR edgeE HSZ.out.tl.s2)
end Go.Proofs.YtjagjhchnpmngaaGreat

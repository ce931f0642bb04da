/-
 The wires of a term's graph stand at most once in its inputs, and at most once in its outputs; a new numbering that keeps the order is forgotten by gluing. Plain mathematics. Conditions: as each says.
-/
import Derived.Test.YtjagjhchnpmngaaGreatCz06
import Derived.Test.YtjagjhchnpmngaaGreatCz05
import Derived.Test.YtjagjhchnpmngaaGreatCz04
import Derived.Test.YtjagjhchnpmngaaGreatCz03
import Derived.Test.YtjagjhchnpmngaaGreatCz02
import Derived.Test.YtjagjhchnpmngaaGreatCz01
import Derived.Test.YtjagjhchnpmngaaGreatCz00
import Derived.Test.YtjagjhchnpmngaaGreatCz32
set_option linter.unusedVariables false
set_option linter.unusedSimpArgs false
set_option maxRecDepth 100000
namespace Go.Proofs.YtjagjhchnpmngaaGreat
open Go.RowKit
theorem ofL_join {C : List Int} {a b w : Int} (h0 : 0 ≤ w) (h1 : w < C.length) : ofL (joinC C a b) w = if ofL C w = max (ofL C a) (ofL C b) then min (ofL C a) (ofL C b) else ofL C w := by
 unfold joinC
 rw [ofL_mapF h0 h1]
theorem joinC_len (C : List Int) (a b : Int) : (joinC C a b).length = C.length := by unfold joinC; rw [List.length_map]
structure Two (n m : Nat) (A B : List Int) : Prop where
 l : A.length = B.length
 a : ∀ x ∈ A, 0 ≤ x ∧ x < (n : Int)
 b : ∀ x ∈ B, (n : Int) ≤ x ∧ x < ((n + m : Nat) : Int)
 dA : A.Nodup
 dB : B.Nodup
theorem class_two {n m : Nat} {A B : List Int} (h : Two n m A B) : ∀ k, k ≤ B.length → (classOf (n + m) ((A.zip B).take k)).length = n + m ∧ (∀ x : Int, 0 ≤ x → x < (n : Int) → ofL (classOf (n + m) ((A.zip B).take k)) x = x) ∧ (∀ j, j < k → ofL (classOf (n + m) ((A.zip B).take k)) (B.getD j 0) = A.getD j 0) ∧ (∀ x : Int, (n : Int) ≤ x → x < ((n + m : Nat) : Int) → x ∉ B.take k → ofL (classOf (n + m) ((A.zip B).take k)) x = x) := by
 have hl := h.l
 intro k
 induction k with
 | zero =>
  intro _
  have e : classOf (n + m) ((A.zip B).take 0) = upL (n + m) := rfl
  rw [e]
  exact ⟨upL_len _, fun x h0 h1 => ofL_up' h0 (by omega), fun j hj => absurd hj (by omega), fun x h0 h1 _ => ofL_up' (by omega) h1⟩
 | succ k ih =>
  intro hk
  obtain ⟨i1, i2, i3, i4⟩ := ih (by omega)
  have hz : k < (A.zip B).length := by rw [List.length_zip]; omega
  have e : (A.zip B).take (k + 1) = (A.zip B).take k ++ [(A.getD k 0, B.getD k 0)] := by
   rw [List.take_succ_eq_append_getElem hz, List.getElem_zip, List.getD_eq_getElem?_getD, List.getElem?_eq_getElem (by omega), List.getD_eq_getElem?_getD, List.getElem?_eq_getElem (by omega)]
   rfl
  rw [e, classOf_snoc]
  generalize classOf (n + m) ((A.zip B).take k) = C at *
  have ga := h.a _ (getD_mem' (zs := A) (k := k) (by omega))
  have gb := h.b _ (getD_mem' (zs := B) (k := k) (by omega))
  have nb : B.getD k 0 ∉ B.take k := by
   intro hm
   obtain ⟨j, hj, ej⟩ := List.mem_iff_getElem.1 hm
   rw [List.length_take] at hj
   rw [List.getElem_take] at ej
   have e3 : B.getD j 0 = B.getD k 0 := by rw [List.getD_eq_getElem?_getD, List.getElem?_eq_getElem (by omega)]; exact ej
   have := (List.getD_inj (by omega) (by omega) h.dB).1 e3
   omega
  have ca := i2 _ ga.1 ga.2
  have cb := i4 _ gb.1 gb.2 nb
  have hmx : max (ofL C (A.getD k 0)) (ofL C (B.getD k 0)) = B.getD k 0 := by rw [ca, cb]; omega
  have hmn : min (ofL C (A.getD k 0)) (ofL C (B.getD k 0)) = A.getD k 0 := by rw [ca, cb]; omega
  have hJ : ∀ x : Int, 0 ≤ x → x < ((n + m : Nat) : Int) → ofL (joinC C (A.getD k 0) (B.getD k 0)) x = if ofL C x = B.getD k 0 then A.getD k 0 else ofL C x := by
   intro x h0 h1
   rw [ofL_join h0 (by rw [i1]; exact h1), hmx, hmn]
  refine ⟨by rw [joinC_len]; exact i1, fun x h0 h1 => ?_, fun j hj => ?_, fun x h0 h1 hx => ?_⟩
  ·rw [hJ x h0 (by omega), i2 x h0 h1, if_neg (by omega)]
  ·have gj := h.b _ (getD_mem' (zs := B) (k := j) (by omega))
   rw [hJ _ (by omega) gj.2]
   by_cases e : j = k
   ·subst e
    rw [cb, if_pos rfl]
   ·rw [i3 j (by omega)]
    have gaj := h.a _ (getD_mem' (zs := A) (k := j) (by omega))
    rw [if_neg (by omega)]
  ·have hx2 : x ∉ B.take k ∧ x ≠ B.getD k 0 := by
    rw [take_snocI (by omega)] at hx
    simpa using hx
   rw [hJ x (by omega) h1, i4 x h0 h1 hx2.1, if_neg hx2.2]
theorem class_two_full {n m : Nat} {A B : List Int} (h : Two n m A B) : (∀ x : Int, 0 ≤ x → x < (n : Int) → ofL (classOf (n + m) (A.zip B)) x = x) ∧ (∀ x y : Int, (n : Int) ≤ x → x < ((n + m : Nat) : Int) → (n : Int) ≤ y → y < ((n + m : Nat) : Int) → ofL (classOf (n + m) (A.zip B)) x = ofL (classOf (n + m) (A.zip B)) y → x = y) := by
 have hl := h.l
 obtain ⟨_, i2, i3, i4⟩ := class_two h B.length (Nat.le_refl _)
 have e : (A.zip B).take B.length = A.zip B := List.take_of_length_le (by rw [List.length_zip]; omega)
 rw [e] at i2 i3 i4
 rw [List.take_of_length_le (Nat.le_refl _)] at i4
 generalize classOf (n + m) (A.zip B) = C at *
 have hat : ∀ x ∈ B, ∃ j, j < B.length ∧ x = B.getD j 0 ∧ ofL C x = A.getD j 0 := by
  intro x hx
  obtain ⟨j, hj, ej⟩ := List.mem_iff_getElem.1 hx
  have e3 : B.getD j 0 = x := by rw [List.getD_eq_getElem?_getD, List.getElem?_eq_getElem hj]; exact ej
  exact ⟨j, hj, e3.symm, by rw [← e3]; exact i3 j hj⟩
 refine ⟨i2, fun x y h0 h1 h2 h3 he => ?_⟩
 by_cases hx : x ∈ B <;> by_cases hy : y ∈ B
 ·obtain ⟨i, hi, ex, cx⟩ := hat x hx
  obtain ⟨j, hj, ey, cy⟩ := hat y hy
  rw [cx, cy] at he
  have := (List.getD_inj (by omega) (by omega) h.dA).1 he
  rw [ex, ey, this]
 ·obtain ⟨i, hi, ex, cx⟩ := hat x hx
  have := h.a _ (getD_mem' (zs := A) (k := i) (by omega))
  rw [cx, i4 y h2 h3 hy] at he
  omega
 ·obtain ⟨j, hj, ey, cy⟩ := hat y hy
  have := h.a _ (getD_mem' (zs := A) (k := j) (by omega))
  rw [cy, i4 x h0 h1 hx] at he
  omega
 ·rw [i4 x h0 h1 hx, i4 y h2 h3 hy] at he
  exact he
theorem cnt_lt {C ws : List Int} {a b : Nat} (h : a < b) (hc : ofL C (a : Int) = a) (hu : usedB C ws a = true) : cntR C ws a < cntR C ws b := by
 have h1 : cntR C ws (a + 1) = cntR C ws a + 1 := by rw [cntR_succ, if_pos (by simp [hc, hu])]
 have h2 := cntR_mono C ws (show a + 1 ≤ b from h)
 omega
theorem num_inj {C ws : List Int} {n : Nat} (hc : Cls n C) {x y : Int} (hx : x ∈ ws) (hy : y ∈ ws) (x0 : 0 ≤ x) (x1 : x < n) (y0 : 0 ≤ y) (y1 : y < n) (h : numX C ws x = numX C ws y) : ofL C x = ofL C y := by
 rw [(num_used hc hx x0 x1).1, (num_used hc hy y0 y1).1] at h
 have ux := used_of (C := C) hx
 have uy := used_of (C := C) hy
 have cx := hc.cc x x0 x1
 have cy := hc.cc y y0 y1
 have rx := hc.c0 x x0 x1
 have ry := hc.c0 y y0 y1
 obtain ⟨a, ha⟩ := Int.eq_ofNat_of_zero_le rx.1
 obtain ⟨b, hb⟩ := Int.eq_ofNat_of_zero_le ry.1
 rw [ha] at h ux cx ⊢
 rw [hb] at h uy cy ⊢
 rw [Int.toNat_natCast, Int.toNat_natCast] at h
 rcases Nat.lt_trichotomy a b with hab | hab | hab
 ·have := cnt_lt hab cx ux; omega
 ·rw [hab]
 ·have := cnt_lt hab cy uy; omega
theorem nodup_map_on {f : Int → Int} {l : List Int} (hf : ∀ x ∈ l, ∀ y ∈ l, f x = f y → x = y) (h : l.Nodup) : (l.map f).Nodup := by
 unfold List.Nodup at *
 rw [List.pairwise_map]
 exact List.Pairwise.imp_of_mem (fun ha hb hne e => hne (hf _ ha _ hb e)) h
theorem upL_nodup (n : Nat) : (upL n).Nodup := by
 unfold upL List.Nodup
 rw [List.pairwise_map]
 exact List.Pairwise.imp (fun h e => by omega) List.pairwise_lt_range
theorem frL_nodup (d n : Nat) : (frL d n).Nodup := by
 unfold frL List.Nodup
 rw [List.pairwise_map]
 exact List.Pairwise.imp (fun h e => by omega) List.pairwise_lt_range
theorem rep_class {n : Nat} {ps : List (Int × Int)} (h : ∀ p ∈ ps, (0 ≤ p.1 ∧ p.1 < (n : Int)) ∧ 0 ≤ p.2 ∧ p.2 < (n : Int)) : ∀ k, k ≤ ps.length → ∃ F, Rep n F (classOf n (ps.take k)) := by
 intro k
 induction k with
 | zero => exact fun _ => ⟨_, Rep.start n⟩
 | succ k ih =>
  intro hk
  obtain ⟨F, hF⟩ := ih (by omega)
  have hp := h ps[k] (List.getElem_mem _)
  rw [List.take_succ_eq_append_getElem (by omega), classOf_snoc]
  exact ⟨_, hF.join hp.1.1 hp.1.2 hp.2.1 hp.2.2⟩
theorem cls_class {n : Nat} {ps : List (Int × Int)} (h : ∀ p ∈ ps, (0 ≤ p.1 ∧ p.1 < (n : Int)) ∧ 0 ≤ p.2 ∧ p.2 < (n : Int)) : Cls n (classOf n ps) := by
 obtain ⟨F, hF⟩ := rep_class h ps.length (Nat.le_refl _)
 rw [List.take_of_length_le (Nat.le_refl _)] at hF
 exact hF.cls
theorem Tr.g_dup {t : Tr} (h : t.Ok) (hb : t.gB = true) : t.g.i.Nodup ∧ t.g.o.Nodup := by
 induction t with
 | leaf n =>
  show (leafG n).i.Nodup ∧ (leafG n).o.Nodup
  unfold leafG
  by_cases h1 : n.k = 1
  ·rw [if_pos h1]; exact ⟨upL_nodup _, upL_nodup _⟩
  ·rw [if_neg h1]
   by_cases h2 : n.k = 2
   ·rw [if_pos h2]; exact ⟨by decide, by decide⟩
   ·rw [if_neg h2]; exact ⟨upL_nodup _, frL_nodup _ _⟩
 | seq a b iha ihb =>
  have hft := Tr.seq_fit h (by simp only [Tr.gB, Bool.and_eq_true] at hb; exact hb.1) (by simp only [Tr.gB, Bool.and_eq_true] at hb; exact hb.2.1)
  obtain ⟨ha, hb', he⟩ := h
  simp only [Tr.gB, Bool.and_eq_true] at hb
  obtain ⟨da, db⟩ := iha ha hb.1
  obtain ⟨dc, dd⟩ := ihb hb' hb.2.1
  have qa := (Tr.g_ok ha hb.1).1
  have qb := (Tr.g_ok hb' hb.2.1).1
  show (seqG a.g b.g).i.Nodup ∧ (seqG a.g b.g).o.Nodup
  generalize a.g = A at *
  generalize b.g = B at *
  obtain ⟨n, hn, _, _, _, _, a5, _⟩ := grB_n qa
  obtain ⟨m, hm, _, _, _, _, b5, _⟩ := grB_n qb
  have ra := rngB_iff.1 a5
  have rb := rngB_iff.1 b5
  rw [hn] at ra
  rw [hm] at rb
  have hsh : ∀ x, 0 ≤ x → x < (m : Int) → ofL (shL A B) x = (n : Int) + x := by
   intro x h0 h1
   unfold shL
   rw [hn, hm, Int.toNat_natCast, Int.toNat_natCast, ofL_fr h0 h1]
  have inj : ∀ l : List Int, (∀ x ∈ l, 0 ≤ x ∧ x < (m : Int)) → l.Nodup → (l.map (ofL (shL A B))).Nodup := by
   intro l hl hd
   refine nodup_map_on (fun x hx y hy e => ?_) hd
   rw [hsh x (hl x hx).1 (hl x hx).2, hsh y (hl y hy).1 (hl y hy).2] at e
   omega
  have hbi : ∀ x ∈ B.i, 0 ≤ x ∧ x < (m : Int) := fun x hx => rb x (mem_wiresG.2 (Or.inl hx))
  have hbo : ∀ x ∈ B.o, 0 ≤ x ∧ x < (m : Int) := fun x hx => rb x (mem_wiresG.2 (Or.inr (Or.inl hx)))
  have hai : ∀ x ∈ A.i, 0 ≤ x ∧ x < (n : Int) := fun x hx => ra x (mem_wiresG.2 (Or.inl hx))
  have two : Two n m A.o (B.i.map (ofL (shL A B))) := by
   refine ⟨by rw [List.length_map]; exact hft, fun x hx => ra x (mem_wiresG.2 (Or.inr (Or.inl hx))), fun x hx => ?_, db, inj _ hbi dc⟩
   obtain ⟨y, hy, rfl⟩ := List.mem_map.1 hx
   have := hbi y hy
   rw [hsh y this.1 this.2]
   omega
  obtain ⟨c1, c2⟩ := class_two_full two
  have ok := seq_ok qa qb hn hm hft
  have hcl := cls_class ok.p
  have hnn : A.n.toNat + B.n.toNat = n + m := by omega
  have hN : (seqI A B).n.toNat = n + m := by show (A.n + B.n).toNat = _; omega
  unfold seqG
  rw [hnn]
  have hz : seqP A B = A.o.zip (B.i.map (ofL (shL A B))) := rfl
  rw [← hz] at c1 c2
  unfold glueG
  rw [hN]
  have hnum : ∀ x ∈ wiresL (seqI A B), ∀ y ∈ wiresL (seqI A B), ofL (numL (classOf (n + m) (seqP A B)) (wiresL (seqI A B)) (n + m)) x = ofL (numL (classOf (n + m) (seqP A B)) (wiresL (seqI A B)) (n + m)) y → ofL (classOf (n + m) (seqP A B)) x = ofL (classOf (n + m) (seqP A B)) y := by
   intro x hx y hy e
   have wx := ok.w x hx
   have wy := ok.w y hy
   rw [num_at wx.1 wx.2, num_at wy.1 wy.2] at e
   exact num_inj hcl hx hy wx.1 wx.2 wy.1 wy.2 e
  constructor
  ·refine nodup_map_on (fun x hx y hy e => ?_) (show A.i.Nodup from da)
   have := hnum x (mem_wiresG.2 (Or.inl hx)) y (mem_wiresG.2 (Or.inl hy)) e
   rw [c1 x (hai x hx).1 (hai x hx).2, c1 y (hai y hy).1 (hai y hy).2] at this
   exact this
  ·refine nodup_map_on (fun x hx y hy e => ?_) (inj _ hbo dd)
   have := hnum x (mem_wiresG.2 (Or.inr (Or.inl hx))) y (mem_wiresG.2 (Or.inr (Or.inl hy))) e
   obtain ⟨x', hx', rfl⟩ := List.mem_map.1 hx
   obtain ⟨y', hy', rfl⟩ := List.mem_map.1 hy
   have qx := hbo x' hx'
   have qy := hbo y' hy'
   refine c2 _ _ ?_ ?_ ?_ ?_ this <;> (first | rw [hsh x' qx.1 qx.2] | rw [hsh y' qy.1 qy.2]) <;> omega
 | par a b iha ihb =>
  obtain ⟨ha, hb', he⟩ := h
  simp only [Tr.gB, Bool.and_eq_true] at hb
  obtain ⟨da, db⟩ := iha ha hb.1
  obtain ⟨dc, dd⟩ := ihb hb' hb.2.1
  have qa := (Tr.g_ok ha hb.1).1
  have qb := (Tr.g_ok hb' hb.2.1).1
  show (parG a.g b.g).i.Nodup ∧ (parG a.g b.g).o.Nodup
  generalize a.g = A at *
  generalize b.g = B at *
  obtain ⟨n, hn, _, _, _, _, a5, _⟩ := grB_n qa
  obtain ⟨m, hm, _, _, _, _, b5, _⟩ := grB_n qb
  have ra := rngB_iff.1 a5
  have rb := rngB_iff.1 b5
  rw [hn] at ra
  rw [hm] at rb
  have hsh : ∀ x, 0 ≤ x → x < (m : Int) → ofL (shL A B) x = (n : Int) + x := by
   intro x h0 h1
   unfold shL
   rw [hn, hm, Int.toNat_natCast, Int.toNat_natCast, ofL_fr h0 h1]
  have app : ∀ l r : List Int, (∀ x ∈ l, 0 ≤ x ∧ x < (n : Int)) → (∀ x ∈ r, 0 ≤ x ∧ x < (m : Int)) → l.Nodup → r.Nodup → (l ++ r.map (ofL (shL A B))).Nodup := by
   intro l r hl hr h1 h2
   rw [List.nodup_append]
   refine ⟨h1, nodup_map_on (fun x hx y hy e => ?_) h2, fun x hx y hy e => ?_⟩
   ·rw [hsh x (hr x hx).1 (hr x hx).2, hsh y (hr y hy).1 (hr y hy).2] at e
    omega
   ·obtain ⟨z, hz, rfl⟩ := List.mem_map.1 hy
    have := hl x hx
    have := hr z hz
    rw [hsh z this.1 this.2] at e
    omega
  exact ⟨app _ _ (fun x hx => ra x (mem_wiresG.2 (Or.inl hx))) (fun x hx => rb x (mem_wiresG.2 (Or.inl hx))) da dc, app _ _ (fun x hx => ra x (mem_wiresG.2 (Or.inr (Or.inl hx)))) (fun x hx => rb x (mem_wiresG.2 (Or.inr (Or.inl hx)))) db dd⟩
theorem grT_dup {x : List Nd} (h : tmB x = true) (hb : okT x = true) : (grT x).i.Nodup ∧ (grT x).o.Nodup := by
 obtain ⟨_, t, hok, _, hp⟩ := tmB_tree h
 obtain ⟨e1, e2, e3⟩ := tree_eq hp
 rw [e1] at hb
 rw [e2]
 exact Tr.g_dup hok hb
end Go.Proofs.YtjagjhchnpmngaaGreat

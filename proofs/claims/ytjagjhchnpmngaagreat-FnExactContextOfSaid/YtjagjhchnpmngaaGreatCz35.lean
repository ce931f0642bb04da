/-
 What is left around a match is the same graph, whichever free numbers the cut wires have got. Plain mathematics. Conditions: as each says.
-/
import Derived.Test.YtjagjhchnpmngaaGreatCz06
import Derived.Test.YtjagjhchnpmngaaGreatCz05
import Derived.Test.YtjagjhchnpmngaaGreatCz04
import Derived.Test.YtjagjhchnpmngaaGreatCz03
import Derived.Test.YtjagjhchnpmngaaGreatCz02
import Derived.Test.YtjagjhchnpmngaaGreatCz01
import Derived.Test.YtjagjhchnpmngaaGreatCz00
import Derived.Test.YtjagjhchnpmngaaGreatCz33
import Derived.Test.YtjagjhchnpmngaaGreatCz34
import Derived.Test.YtjagjhchnpmngaaGreatCz32
import Derived.Test.YtjagjhchnpmngaaGreatCz25
set_option linter.unusedVariables false
set_option linter.unusedSimpArgs false
set_option maxRecDepth 100000
namespace Go.Proofs.YtjagjhchnpmngaaGreat
open Go.RowKit
def gapF (N r x : Int) : Int := if x < N then x else x + r
theorem gap_dst {T : List Int} {N r x : Int} (h0 : 0 ≤ x) (h1 : x < N) (hr : 0 ≤ r) : dstF T (N + r) x = gapF N r (dstF T N x) := by
 unfold dstF gapF
 by_cases h : x ∈ T
 ·rw [if_pos h, if_pos h, if_neg (by omega)]; omega
 ·rw [if_neg h, if_neg h, if_pos h1]
theorem used_up {n : Nat} {ws : List Int} (hw : ∀ x ∈ ws, 0 ≤ x ∧ x < (n : Int)) (r : Int) : usedB (upL n) ws r = decide (r ∈ ws) := by
 rw [Bool.eq_iff_iff]
 unfold usedB
 rw [List.any_eq_true, decide_eq_true_iff]
 constructor
 ·rintro ⟨x, hx, e⟩
  have := hw x hx
  rw [decide_eq_true_iff, ofL_up' this.1 this.2] at e
  exact e ▸ hx
 ·intro h
  have := hw r h
  exact ⟨r, h, by rw [decide_eq_true_iff, ofL_up' this.1 this.2]⟩
def cntM (ws : List Int) (k : Nat) : Nat := (List.range k).countP fun w : Nat => decide ((w : Int) ∈ ws)
theorem cntM_succ (ws : List Int) (k : Nat) : cntM ws (k + 1) = cntM ws k + if (k : Int) ∈ ws then 1 else 0 := by
 unfold cntM
 rw [List.range_succ, List.countP_append, List.countP_singleton]
 by_cases h : (k : Int) ∈ ws
 ·rw [if_pos h, if_pos (by simpa using h)]
 ·rw [if_neg h, if_neg (by simpa using h)]
theorem cntR_up {n : Nat} {ws : List Int} (hw : ∀ x ∈ ws, 0 ≤ x ∧ x < (n : Int)) {k : Nat} (hk : k ≤ n) : cntR (upL n) ws k = cntM ws k := by
 unfold cntR cntM
 refine List.countP_congr fun x hx => ?_
 have := List.mem_range.1 hx
 rw [used_up hw, ofL_up' (by omega) (by omega)]
 simp
theorem cntM_gap {ws : List Int} {N r : Nat} : (∀ k, k ≤ N → cntM (ws.map (gapF N r)) k = cntM ws k) ∧ ∀ k, N ≤ k → (∀ x ∈ ws, 0 ≤ x) → cntM (ws.map (gapF N r)) (k + r) = cntM ws k := by
 have hlo : ∀ k : Nat, k < N → ((k : Int) ∈ ws.map (gapF N r) ↔ (k : Int) ∈ ws) := by
  intro k hk
  rw [List.mem_map]
  unfold gapF
  constructor
  ·rintro ⟨x, hx, e⟩
   by_cases h : x < (N : Int)
   ·rw [if_pos h] at e; exact e ▸ hx
   ·rw [if_neg h] at e; omega
  ·intro h
   exact ⟨_, h, by rw [if_pos (by omega)]⟩
 have hmid : ∀ k : Nat, N ≤ k → k < N + r → (k : Int) ∉ ws.map (gapF N r) := by
  intro k h1 h2 h
  obtain ⟨x, hx, e⟩ := List.mem_map.1 h
  unfold gapF at e
  by_cases h : x < (N : Int)
  ·rw [if_pos h] at e; omega
  ·rw [if_neg h] at e; omega
 have hhi : ∀ k : Nat, N ≤ k → (((k + r : Nat) : Int) ∈ ws.map (gapF N r) ↔ (k : Int) ∈ ws) := by
  intro k hk
  rw [List.mem_map]
  unfold gapF
  constructor
  ·rintro ⟨x, hx, e⟩
   by_cases h : x < (N : Int)
   ·rw [if_pos h] at e; omega
   ·rw [if_neg h] at e
    have : x = (k : Int) := by omega
    exact this ▸ hx
  ·intro h
   exact ⟨_, h, by rw [if_neg (by omega)]; omega⟩
 have h1 : ∀ k, k ≤ N → cntM (ws.map (gapF N r)) k = cntM ws k := by
  intro k
  induction k with
  | zero => exact fun _ => rfl
  | succ k ih =>
   intro hk
   rw [cntM_succ, cntM_succ, ih (by omega)]
   by_cases h : (k : Int) ∈ ws
   ·rw [if_pos h, if_pos ((hlo k (by omega)).2 h)]
   ·rw [if_neg h, if_neg (fun q => h ((hlo k (by omega)).1 q))]
 have h2 : ∀ j, j ≤ r → cntM (ws.map (gapF N r)) (N + j) = cntM ws N := by
  intro j
  induction j with
  | zero => exact fun _ => h1 N (Nat.le_refl _)
  | succ j ih =>
   intro hj
   rw [show N + (j + 1) = (N + j) + 1 by omega, cntM_succ, ih (by omega), if_neg (hmid (N + j) (by omega) (by omega)), Nat.add_zero]
 refine ⟨h1, fun k hk _ => ?_⟩
 obtain ⟨d, rfl⟩ := Nat.exists_eq_add_of_le hk
 clear hk
 induction d with
 | zero => exact h2 r (Nat.le_refl _)
 | succ d ih =>
  rw [show N + (d + 1) + r = (N + d + r) + 1 by omega, cntM_succ, ih, show N + (d + 1) = (N + d) + 1 by omega, cntM_succ]
  by_cases h : ((N + d : Nat) : Int) ∈ ws
  ·rw [if_pos h, if_pos ((hhi (N + d) (by omega)).2 h)]
  ·rw [if_neg h, if_neg (fun q => h ((hhi (N + d) (by omega)).1 q))]
theorem num_gap {ws : List Int} {N r t : Nat} (hw : ∀ x ∈ ws, 0 ≤ x ∧ x < ((N + t : Nat) : Int)) {x : Int} (hx : x ∈ ws) : ofL (numL (upL (N + r + t)) (ws.map (gapF N r)) (N + r + t)) (gapF N r x) = ofL (numL (upL (N + t)) ws (N + t)) x := by
 have hx2 := hw x hx
 have hg : ∀ y ∈ ws.map (gapF N r), 0 ≤ y ∧ y < ((N + r + t : Nat) : Int) := by
  intro y hy
  obtain ⟨z, hz, rfl⟩ := List.mem_map.1 hy
  have := hw z hz
  unfold gapF
  split <;> omega
 have hgx : gapF N r x ∈ ws.map (gapF N r) := List.mem_map.2 ⟨x, hx, rfl⟩
 have hgr := hg _ hgx
 rw [num_at hgr.1 hgr.2, num_at hx2.1 hx2.2]
 unfold numX
 rw [ofL_up' hgr.1 hgr.2, ofL_up' hx2.1 hx2.2, used_up hg, used_up hw, if_pos (by simpa using hgx), if_pos (by simpa using hx)]
 rw [cntR_up hg (by omega), cntR_up hw (by omega)]
 obtain ⟨k, rfl⟩ := Int.eq_ofNat_of_zero_le hx2.1
 rw [Int.toNat_natCast]
 by_cases hk : k < N
 ·rw [show gapF N r (k : Int) = (k : Int) by unfold gapF; rw [if_pos (by omega)], Int.toNat_natCast, cntM_gap.1 k (by omega)]
 ·rw [show (gapF N r (k : Int)).toNat = k + r by unfold gapF; rw [if_neg (by omega)]; omega, cntM_gap.2 k (by omega) (fun y hy => (hw y hy).1)]
theorem cnt_gap {ws : List Int} {N r t : Nat} (hw : ∀ x ∈ ws, 0 ≤ x ∧ x < ((N + t : Nat) : Int)) : cntR (upL (N + r + t)) (ws.map (gapF N r)) (N + r + t) = cntR (upL (N + t)) ws (N + t) := by
 have hg : ∀ y ∈ ws.map (gapF N r), 0 ≤ y ∧ y < ((N + r + t : Nat) : Int) := by
  intro y hy
  obtain ⟨z, hz, rfl⟩ := List.mem_map.1 hy
  have := hw z hz
  unfold gapF
  split <;> omega
 rw [cntR_up hg (Nat.le_refl _), cntR_up hw (Nat.le_refl _), show N + r + t = (N + t) + r by omega, cntM_gap.2 (N + t) (by omega) (fun y hy => (hw y hy).1)]
def mapF (f : Int → Int) (n : Int) (g : Gr) : Gr := ⟨n, g.es.map fun e => ⟨e.k, e.v, e.i.map f, e.o.map f⟩, g.i.map f, g.o.map f⟩
theorem wires_mapF (f : Int → Int) (n : Int) (g : Gr) : wiresL (mapF f n g) = (wiresL g).map f := by
 unfold wiresL mapF wiresE
 simp only [List.map_append, List.flatMap_map, List.map_flatMap]
theorem glue_gap {g : Gr} {N r t : Nat} (hn : g.n = ((N + t : Nat) : Int)) (hw : ∀ x ∈ wiresL g, 0 ≤ x ∧ x < ((N + t : Nat) : Int)) : glueG (classOf (N + r + t) []) (mapF (gapF N r) ((N + r + t : Nat) : Int) g) = glueG (classOf (N + t) []) g := by
 show glueG (upL (N + r + t)) _ = glueG (upL (N + t)) _
 have h1 : (mapF (gapF N r) ((N + r + t : Nat) : Int) g).n.toNat = N + r + t := Int.toNat_natCast _
 have h2 : g.n.toNat = N + t := by rw [hn]; exact Int.toNat_natCast _
 unfold glueG
 rw [h1, h2, wires_mapF, cnt_gap hw]
 have hx := fun x (hx : x ∈ wiresL g) => num_gap (r := r) hw hx
 generalize numL (upL (N + t)) (wiresL g) (N + t) = F2 at *
 generalize numL (upL (N + r + t)) ((wiresL g).map (gapF N r)) (N + r + t) = F1 at *
 unfold mapG mapF
 rw [Gr.mk.injEq]
 refine ⟨rfl, ?_, ?_, ?_⟩
 ·rw [List.map_map]
  refine List.map_congr_left fun e he => ?_
  show Ed.mk e.k e.v _ _ = Ed.mk e.k e.v _ _
  rw [List.map_map, List.map_map, Ed.mk.injEq]
  exact ⟨rfl, rfl, List.map_congr_left fun x h => hx x (mem_wiresG.2 (Or.inr (Or.inr ⟨e, he, Or.inl h⟩))), List.map_congr_left fun x h => hx x (mem_wiresG.2 (Or.inr (Or.inr ⟨e, he, Or.inr h⟩)))⟩
 ·rw [List.map_map]
  exact List.map_congr_left fun x h => hx x (mem_wiresG.2 (Or.inl h))
 ·rw [List.map_map]
  exact List.map_congr_left fun x h => hx x (mem_wiresG.2 (Or.inr (Or.inl h)))
theorem ctx_glue {g p : Gr} {W E : List Int} {n r : Nat} (hg : grB g = true) (hp : grB p = true) (hM : IsMt g p ⟨W, E⟩) (hn : g.n = n) (hr : r ≤ 200) : glueG (classOf (n + r + (thru p W).length) []) (ctxG g p W E ((n + r : Nat) : Int)) = glueG (classOf (n + (thru p W).length) []) (ctxG g p W E (n : Int)) := by
 have ok := ctx_ok (r := 0) hg hp hM hn (by omega)
 have hw := ok.w
 obtain ⟨n', hn', a1, a2, a3, a4, a5, a6, _⟩ := grB_n hg
 obtain ⟨m, hm, b1, b2, b3, b4, b5, b6, _⟩ := grB_n hp
 have e1 : n' = n := by omega
 subst e1
 have ra := rngB_iff.1 a5
 have rb := rngB_iff.1 b5
 rw [hn] at ra
 rw [hm] at rb
 have hW : ∀ x, 0 ≤ x → x < (m : Int) → 0 ≤ ofL W x ∧ ofL W x < (n' : Int) := by
  intro x h0 h1
  have hl := hM.lw
  simp only at hl
  have := hM.rw (W.getD x.toNat 0) (getD_mem' (by rw [hl]; omega))
  rw [hn] at this
  exact this
 have hmap : ctxG g p W E ((n' + r : Nat) : Int) = mapF (gapF n' r) ((n' + r + (thru p W).length : Nat) : Int) (ctxG g p W E (n' : Int)) := by
  have hd : ∀ x, 0 ≤ x → x < (n' : Int) → dstF (thru p W) ((n' + r : Nat) : Int) x = gapF n' r (dstF (thru p W) (n' : Int) x) := by
   intro x h0 h1
   rw [show ((n' + r : Nat) : Int) = (n' : Int) + (r : Int) by omega]
   exact gap_dst h0 h1 (by omega)
  have hs : ∀ x, 0 ≤ x → x < (n' : Int) → x = gapF n' r x := by
   intro x h0 h1
   unfold gapF
   rw [if_pos h1]
  unfold ctxG mapF
  rw [Gr.mk.injEq]
  refine ⟨by omega, ?_, ?_, ?_⟩
  ·unfold cutEs
   rw [List.map_map]
   refine List.map_congr_left fun i hi => ?_
   have h2 := List.mem_range.1 (List.mem_filter.1 hi).1
   have hmem : g.es.getD i e0 ∈ g.es := by
    rw [List.getD_eq_getElem?_getD, List.getElem?_eq_getElem h2]
    exact List.getElem_mem _
   show leftE _ _ (g.es.getD i e0) = Ed.mk (leftE _ _ (g.es.getD i e0)).k (leftE _ _ (g.es.getD i e0)).v (List.map _ (leftE _ _ (g.es.getD i e0)).i) (List.map _ (leftE _ _ (g.es.getD i e0)).o)
   generalize g.es.getD i e0 = e at *
   unfold leftE
   rw [Ed.mk.injEq]
   refine ⟨rfl, rfl, ?_, ?_⟩
   ·rw [List.map_map]
    refine List.map_congr_left fun x hx => ?_
    have := ra x (mem_wiresG.2 (Or.inr (Or.inr ⟨e, hmem, Or.inl hx⟩)))
    exact hd x this.1 this.2
   ·rw [← List.map_id e.o, List.map_map]
    refine List.map_congr_left fun x hx => ?_
    have := ra x (mem_wiresG.2 (Or.inr (Or.inr ⟨e, hmem, Or.inr hx⟩)))
    exact hs x this.1 this.2
  ·rw [List.map_append]
   congr 1
   ·rw [← List.map_id g.i, List.map_map]
    refine List.map_congr_left fun x hx => ?_
    have := ra x (mem_wiresG.2 (Or.inl hx))
    exact hs x this.1 this.2
   ·unfold outsL
    rw [List.map_map]
    refine List.map_congr_left fun x hx => ?_
    have h1 := rb x (mem_wiresG.2 (Or.inr (Or.inl hx)))
    have h2 := hW x h1.1 h1.2
    exact hd _ h2.1 h2.2
  ·rw [List.map_append]
   congr 1
   ·rw [List.map_map]
    refine List.map_congr_left fun x hx => ?_
    have := ra x (mem_wiresG.2 (Or.inr (Or.inl hx)))
    exact hd x this.1 this.2
   ·unfold insL
    rw [List.map_map]
    refine List.map_congr_left fun x hx => ?_
    have h1 := rb x (mem_wiresG.2 (Or.inl hx))
    have h2 := hW x h1.1 h1.2
    exact hs _ h2.1 h2.2
 rw [hmap]
 exact glue_gap ok.hm hw
noncomputable def ctxK (g p : Gr) (W E : List Int) : Gr := glueG (classOf (g.n.toNat + (thru p W).length) []) (ctxG g p W E g.n)
noncomputable def ctxB (g : Gr) (s : ByteArray) (x y : List Nd) (W E : List Int) : Bool := askB g s x y W E && grB (ctxK g (grT x) W E)
theorem ask_parts {g : Gr} {s : ByteArray} {x y : List Nd} {W E : List Int} (h : askB g s x y W E = true) : grB g = true ∧ monB g = true ∧ rlB s x y = true ∧ grB (grT x) = true ∧ grB (grT y) = true ∧ IsMt g (grT x) ⟨W, E⟩ ∧ ((grT x).i.Nodup ∧ (grT x).o.Nodup) ∧ (grT y).i.Nodup ∧ (grT y).o.Nodup := by
 unfold askB at h
 simp only [Bool.and_eq_true] at h
 obtain ⟨h1, h2, h3, h4⟩ := h
 have h5 := rlB_grT h1
 have h6 := h1
 unfold rlB at h1
 simp only [Bool.and_eq_true] at h1
 exact ⟨h2, h3, h6, h5.1, h5.2, tst_iff.1 h4, grT_dup h1.1.1 h1.2.2.2.1, grT_dup h1.1.2 h1.2.2.2.2⟩
theorem Bag_own {l : List Asrt} (h : ∀ A ∈ l, ∀ k, A.sees k → A.foot k) : ∀ k, (Bag l).sees k → (Bag l).foot k := by
 rintro k ⟨A, hA, hk⟩
 exact ⟨A, hA, h A hA k hk⟩
theorem Sep.graftN {w w' : World} {l r : List Asrt} (h : Sep w r) (h' : Sep w' (l ++ [KeepA w])) (hA : ∀ A ∈ l, ∀ k, A.sees k → A.foot k) : Sep w' (l ++ r) := Sep.unbag (h.graft1 (Sep.bag h') (Bag_own hA))
theorem glue_len (C : List Int) (G : Gr) : (glueG C G).es.length = G.es.length ∧ (glueG C G).i.length = G.i.length ∧ (glueG C G).o.length = G.o.length := by
 unfold glueG mapG
 simp only [List.length_map, and_self]
set_option maxHeartbeats 8000000 in
theorem sContextOf_any (g : Gr) (s : ByteArray) (x y : List Nd) (W E : List Int) (gev giv gov : Value) (xa ya wa ea : Option Addr) (xc yc wc ec : Nat) (w : World) (he : RdE edgeE w gev g.es) (hi : IntsV w giv g.i) (ho : IntsV w gov g.o) (l0 : g.es.length ≤ 2000000) (l1 : g.i.length ≤ 2000000) (l2 : g.o.length ≤ 2000000)
 (hx : RdR nodeE w (.slice xa x.length xc) x) (hxc : x.length ≤ xc) (hy : RdR nodeE w (.slice ya y.length yc) y) (hyc : y.length ≤ yc) (hxl : x.length ≤ 2000000) (hyl : y.length ≤ 2000000) (hs : s.size ≤ 1000000000000) (hw : IntsV w (.slice wa W.length wc) W) (hwc : W.length ≤ wc) (hE : IntsV w (.slice ea E.length ec) E) (hec : E.length ≤ ec) (hWl : W.length ≤ 2000000) (hEl : E.length ≤ 2000000) :
 Calls Tryz.prog 9 #[grV g.n gev giv gov, .agg #[.string s, .slice xa x.length xc, .slice ya y.length yc], .agg #[.slice wa W.length wc, .slice ea E.length ec]] w (MadeR (ctxB g s x y W E) (ctxK g (grT x) W E) w) := by
 have HAK := qd fun W1 (hW : w.grownBy W1 none) => rwAsk_any g s x y W E gev giv gov xa ya wa ea xc yc wc ec W1 (he.carry hW) (hi.carry hW) (ho.carry hW) l0 l1 l2 (hx.carry hW) hxc (hy.carry hW) hyc hxl hyl hs (hw.carry hW) hwc (hE.carry hW) hec hWl hEl
 cases hab : askB g s x y W E
 ·rw [hab] at HAK
  rw [show ctxB g s x y W E = false by unfold ctxB; rw [hab]; rfl]
  obtain ⟨a0, c0, rfl⟩ := he.shape
  obtain ⟨a1, c1, rfl⟩ := hi.shape
  obtain ⟨a2, c2, rfl⟩ := ho.shape
  clear he hi ho hx hy l0 l1 l2 hxl hyl hs hxc hyc hw hwc hE hec hWl hEl hab
  unfold grV at *
  generalize ctxK g (grT x) W E = KK
  generalize grT x = P1 at *
  generalize grT y = P2 at *
  generalize g.n = n at *
  generalize hne : g.es.length = ne at *
  generalize hni : g.i.length = ni at *
  generalize hno : g.o.length = no at *
  generalize x.length = lx at *
  generalize y.length = ly at *
  generalize hlw : W.length = lw at *
  generalize hle : E.length = le at *
  clear hne hni hno hlw hle
  have HS0 := qd (((((Sep.start w).boxAt w.heap.size rfl #[.int .i64 n, .slice a0 ne c0, .slice a1 ni c1, .slice a2 no c2] 38).boxAt (w.heap.size + 1) (by simp) #[.string s, .slice xa lx xc, .slice ya ly yc] 46).boxAt (w.heap.size + 2) (by simp) #[.slice wa lw wc, .slice ea le ec] 48).boxAt (w.heap.size + 3) (by simp) #[.int .i64 0, .slice none 0 0, .slice none 0 0, .slice none 0 0] 38)
  have HK0 := qd (show w.grownBy _ none from HS0.out.tl.tl.tl.tl.hd)
  obtain ⟨y0, y1, y2⟩ := bw3 HS0.out.tl.tl.hd
  obtain ⟨g0, g1, g2, g3, _⟩ := gq4 HS0.out.tl.tl.tl.hd
  obtain ⟨m0, m1, _⟩ := bw2 HS0.out.tl.hd
  go_enter Tryz.func9, Tryz.ntmps9
  go_upto_region 2 with (
   go_at_call 29
   with_reducible refine (HAK.out _ HK0.out).mono ?_
   rintro e w3 ⟨G1, G2, a1_, b1_, c1_, d1, e1, f1, s1, t1, u1, v1, q1, r1, xs, ys, hGG, rfl, hxy, hsg⟩
   have HGG := qd hGG; have HXY := qd hxy
   have HS3 := qd (((HS0.out.graft2 hsg OX3_own OX3_own).boxAt w3.heap.size rfl #[.int .i64 G1.n, .slice a1_ G1.es.length s1, .slice b1_ G1.i.length t1, .slice c1_ G1.o.length u1] 38).boxAt (w3.heap.size + 1) (by simp) #[.int .i64 G2.n, .slice d1 G2.es.length v1, .slice e1 G2.i.length q1, .slice f1 G2.o.length r1] 38)
   clear hsg hGG hxy y0 y1 y2 g0 g1 g2 g3 m0 m1
   clear HGG)
  generalize (w3.alloc (.cells #[.int .i64 G1.n, .slice a1_ G1.es.length s1, .slice b1_ G1.i.length t1, .slice c1_ G1.o.length u1] 38)).alloc (.cells #[.int .i64 G2.n, .slice d1 G2.es.length v1, .slice e1 G2.i.length q1, .slice f1 G2.o.length r1] 38) = w4 at *
  have hz0 := Sep.blk (A := [_, _, _, _]) (B := [_]) HS3.out
  obtain ⟨y0, y1, y2, y3, f0, f1_, f2, f3⟩ := gq4 hz0.hd
  have hz1 := ((((hz0.setB 0 (.int .i64 0)).setB 1 (.slice none 0 0)).setB 2 (.slice none 0 0)).setB 3 (.slice none 0 0))
  obtain ⟨z0, z1, z2, z3, _⟩ := gq4 hz1.hd
  have HKF := qd (show w.grownBy _ none from Sep.all hz1 (KeepA w) (by simp))
  clear hz0 hz1
  go_wp2_with fail
  refine bodyPost_ret_by (v := .tuple #[.agg #[.int .i64 0, .slice none 0 0, .slice none 0 0, .slice none 0 0], .bool false]) ?_ rfl (MadeR.zero HKF.out)
  simp [results, go_sem, *]
 ·rw [hab] at HAK
  have HAB := qd hab
  obtain ⟨hg, hmo, hrl, hp, _, hM, hdi, _⟩ := ask_parts hab
  obtain ⟨N, hN, hN1, b1, b2, b3, b4, b5, _⟩ := grB_n hg
  have hok := ctx_ok (r := 0) hg hp hM hN (by omega)
  have HRW := qd fun W1 (hW : w.grownBy W1 none) u0 u1 u2 (h0 : RdX W1 (grT x) u0 u1 u2) => rwOpen_any g (grT x) W E N 0 hg hp hM hdi.1 hN (by omega) gev giv gov u0 u1 u2 wa ea wc ec W1 (he.carry hW) (hi.carry hW) (ho.carry hW) h0.1 h0.2.1 h0.2.2 (hw.carry hW) (hE.carry hW)
  have hKe : ctxK g (grT x) W E = glueG (classOf (N + 0 + (thru (grT x) W).length) []) (ctxG g (grT x) W E ((N + 0 : Nat) : Int)) := by unfold ctxK; rw [hN]; rfl
  have HGL := qd fun u0 u1 u2 W1 (h1 : RdE edgeE W1 u0 (ctxG g (grT x) W E ((N + 0 : Nat) : Int)).es) (h2 : IntsV W1 u1 (ctxG g (grT x) W E ((N + 0 : Nat) : Int)).i) (h3 : IntsV W1 u2 (ctxG g (grT x) W E ((N + 0 : Nat) : Int)).o) => hgGlue_any u0 u1 u2 (ctxG g (grT x) W E ((N + 0 : Nat) : Int)) (N + 0 + (thru (grT x) W).length) (.slice none 0 0) (.slice none 0 0) [] W1 h1 h2 h3 (IntsV.nil _) (IntsV.nil _) hok
  unfold GluedG at HGL
  rw [← hKe] at HGL
  have hkl := glue_len (classOf (N + 0 + (thru (grT x) W).length) []) (ctxG g (grT x) W E ((N + 0 : Nat) : Int))
  rw [← hKe] at hkl
  have hbd := hok.e; have hbi := hok.i; have hbo := hok.o
  have HHI := qd fun u0 u1 u2 W1 h1 h2 h3 => hgIf_any u0 u1 u2 (ctxK g (grT x) W E) W1 h1 h2 h3 (by omega) (by omega) (by omega)
  have htl : (thru (grT x) W).length ≤ 12 := by have := thru_len (grT x) W (grT x).i.length; obtain ⟨_, _, _, _, c3, _⟩ := grB_n hp; unfold thru; omega
  have hcb : ctxB g s x y W E = grB (ctxK g (grT x) W E) := by unfold ctxB; rw [hab]; rfl
  rw [hcb]
  rw [show ((0 : Nat) : Int) = 0 from rfl] at HRW
  unfold CutR at HRW
  rw [show (ctxG g (grT x) W E ((N + 0 : Nat) : Int)).es = cutEs g E (thru (grT x) W) ((N + 0 : Nat) : Int) g.es.length from rfl, show (ctxG g (grT x) W E ((N + 0 : Nat) : Int)).i = g.i ++ outsL (grT x) W ((N + 0 : Nat) : Int) from rfl, show (ctxG g (grT x) W E ((N + 0 : Nat) : Int)).o = g.o.map (dstF (thru (grT x) W) ((N + 0 : Nat) : Int)) ++ insL (grT x) W from rfl, show (ctxG g (grT x) W E ((N + 0 : Nat) : Int)).n = ((N + 0 : Nat) : Int) + ((thru (grT x) W).length : Int) from rfl] at HGL
  obtain ⟨n9, hn9⟩ : ∃ z : Int, ((N + 0 : Nat) : Int) + ((thru (grT x) W).length : Int) = z := ⟨_, rfl⟩
  rw [hn9] at HRW HGL
  clear hn9
  have hl9 : g.i.length + (outsL (grT x) W ((N + 0 : Nat) : Int)).length ≤ 40 ∧ (g.o.map (dstF (thru (grT x) W) ((N + 0 : Nat) : Int))).length + (insL (grT x) W).length ≤ 40 := by rw [← List.length_append, ← List.length_append]; exact ⟨hbi, hbo⟩
  have HL9 := qd hl9
  generalize outsL (grT x) W ((N + 0 : Nat) : Int) = OL at *
  generalize insL (grT x) W = IL at *
  generalize g.o.map (dstF (thru (grT x) W) ((N + 0 : Nat) : Int)) = GO at *
  generalize cutEs g E (thru (grT x) W) ((N + 0 : Nat) : Int) g.es.length = CE at *
  generalize edTo E g.es.length = ET at *
  generalize ctxK g (grT x) W E = K at *
  obtain ⟨kb, hkb⟩ : ∃ b, grB K = b := ⟨_, rfl⟩
  rw [hkb] at HHI ⊢
  obtain ⟨a0, c0, rfl⟩ := he.shape
  obtain ⟨a1, c1, rfl⟩ := hi.shape
  obtain ⟨a2, c2, rfl⟩ := ho.shape
  clear he hi ho hx hy l0 l1 l2 hxl hyl hs hxc hyc hw hwc hE hec hWl hEl hab hg hmo hrl hp hM hdi hN hN1 b1 b2 b3 b4 b5 hok hKe hkl hbd hbi hbo htl hcb hkb hl9
  unfold grV at *
  generalize hpx : grT x = P1 at *
  generalize grT y = P2 at *
  generalize g.n = n at *
  generalize hne : g.es.length = ne at *
  generalize hni : g.i.length = ni at *
  have HNI := qd hni
  generalize hno : g.o.length = no at *
  generalize x.length = lx at *
  generalize y.length = ly at *
  generalize hlw : W.length = lw at *
  generalize hle : E.length = le at *
  clear hne hni hno hlw hle hpx
  have HS0 := qd (((((Sep.start w).boxAt w.heap.size rfl #[.int .i64 n, .slice a0 ne c0, .slice a1 ni c1, .slice a2 no c2] 38).boxAt (w.heap.size + 1) (by simp) #[.string s, .slice xa lx xc, .slice ya ly yc] 46).boxAt (w.heap.size + 2) (by simp) #[.slice wa lw wc, .slice ea le ec] 48).boxAt (w.heap.size + 3) (by simp) #[.int .i64 0, .slice none 0 0, .slice none 0 0, .slice none 0 0] 38)
  have HK0 := qd (show w.grownBy _ none from HS0.out.tl.tl.tl.tl.hd)
  obtain ⟨y0, y1, y2⟩ := bw3 HS0.out.tl.tl.hd
  obtain ⟨g0, g1, g2, g3, _⟩ := gq4 HS0.out.tl.tl.tl.hd
  obtain ⟨m0, m1, _⟩ := bw2 HS0.out.tl.hd
  go_enter Tryz.func9, Tryz.ntmps9
  go_upto_region 4 with (
   go_at_call 29
   with_reducible refine (HAK.out _ HK0.out).mono ?_
   rintro e w3 ⟨G1, G2, a1_, b1_, c1_, d1, e1, f1, s1, t1, u1, v1, q1, r1, xs, ys, hGG, rfl, hxy, hsg⟩
   have HGG := qd hGG; have HXY := qd hxy
   have HS3 := qd (((HS0.out.graft2 hsg OX3_own OX3_own).boxAt w3.heap.size rfl #[.int .i64 G1.n, .slice a1_ G1.es.length s1, .slice b1_ G1.i.length t1, .slice c1_ G1.o.length u1] 38).boxAt (w3.heap.size + 1) (by simp) #[.int .i64 G2.n, .slice d1 G2.es.length v1, .slice e1 G2.i.length q1, .slice f1 G2.o.length r1] 38)
   clear hsg hGG hxy y0 y1 y2 g0 g1 g2 g3 m0 m1)
  generalize (w3.alloc (.cells #[.int .i64 G1.n, .slice a1_ G1.es.length s1, .slice b1_ G1.i.length t1, .slice c1_ G1.o.length u1] 38)).alloc (.cells #[.int .i64 G2.n, .slice d1 G2.es.length v1, .slice e1 G2.i.length q1, .slice f1 G2.o.length r1] 38) = w4 at *
  generalize w3.heap.size = nb at *
  obtain ⟨hg1, hg2⟩ := HGG.out (by trivial)
  subst hg1 hg2
  have HK3 := qd (show w.grownBy _ none from HS3.out.tl.tl.tl.tl.tl.tl.tl.tl.hd)
  obtain ⟨n0, n1, n2, n3, _⟩ := gq4 HS3.out.tl.hd
  obtain ⟨m0, m1, _⟩ := bw2 HS3.out.tl.tl.tl.tl.tl.hd
  obtain ⟨g0, g1, g2, g3, _⟩ := gq4 HS3.out.tl.tl.tl.tl.tl.tl.tl.hd
  go_upto_region 5 with (
   go_at_call 30
   with_reducible refine (HRW.out _ HK3.out _ _ _ (OX3.read (g := G1) HS3.out.tl.tl.hd HXY.out.1)).mono ?_
   rintro e w5 ⟨k0, zs, k1, k2, k3, k4, k5, rfl, hz, hsg⟩
   have HZ := qd hz
   obtain ⟨s0, r0, rfl⟩ := OE.shape hsg.hd
   obtain ⟨h1, j1, rfl⟩ := own_shape hsg.tl.hd
   obtain ⟨h2, j2, rfl⟩ := own_shape hsg.tl.tl.hd
   obtain ⟨h3, j3, rfl⟩ := own_shape hsg.tl.tl.tl.hd
   obtain ⟨h4, j4, rfl⟩ := own_shape hsg.tl.tl.tl.tl.hd
   obtain ⟨h5, j5, rfl⟩ := own_shape hsg.tl.tl.tl.tl.tl.hd
   have hni2 := HNI.out
   try rw [hni2]
   try rw [hni2] at hsg
   have hs4 := Sep.graftN (l := [_, _, _, _, _, _]) HS3.out hsg (by simp only [List.mem_cons, List.not_mem_nil, or_false, forall_eq_or_imp, forall_eq]; exact ⟨OE_own, OI_own, OI_own, OI_own, OI_own, OI_own⟩)
   have HS4 := qd (hs4.boxAt w5.heap.size rfl #[.int .i64 n9, .slice s0 zs.length r0, .slice h1 ni j1, .slice h2 GO.length j2, .slice h3 IL.length j3, .slice h4 OL.length j4, .slice h5 ET.length j5] 65)
   clear hsg hs4 hz hni2 n0 n1 n2 n3 m0 m1 g0 g1 g2 g3)
  generalize w5.alloc (.cells #[.int .i64 n9, .slice s0 zs.length r0, .slice h1 ni j1, .slice h2 GO.length j2, .slice h3 IL.length j3, .slice h4 OL.length j4, .slice h5 ET.length j5] 65) = w6 at *
  generalize w5.heap.size = ob at *
  clear HS3 HK3 HRW HK0 HS0
  obtain ⟨c0, c1_, c2_, c3, c4, c5, c6⟩ := rq7 HS4.out.hd
  obtain ⟨f0, f1_, f2, f3, f4, f5, f6⟩ := rf7 HS4.out.hd
  have HSA := qd HS4.out.s3
  have HTR := qd (OwnInts.read (show OwnInts 0 w6 (.slice h4 OL.length j4) OL from HS4.out.tl.tl.tl.tl.tl.hd))
  go_upto_region 6 with (
   at_builtin
   refine app_intsS rfl _ _ rfl rfl rfl HSA.out HTR.out (by have := HL9.out; have := HNI.out; omega) ?_
   intro v7 w7 h7
   obtain ⟨h6, j6, rfl⟩ := own_shape h7.hd
   generalize (g.i ++ OL).length = li at *
   have HS7 := qd h7
   obtain ⟨p0, p1, p2, p3, p4, p5, p6⟩ := rq7 h7.tl.hd
   obtain ⟨l0, l1, l2, l3, l4, l5, l6⟩ := rf7 h7.tl.hd
   clear h7 c0 c1_ c2_ c3 c4 c5 c6 f0 f1_ f2 f3 f4 f5 f6)
  have HS8 := qd (HS7.out.s2.setB 2 (.slice h6 li j6))
  clear p0 p1 p2 p3 p4 p5 p6 l0 l1 l2 l3 l4 l5 l6
  generalize w7.setCell ⟨ob, 2, none⟩ (.slice h6 li j6) = w8 at *
  obtain ⟨c0, c1_, c2_, c3, c4, c5, c6⟩ := rq7 HS8.out.hd
  obtain ⟨f0, f1_, f2, f3, f4, f5, f6⟩ := rf7 HS8.out.hd
  have HSB := qd HS8.out.s4
  have HTF := qd (OwnInts.read (show OwnInts 0 w8 (.slice h3 IL.length j3) IL from HS8.out.tl.tl.tl.tl.hd))
  go_upto_region 7 with (
   at_builtin
   refine app_intsS rfl _ _ rfl rfl rfl HSB.out HTF.out (by have := HL9.out; omega) ?_
   intro v9 w9 h9
   obtain ⟨h8, j8, rfl⟩ := own_shape h9.hd
   generalize (GO ++ IL).length = lo at *
   have HS9 := qd h9
   obtain ⟨p0, p1, p2, p3, p4, p5, p6⟩ := rq7 h9.tl.hd
   obtain ⟨l0, l1, l2, l3, l4, l5, l6⟩ := rf7 h9.tl.hd
   clear h9 c0 c1_ c2_ c3 c4 c5 c6 f0 f1_ f2 f3 f4 f5 f6)
  have HSC := qd (HS9.out.s2.setB 3 (.slice h8 lo j8))
  clear p0 p1 p2 p3 p4 p5 p6 l0 l1 l2 l3 l4 l5 l6
  generalize w9.setCell ⟨ob, 3, none⟩ (.slice h8 lo j8) = wd at *
  obtain ⟨c0, c1_, c2_, c3, c4, c5, c6⟩ := rq7 HSC.out.hd
  have HCG := qd (HGL.out _ _ _ wd (by rw [← HZ.out]; exact OE.read HSC.out.tl.tl.tl.hd) (OwnInts.read (show OwnInts 0 wd (.slice h6 li j6) (g.i ++ OL) from HSC.out.tl.tl.hd)) (OwnInts.read (show OwnInts 0 wd (.slice h8 lo j8) (GO ++ IL) from HSC.out.tl.hd)))
  generalize zs.length = lz at *
  cases kb
  ·simp only [Bool.false_eq_true, if_false] at HHI
   unfold zgV at HHI
   go_wp2_with (first
    |(go_at_call 32
      with_reducible refine HCG.out.mono ?_
      rintro e we ⟨u0, us, z1, z2, rfl, hy, hsg⟩
      have HY := qd hy
      obtain ⟨t0, v0, rfl⟩ := OE.shape hsg.hd
      obtain ⟨t1_, v1_, rfl⟩ := own_shape hsg.tl.hd
      obtain ⟨t2, v2, rfl⟩ := own_shape hsg.tl.tl.hd
      have HSE := qd (HSC.out.graft3 hsg OE_own OI_own OI_own)
      have HCI := qd (HHI.out _ _ _ we (by rw [← hy]; exact OE.read hsg.hd) (OwnInts.read hsg.tl.hd) (OwnInts.read hsg.tl.tl.hd))
      clear hy hsg c0 c1_ c2_ c3 c4 c5 c6)
    |(go_at_call 31
      with_reducible refine HCI.out.mono ?_
      rintro e wf ⟨rfl, hg⟩
      have hs1 := Sep.blk (A := [_, _, _, _, _, _, _, _, _, _, _, _, _, _]) (B := [_]) (HSE.out.grown hg)
      obtain ⟨y0, y1, y2, y3, l0, l1, l2, l3⟩ := gq4 hs1.hd
      have hs2 := ((((hs1.setB 0 (.int .i64 0)).setB 1 (.slice none 0 0)).setB 2 (.slice none 0 0)).setB 3 (.slice none 0 0))
      obtain ⟨x0, x1, x2, x3, _⟩ := gq4 hs2.hd
      have HSF := qd (Sep.cutA (X := [_, _, _]) (A := [_, _, _, _, _, _, _, _, _, _, _, _, _, _]) hs2.tl)
      clear hg hs1 hs2))
   refine bodyPost_ret_by (v := .tuple #[.agg #[.int .i64 0, .slice none 0 0, .slice none 0 0, .slice none 0 0], .bool false]) ?_ rfl (MadeR.zero (show w.grownBy _ none from HSF.out.tl.tl.tl.hd))
   simp [results, go_sem, *]
  ·simp only [if_true] at HHI
   go_wp2_with (first
    |(go_at_call 32
      with_reducible refine HCG.out.mono ?_
      rintro e we ⟨u0, us, z1, z2, rfl, hy, hsg⟩
      have HY := qd hy
      obtain ⟨t0, v0, rfl⟩ := OE.shape hsg.hd
      obtain ⟨t1_, v1_, rfl⟩ := own_shape hsg.tl.hd
      obtain ⟨t2, v2, rfl⟩ := own_shape hsg.tl.tl.hd
      have HSE := qd (HSC.out.graft3 hsg OE_own OI_own OI_own)
      have HCI := qd (HHI.out _ _ _ we (by rw [← hy]; exact OE.read hsg.hd) (OwnInts.read hsg.tl.hd) (OwnInts.read hsg.tl.tl.hd))
      clear hy hsg c0 c1_ c2_ c3 c4 c5 c6)
    |(go_at_call 31
      with_reducible refine HCI.out.mono ?_
      rintro e wf ⟨rfl, hg⟩
      have hs1 := Sep.blk (A := [_, _, _, _, _, _, _, _, _, _, _, _, _, _]) (B := [_]) (HSE.out.grown hg)
      obtain ⟨y0, y1, y2, y3, l0, l1, l2, l3⟩ := gq4 hs1.hd
      have hs2 := ((((hs1.setB 0 (.int .i64 K.n)).setB 1 (.slice t0 us.length v0)).setB 2 (.slice t1_ K.i.length v1_)).setB 3 (.slice t2 K.o.length v2))
      obtain ⟨x0, x1, x2, x3, _⟩ := gq4 hs2.hd
      have HSF := qd (Sep.cutA (X := [_, _, _]) (A := [_, _, _, _, _, _, _, _, _, _, _, _, _, _]) hs2.tl)
      clear hg hs1 hs2))
   refine bodyPost_ret_by (v := .tuple #[.agg #[.int .i64 K.n, .slice t0 us.length v0, .slice t1_ K.i.length v1_, .slice t2 K.o.length v2], .bool true]) ?_ rfl ⟨_, us, _, _, rfl, HY.out, HSF.out⟩
   simp [results, go_sem, *]
theorem index_any (v : Value) (zs : List Int) (x : Int) (m : Nat) (w : World) (hv : IntsV w v zs) (hl : zs.length ≤ 1000000) (hm : m < zs.length) (he : zs.getD m 0 = x) (hn : ∀ j, j < m → zs.getD j 0 ≠ x) :
 Calls Tryz.prog 112 #[v, .int .i64 x] w fun e w' => e = .returned (.int .i64 m) ∧ w.grownBy w' none := by
 have HV := qd hv; have HN := qd hn; have HE := qd he
 obtain ⟨a, c, rfl⟩ := hv.shape
 generalize hl' : zs.length = l at *
 have HL := qd hl'
 clear hv hn he hl'
 go_enter Tryz.func112, Tryz.ntmps112
 go_wp2
 go_loopw [8] (fun i wr => ∃ k : Nat, k ≤ m ∧ i = .int .i64 k ∧ w.grownBy wr none) (fun i _ => l - (intOf i).toNat)
 case atStart => exact ⟨0, by omega, rfl, grownBy_refl _ _⟩
 case round =>
  obtain ⟨k, hk, rfl, hg⟩ := hrel
  have HG := qd hg
  clear hg
  have hlt : k < l := by omega
  obtain ⟨b1, o1, rfl, hb1, hc1⟩ := (HV.out.carry HG.out).atD (i := k) (by rw [HL.out]; exact hlt)
  clear hb1
  by_cases hkm : k = m
  ·subst hkm
   rw [HE.out] at hc1
   go_wp2
   go_ret
   exact ⟨rfl, HG.out⟩
  ·have hne := HN.out k (by omega)
   generalize zs.getD k 0 = y at *
   have hb : (x == y) = false := by rw [beq_eq_false_iff_ne]; exact fun h => hne h.symm
   go_wp2
   go_roundw
   case rel => exact ⟨k + 1, by omega, by go_num, HG.out⟩
   case measure => simp [intOf]; omega
theorem index_no (v : Value) (zs : List Int) (x : Int) (w : World) (hv : IntsV w v zs) (hl : zs.length ≤ 1000000) (hn : x ∉ zs) :
 Calls Tryz.prog 112 #[v, .int .i64 x] w fun e w' => e = .returned (.int .i64 (-1)) ∧ w.grownBy w' none := by
 have HV := qd hv; have HN := qd hn
 obtain ⟨a, c, rfl⟩ := hv.shape
 generalize hl' : zs.length = l at *
 have HL := qd hl'
 clear hv hn hl'
 go_enter Tryz.func112, Tryz.ntmps112
 go_wp2
 go_loopw [8] (fun i wr => ∃ k : Nat, k ≤ l ∧ i = .int .i64 k ∧ w.grownBy wr none) (fun i _ => l - (intOf i).toNat)
 case atStart => exact ⟨0, by omega, rfl, grownBy_refl _ _⟩
 case round =>
  obtain ⟨k, hk, rfl, hg⟩ := hrel
  have HG := qd hg
  clear hg
  by_cases hlt : k < l
  ·obtain ⟨b1, o1, rfl, hb1, hc1⟩ := (HV.out.carry HG.out).atD (i := k) (by rw [HL.out]; exact hlt)
   clear hb1
   have hne : x ≠ zs.getD k 0 := fun h => HN.out (by rw [h]; exact getD_mem' (by rw [HL.out]; exact hlt))
   generalize zs.getD k 0 = y at *
   have hb : (x == y) = false := by rw [beq_eq_false_iff_ne]; exact hne
   go_wp2
   go_roundw
   case rel => exact ⟨k + 1, by omega, by go_num, HG.out⟩
   case measure => simp [intOf]; omega
  ·go_wp2
   go_ret
   exact ⟨rfl, HG.out⟩
theorem first_idx {zs : List Int} {x : Int} (h : x ∈ zs) : ∃ m, m < zs.length ∧ zs.getD m 0 = x ∧ ∀ j, j < m → zs.getD j 0 ≠ x := by
 induction zs with
 | nil => cases h
 | cons y zs ih =>
  by_cases e : y = x
  ·exact ⟨0, by simp, by simpa using e, fun j hj => absurd hj (by omega)⟩
  ·have hx : x ∈ zs := by
    rcases List.mem_cons.1 h with h | h
    ·exact absurd h.symm e
    ·exact h
   obtain ⟨m, h1, h2, h3⟩ := ih hx
   refine ⟨m + 1, by simp; omega, by simpa using h2, fun j hj => ?_⟩
   cases j with
   | zero => simpa using e
   | succ j => simpa using h3 j (by omega)
theorem contains_any (v : Value) (zs : List Int) (x : Int) (w : World) (hv : IntsV w v zs) (hl : zs.length ≤ 1000000) :
 Calls Tryz.prog 75 #[v, .int .i64 x] w fun e w' => e = .returned (.bool (decide (x ∈ zs))) ∧ w.grownBy w' none := by
 by_cases h : x ∈ zs
 ·obtain ⟨m, h1, h2, h3⟩ := first_idx h
  have HI := qd fun W (hg : w.grownBy W none) => index_any v zs x m W (hv.carry hg) hl h1 h2 h3
  rw [decide_eq_true h]
  clear h1 h2 h3 h hv hl
  go_enter Tryz.func75, Tryz.ntmps75
  go_wp2_with (
   go_at_call 112
   with_reducible refine (HI.out _ (grownBy_refl _ _)).mono ?_
   rintro e w2 ⟨rfl, hg⟩
   have HG := qd hg
   clear hg)
  go_ret
  exact ⟨rfl, HG.out⟩
 ·have HI := qd fun W (hg : w.grownBy W none) => index_no v zs x W (hv.carry hg) hl h
  rw [decide_eq_false h]
  clear h hv hl
  go_enter Tryz.func75, Tryz.ntmps75
  go_wp2_with (
   go_at_call 112
   with_reducible refine (HI.out _ (grownBy_refl _ _)).mono ?_
   rintro e w2 ⟨rfl, hg⟩
   have HG := qd hg
   clear hg)
  go_ret
  exact ⟨rfl, HG.out⟩
theorem pattern_any (s : ByteArray) (x y : List Nd) (xv yv : Value) (w : World) (hx : RdR nodeE w xv x) (hy : RdR nodeE w yv y) (hb : tmB x = true) (hk : okT x = true) :
 Calls Tryz.prog 69 #[ruleV s xv yv] w (OwnG (grT x) w) := by
 have HG := qd fun W (hW : w.grownBy W none) => show Calls Tryz.prog 109 #[.agg #[xv]] W (MadeR (okT x) (grT x) W) from by
  obtain ⟨⟨b1, b2⟩, t, hok, hno, hp⟩ := tmB_tree hb
  obtain ⟨e1, e2, _⟩ := tree_eq hp
  rw [e1, e2]
  exact graphOf_any xv x t W (hx.carry hW) hp b1 b2
 rw [hk] at HG
 unfold MadeR at HG
 simp only [if_true] at HG
 obtain ⟨xa, xc, rfl⟩ := hx.shape
 obtain ⟨ya, yc, rfl⟩ := hy.shape
 unfold ruleV OwnG
 generalize x.length = n at *
 generalize y.length = m at *
 generalize grT x = P at *
 clear hx hy hb hk
 have HS0 := qd (((Sep.start w).boxAt w.heap.size rfl #[.string s, .slice xa n xc, .slice ya m yc] 46).boxAt (w.heap.size + 1) (by simp) #[.int .i64 0, .slice none 0 0, .slice none 0 0, .slice none 0 0] 38)
 have HK0 := qd (show w.grownBy _ none from HS0.out.tl.tl.hd)
 obtain ⟨x0, x1, x2⟩ := bw3 HS0.out.tl.hd
 unfold grV at *
 go_enter Tryz.func69, Tryz.ntmps69
 go_upto_region 2 with (
  go_at_call 109
  with_reducible refine (HG.out _ HK0.out).mono ?_
  rintro e w3 ⟨u0, xs, u1, u2, rfl, hxs, hsg⟩
  have HX := qd hxs
  obtain ⟨s0, r0, rfl⟩ := OE.shape hsg.hd
  obtain ⟨s1, r1, rfl⟩ := own_shape hsg.tl.hd
  obtain ⟨s2, r2, rfl⟩ := own_shape hsg.tl.tl.hd
  have HS1 := qd ((HS0.out.graft3 hsg OE_own OI_own OI_own).boxAt w3.heap.size rfl #[.int .i64 P.n, .slice s0 xs.length r0, .slice s1 P.i.length r1, .slice s2 P.o.length r2] 38)
  clear hsg hxs x0 x1 x2)
 generalize w3.alloc (.cells #[.int .i64 P.n, .slice s0 xs.length r0, .slice s1 P.i.length r1, .slice s2 P.o.length r2] 38) = w4 at *
 obtain ⟨y0, y1, y2, y3, _⟩ := gq4 HS1.out.hd
 have h1 := Sep.blk (A := [_, _, _, _]) (B := [_]) HS1.out
 obtain ⟨z0, z1, z2, z3, f0, f1, f2, f3⟩ := gq4 h1.hd
 have h2 := (((h1.setB 0 (.int .i64 P.n)).setB 1 (.slice s0 xs.length r0)).setB 2 (.slice s1 P.i.length r1)).setB 3 (.slice s2 P.o.length r2)
 obtain ⟨k0, k1, k2, k3, _⟩ := gq4 h2.hd
 have HF := qd (Sep.cutA (X := [_, _, _]) (A := [_]) h2.tl.tl)
 clear h1 h2
 go_wp2_with fail
 refine bodyPost_ret_by (v := .agg #[.int .i64 P.n, .slice s0 xs.length r0, .slice s1 P.i.length r1, .slice s2 P.o.length r2]) ?_ rfl ⟨_, xs, _, _, rfl, HX.out, HF.out⟩
 simp [results, go_sem, *]
theorem replacement_any (s : ByteArray) (x y : List Nd) (xv yv : Value) (w : World) (hx : RdR nodeE w xv x) (hy : RdR nodeE w yv y) (hb : tmB y = true) (hk : okT y = true) :
 Calls Tryz.prog 70 #[ruleV s xv yv] w (OwnG (grT y) w) := by
 have HG := qd fun W (hW : w.grownBy W none) => show Calls Tryz.prog 109 #[.agg #[yv]] W (MadeR (okT y) (grT y) W) from by
  obtain ⟨⟨b1, b2⟩, t, hok, hno, hp⟩ := tmB_tree hb
  obtain ⟨e1, e2, _⟩ := tree_eq hp
  rw [e1, e2]
  exact graphOf_any yv y t W (hy.carry hW) hp b1 b2
 rw [hk] at HG
 unfold MadeR at HG
 simp only [if_true] at HG
 obtain ⟨xa, xc, rfl⟩ := hx.shape
 obtain ⟨ya, yc, rfl⟩ := hy.shape
 unfold ruleV OwnG
 generalize x.length = n at *
 generalize y.length = m at *
 generalize grT y = P at *
 clear hx hy hb hk
 have HS0 := qd (((Sep.start w).boxAt w.heap.size rfl #[.string s, .slice xa n xc, .slice ya m yc] 46).boxAt (w.heap.size + 1) (by simp) #[.int .i64 0, .slice none 0 0, .slice none 0 0, .slice none 0 0] 38)
 have HK0 := qd (show w.grownBy _ none from HS0.out.tl.tl.hd)
 obtain ⟨x0, x1, x2⟩ := bw3 HS0.out.tl.hd
 unfold grV at *
 go_enter Tryz.func70, Tryz.ntmps70
 go_upto_region 2 with (
  go_at_call 109
  with_reducible refine (HG.out _ HK0.out).mono ?_
  rintro e w3 ⟨u0, xs, u1, u2, rfl, hxs, hsg⟩
  have HX := qd hxs
  obtain ⟨s0, r0, rfl⟩ := OE.shape hsg.hd
  obtain ⟨s1, r1, rfl⟩ := own_shape hsg.tl.hd
  obtain ⟨s2, r2, rfl⟩ := own_shape hsg.tl.tl.hd
  have HS1 := qd ((HS0.out.graft3 hsg OE_own OI_own OI_own).boxAt w3.heap.size rfl #[.int .i64 P.n, .slice s0 xs.length r0, .slice s1 P.i.length r1, .slice s2 P.o.length r2] 38)
  clear hsg hxs x0 x1 x2)
 generalize w3.alloc (.cells #[.int .i64 P.n, .slice s0 xs.length r0, .slice s1 P.i.length r1, .slice s2 P.o.length r2] 38) = w4 at *
 obtain ⟨y0, y1, y2, y3, _⟩ := gq4 HS1.out.hd
 have h1 := Sep.blk (A := [_, _, _, _]) (B := [_]) HS1.out
 obtain ⟨z0, z1, z2, z3, f0, f1, f2, f3⟩ := gq4 h1.hd
 have h2 := (((h1.setB 0 (.int .i64 P.n)).setB 1 (.slice s0 xs.length r0)).setB 2 (.slice s1 P.i.length r1)).setB 3 (.slice s2 P.o.length r2)
 obtain ⟨k0, k1, k2, k3, _⟩ := gq4 h2.hd
 have HF := qd (Sep.cutA (X := [_, _, _]) (A := [_]) h2.tl.tl)
 clear h1 h2
 go_wp2_with fail
 refine bodyPost_ret_by (v := .agg #[.int .i64 P.n, .slice s0 xs.length r0, .slice s1 P.i.length r1, .slice s2 P.o.length r2]) ?_ rfl ⟨_, xs, _, _, rfl, HX.out, HF.out⟩
 simp [results, go_sem, *]
theorem passes_any (ev iv ov : Value) (n : Int) (is os : List Int) (x : Int) (w : World) (hi : IntsV w iv is) (ho : IntsV w ov os) (l1 : is.length ≤ 1000000) (l2 : os.length ≤ 1000000) (e : Option Addr) (en ec : Nat) (hev : ev = .slice e en ec) (hx : x ∈ is) :
 Calls Tryz.prog 73 #[grV n ev iv ov, .int .i64 x] w fun z w' => z = .returned (.bool (decide (x ∈ os))) ∧ w.grownBy w' none := by
 subst hev
 have HI := qd fun W (hW : w.grownBy W none) => contains_any iv is x W (hi.carry hW) l1
 have HO := qd fun W (hW : w.grownBy W none) => contains_any ov os x W (ho.carry hW) l2
 rw [decide_eq_true hx] at HI
 obtain ⟨ia, ic, rfl⟩ := hi.shape
 obtain ⟨oa, oc, rfl⟩ := ho.shape
 generalize is.length = ni at *
 generalize os.length = no at *
 generalize decide (x ∈ os) = b at *
 clear hi ho hx
 unfold grV
 have HS0 := qd ((Sep.start w).boxAt w.heap.size rfl #[.int .i64 n, .slice e en ec, .slice ia ni ic, .slice oa no oc] 38)
 have HK0 := qd (show w.grownBy _ none from HS0.out.tl.hd)
 obtain ⟨x0, x1, x2, x3, _⟩ := gq4 HS0.out.hd
 go_enter Tryz.func73, Tryz.ntmps73
 go_wp2_with (first
  |(go_at_call 75
    with_reducible refine (HI.out _ HK0.out).mono ?_
    rintro e2 w2 ⟨rfl, hg⟩
    have HS1 := qd (HS0.out.grown hg)
    clear hg x0 x1 x2 x3
    obtain ⟨x0, x1, x2, x3, _⟩ := gq4 HS1.out.hd
    have HK1 := qd (show w.grownBy _ none from HS1.out.tl.hd))
  |(go_at_call 75
    with_reducible refine (HO.out _ HK1.out).mono ?_
    rintro e3 w3 ⟨rfl, hg⟩
    have HK2 := qd (grownBy_trans HK1.out hg)
    clear hg))
 go_ret
 exact ⟨by simp, HK2.out⟩
end Go.Proofs.YtjagjhchnpmngaaGreat

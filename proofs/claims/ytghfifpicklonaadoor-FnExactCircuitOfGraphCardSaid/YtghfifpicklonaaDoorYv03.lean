/-
  Does a graph lead back only by delays, in the reference. Conditions: at most 60 edges of at most two wires a side.
-/
import Derived.Test.YtghfifpicklonaaDoorYv02
namespace Go.Proofs.YtghfifpicklonaaDoor
open Go.RowKit
set_option linter.unusedVariables false
set_option maxRecDepth 100000

set_option maxHeartbeats 8000000 in
theorem crTimed_any (n : Int) (ev iv ov : Value) (es : List Ed) (is os : List Int) (w : World) (he : RdE edgeE w ev es) (hi : IntsV w iv is) (ho : IntsV w ov os) (hm : es.length ≤ 60) (hr : ∀ e ∈ es, e.i.length ≤ 2 ∧ e.o.length ≤ 2) :
    Calls Tryd.prog 55 #[grV n ev iv ov] w fun e w' => e = .returned (.bool (acyB (ndE es))) ∧ w.grownBy w' none := by
  have HE := Lib.hid he; have HR := Lib.hid hr; have HII := Lib.hid hi; have HOO := Lib.hid ho
  unfold grV
  obtain ⟨b, hb⟩ : ∃ b, acyB (ndE es) = b := ⟨_, rfl⟩
  rw [hb]
  have HB := Lib.hid hb
  clear hb
  obtain ⟨ea, ec, rfl⟩ := he.shape
  obtain ⟨ia, ic, rfl⟩ := hi.shape
  obtain ⟨oa, oc, rfl⟩ := ho.shape
  generalize hes : es.length = m at *
  have HM := Lib.hid hes
  generalize hm1 : is.length = m1 at *
  generalize hm2 : os.length = m2 at *
  clear he hi ho hr hes hm1 hm2
  have hs0 := ((Sep.start w).boxAt w.heap.size rfl #[.int .i64 n, .slice ea m ec, .slice ia m1 ic, .slice oa m2 oc] 56).boxAt (w.heap.size + 1) (by simp) #[.int .i64 n, .slice none 0 0, .slice ia m1 ic, .slice oa m2 oc] 56
  obtain ⟨x0, x1, x2, x3, _⟩ := bq4 hs0.tl.hd
  have HS0 := Lib.hid (Sep.blk (A := [_]) (B := [_]) (Sep.nilR edgeE hs0))
  clear hs0
  go_enter Tryd.func55, Tryd.ntmps55
  go_wp2_with fail
  clear x0 x1 x2 x3
  go_loopw [5, 16] (fun _ i wr => ∃ (j : Nat) (cv : Value) (xs : List XE), j ≤ m ∧ i = .int .i64 j ∧ eds xs = ndE (es.take j) ∧ (∀ W, w.grownBy W none → ∀ x ∈ xs, IntsV W x.iv x.ed.i ∧ IntsV W x.ov x.ed.o) ∧ Sep wr [BxA (w.heap.size + 1) #[.int .i64 n, cv, .slice ia m1 ic, .slice oa m2 oc] 56, OR edgeE cv xs, BxA w.heap.size #[.int .i64 n, .slice ea m ec, .slice ia m1 ic, .slice oa m2 oc] 56, KeepA w]) (fun _ i _ => m - (intOf i).toNat)
  case atStart => exact ⟨0, _, [], by omega, rfl, rfl, (fun W hW x hx => by cases hx), HS0.out⟩
  case round =>
    obtain ⟨j, cv, xs, hj, rfl, hxe, hxr, hs⟩ := hrel
    obtain ⟨ca, cc, rfl⟩ := OwnR.shape (show OwnR edgeE 0 wr cv xs from hs.tl.hd)
    have HSX := Lib.hid hs; have HXE := Lib.hid hxe; have HXR := Lib.hid hxr
    clear hs hxe hxr HS0
    by_cases hlt : j < m
    · have hke : j < es.length := by rw [HM.out]; exact hlt
      have hgr := HSX.out.tl.tl.tl.hd
      obtain ⟨eb, eo, u1, u2, rfl, hat⟩ := HE.out.atK rfl rfl hke
      obtain ⟨⟨q0, q1, q2, q3⟩, hi, ho⟩ := hat wr hgr
      have HND := Lib.hid (nd_step hke)
      generalize es.getD j e0 = y at *
      obtain ⟨yk, yv, yi, yo⟩ := y
      simp only at q0 q1 q2 q3 hi ho HND
      obtain ⟨s1, r1, rfl⟩ := hi.shape
      obtain ⟨s2, r2, rfl⟩ := ho.shape
      have HYR := Lib.hid fun W (hW : w.grownBy W none) => (hat W hW).2
      simp only at HYR
      generalize hn1 : yi.length = n1 at *
      generalize hn2 : yo.length = n2 at *
      have hs2 := HSX.out.boxAt wr.heap.size rfl #[.int .i64 yk, .int .i64 yv, .slice s1 n1 r1, .slice s2 n2 r2] 84
      obtain ⟨z0, z1, z2, z3, _⟩ := bq4 hs2.hd
      obtain ⟨x0, x1, x2, x3, _⟩ := bq4 hs2.tl.hd
      have HS2 := Lib.hid (Sep.blk (A := [_, _]) (B := [_]) hs2)
      have hxl : xs.length ≤ 60 := by
        have h1 : (eds xs).length = (ndE (es.take j)).length := by rw [HXE.out]
        have h2 := nd_len (es.take j)
        rw [List.length_take] at h2
        unfold eds at h1
        rw [List.length_map] at h1
        omega
      clear hi ho hat hke hgr hs2
      by_cases h8 : yk = 8
      · have hne : (yk != 8) = false := by rw [h8]; rfl
        have HN := Lib.hid (show eds xs = ndE (es.take (j + 1)) from by rw [HND.out, if_pos h8, List.append_nil]; exact HXE.out)
        clear h8
        have HS3 := Lib.hid (Sep.cutA (X := [_, _]) (A := [_]) (Sep.blk (A := [_, _]) (B := [_]) HS2.out))
        go_wp2_with fail
        go_roundw
        case rel => exact ⟨j + 1, _, xs, by omega, by go_num, HN.out, HXR.out, HS3.out⟩
        case measure => simp [intOf]; omega
      · have hne : (yk != 8) = true := by rw [bne_iff_ne]; exact h8
        have HN := Lib.hid (show eds (xs ++ [⟨⟨yk, yv, yi, yo⟩, .slice s1 n1 r1, .slice s2 n2 r2⟩]) = ndE (es.take (j + 1)) from by rw [HND.out, if_neg h8, ← HXE.out]; unfold eds; rw [List.map_append]; rfl)
        have HNR := Lib.hid (show ∀ W, w.grownBy W none → ∀ x ∈ xs ++ [(⟨⟨yk, yv, yi, yo⟩, .slice s1 n1 r1, .slice s2 n2 r2⟩ : XE)], IntsV W x.iv x.ed.i ∧ IntsV W x.ov x.ed.o from fun W hW x hx => by
          rcases List.mem_append.1 hx with hx | hx
          · exact HXR.out W hW x hx
          · rw [List.mem_singleton.1 hx]; exact HYR.out W hW)
        clear h8
        have HLX := Lib.hid hxl
        go_upto_region 6 with fail
        generalize wr.alloc (.cells #[.int .i64 yk, .int .i64 yv, .slice s1 n1 r1, .slice s2 n2 r2] 84) = w2 at *
        go_wp2_with (
          at_builtin
          go_loud (
          refine app_R (E := edgeE) (y := ⟨⟨yk, yv, yi, yo⟩, .slice s1 n1 r1, .slice s2 n2 r2⟩) info_edge rfl (by decide) Tryd.underlying54 (edge_oneC _ _ _ _ _ _ _) rfl (.tmp 24) (.tmp 26) rfl rfl rfl rfl HS2.out (by have := HLX.out; omega) ?_
          intro g5 c5 w5 h5
          have h6 := Sep.blk (A := [_, _]) (B := [_]) h5
          obtain ⟨k0, k1, k2, k3, l0, l1, l2, l3⟩ := bq4 h6.hd
          have h7 := h6.setB 1 (.slice (some ⟨g5, 0, none⟩) (xs.length + 1) c5)
          have HS7 := Lib.hid (Sep.cutA (X := [_, _]) (A := [_]) h7)
          clear h5 h6 h7))
        go_roundw
        case rel => exact ⟨j + 1, .slice (some ⟨g5, 0, none⟩) (xs.length + 1) c5, xs ++ [(⟨⟨yk, yv, yi, yo⟩, .slice s1 n1 r1, .slice s2 n2 r2⟩ : XE)], by omega, by go_num, HN.out, HNR.out, HS7.out⟩
        case measure => simp [intOf]; omega
    · have hjm : m = j := by omega
      subst hjm
      have hjj : ¬ (m : Int) < (m : Int) := by omega
      have hxe := HXE.out
      rw [List.take_of_length_le (by rw [HM.out]; exact Nat.le_refl _)] at hxe
      have hnl := nd_len es
      rw [HM.out] at hnl
      have hxl : xs.length = (ndE es).length := by rw [← hxe]; simp [eds]
      have HXX := Lib.hid hxe
      have hrn : ∀ e ∈ ndE es, e.i.length ≤ 2 ∧ e.o.length ≤ 2 := fun e he => HR.out e (nd_mem he)
      have HC := Lib.hid fun W (hW : wr.grownBy W none) => hgAcyclic_any n (.slice ca xs.length cc) (.slice ia m1 ic) (.slice oa m2 oc) (ndE es) is os W (OR.rde (HSX.out.grown hW).tl.hd HXX.out (fun x hx => HXR.out W (HSX.out.grown hW).tl.tl.tl.hd x hx)) (HII.out.carry (HSX.out.grown hW).tl.tl.tl.hd) (HOO.out.carry (HSX.out.grown hW).tl.tl.tl.hd) (by omega) hrn
      unfold grV at HC
      rw [HB.out] at HC
      generalize xs.length = xl at *
      obtain ⟨x0, x1, x2, x3, _⟩ := bq4 HSX.out.hd
      have HKX := Lib.hid (show w.grownBy wr none from HSX.out.tl.tl.tl.hd)
      clear hxe hnl hrn hxl
      go_wp2_with (
        go_at_call 100
        with_reducible refine (HC.out _ (grownBy_refl _ _)).mono ?_
        rintro e w2 ⟨rfl, hg⟩
        have HKF := Lib.hid (grownBy_trans HKX.out hg)
        clear hg)
      go_ret
      exact ⟨rfl, HKF.out⟩
end Go.Proofs.YtghfifpicklonaaDoor

/-
  The gate of an edge, and where each wire comes from and goes, in the program. Conditions: as each says.
-/
namespace Go.Proofs.YtghfifpicklonaaDoor
open Go.RowKit
set_option linter.unusedVariables false
set_option maxRecDepth 100000

section
variable {P : Program} {ops : Array Oper} {Q : Exit → Act → World → Prop} {md : Region.Mode} {Se Sa : World → Prop} {ap : Nat}
/-- Two operations may come up now: each is carried out. -/
theorem AnyL.twoC {i j : Nat} {oi oj : Oper} {fuel : Nat} {listed : Array Bool} {a : Act} {w : World} {r r' : List Oper} (hr : Region.ready md ops listed = [i, j]) (hi' : ops.toList.drop i = oi :: r) (hj' : ops.toList.drop j = oj :: r')
    (h1 : ∀ K' : Act → World → Prop, Shut (∀ a' w', Se w' → ((listed.setIfInBounds i true).getD ap true = false → Sa w') → AnyL P md ops Q Se Sa ap fuel (listed.setIfInBounds i true) a' w' → K' a' w') → if Region.wanted oi (yielded ops a.tmps) = true then Oper.wp P oi a w K' Q else K' (a.put oi.dst undef) w)
    (h2 : ∀ K' : Act → World → Prop, Shut (∀ a' w', Se w' → ((listed.setIfInBounds j true).getD ap true = false → Sa w') → AnyL P md ops Q Se Sa ap fuel (listed.setIfInBounds j true) a' w' → K' a' w') → if Region.wanted oj (yielded ops a.tmps) = true then Oper.wp P oj a w K' Q else K' (a.put oj.dst undef) w) :
    AnyL P md ops Q Se Sa ap (fuel + 1) listed a w := by
  refine ⟨fun h0 => (by rw [hr] at h0; cases h0), fun k hk => ?_⟩
  rw [hr] at hk
  simp only [List.mem_cons, List.not_mem_nil, or_false] at hk
  rcases hk with rfl | rfl
  · exact wpOp_step (op_at hi') fun K' hK => h1 K' fun a w h1 h2 h3 => hK a w ⟨⟨h1, h2⟩, h3⟩
  · exact wpOp_step (op_at hj') fun K' hK => h2 K' fun a w h1 h2 h3 => hK a w ⟨⟨h1, h2⟩, h3⟩
end
theorem gd_set {l : List Int} {i j : Nat} {x a : Int} (h : i < l.length) : (l.set i x).getD j a = if i = j then x else l.getD j a := by
  rw [List.getD_eq_getElem?_getD, List.getElem?_set]
  by_cases hij : i = j
  · subst hij; rw [if_pos rfl, if_pos h, if_pos rfl]; rfl
  · rw [if_neg hij, if_neg hij, List.getD_eq_getElem?_getD]
/-- A list tells of each wire an edge that holds it, -1 where none does. -/
def OrgOk (S : Ed → List Int) (es : List Ed) (n : Nat) (L : List Int) : Prop :=
  L.length = n ∧ ∀ w : Nat, w < n → (L.getD w 0 = -1 ∧ ∀ e, e < es.length → (w : Int) ∉ S (es.getD e e0)) ∨ ∃ e, e < es.length ∧ L.getD w 0 = (e : Int) ∧ (w : Int) ∈ S (es.getD e e0)
/-- So far: the edges below k, and t wires of edge k. -/
def OrgAt (S : Ed → List Int) (es : List Ed) (n k t : Nat) (L : List Int) : Prop :=
  L.length = n ∧ ∀ w : Nat, w < n → (L.getD w 0 = -1 ∧ (∀ e, e < k → (w : Int) ∉ S (es.getD e e0)) ∧ (w : Int) ∉ (S (es.getD k e0)).take t) ∨ ∃ e, e < es.length ∧ L.getD w 0 = (e : Int) ∧ (w : Int) ∈ S (es.getD e e0)
theorem OrgAt.start {S : Ed → List Int} {es : List Ed} {n : Nat} : OrgAt S es n 0 0 (List.replicate n (-1)) := by
  refine ⟨by simp, fun w hw => Or.inl ⟨by rw [List.getD_eq_getElem?_getD, List.getElem?_replicate, if_pos hw]; rfl, fun e he => absurd he (by omega), by simp⟩⟩
theorem OrgAt.step {S : Ed → List Int} {es : List Ed} {n k t v : Nat} {L : List Int} (h : OrgAt S es n k t L) (hk : k < es.length) (ht : t < (S (es.getD k e0)).length) (hv : (S (es.getD k e0)).getD t 0 = (v : Int)) (hvn : v < n) : OrgAt S es n k (t + 1) (L.set v (k : Int)) := by
  refine ⟨by rw [List.length_set]; exact h.1, fun w hw => ?_⟩
  rw [gd_set (by rw [h.1]; exact hvn)]
  by_cases e : v = w
  · subst e
    exact Or.inr ⟨k, hk, by rw [if_pos rfl], by rw [← hv]; exact getD_mem' ht⟩
  · rw [if_neg e]
    rcases h.2 w hw with ⟨h1, h2, h3⟩ | h1
    · refine Or.inl ⟨h1, h2, fun hm => ?_⟩
      rw [List.take_succ_eq_append_getElem ht] at hm
      rcases List.mem_append.1 hm with hm | hm
      · exact h3 hm
      · rw [List.mem_singleton] at hm
        rw [List.getD_eq_getElem?_getD, List.getElem?_eq_getElem ht] at hv
        simp only [Option.getD_some] at hv
        omega
    · exact Or.inr h1
theorem OrgAt.next {S : Ed → List Int} {es : List Ed} {n k t : Nat} {L : List Int} (h : OrgAt S es n k t L) (ht : t = (S (es.getD k e0)).length) : OrgAt S es n (k + 1) 0 L := by
  refine ⟨h.1, fun w hw => ?_⟩
  rcases h.2 w hw with ⟨h1, h2, h3⟩ | h1
  · rw [ht, List.take_length] at h3
    refine Or.inl ⟨h1, fun e he => ?_, by simp⟩
    by_cases e2 : e = k
    · rw [e2]; exact h3
    · exact h2 e (by omega)
  · exact Or.inr h1
theorem OrgAt.done {S : Ed → List Int} {es : List Ed} {n : Nat} {L : List Int} (h : OrgAt S es n es.length 0 L) : OrgOk S es n L := by
  refine ⟨h.1, fun w hw => ?_⟩
  rcases h.2 w hw with ⟨h1, h2, _⟩ | h1
  · exact Or.inl ⟨h1, h2⟩
  · exact Or.inr h1

theorem bc2 {w : World} {k : Nat} {x y : Value} {t : TypeId} (h : w.heap[k]? = some (.cells #[x, y] t (0, 0))) :
    w.cell? ⟨k, 0, none⟩ = some x ∧ w.cell? ⟨k, 1, none⟩ = some y ∧ w.frozen? ⟨k, 0, none⟩ = false ∧ w.frozen? ⟨k, 1, none⟩ = false :=
  ⟨cell_of_row w k 0 _ _ _ h, cell_of_row w k 1 _ _ _ h, frozen_of_row w k 0 _ _ h, frozen_of_row w k 1 _ _ h⟩
def gKd (k : Int) : Int := if k = 6 then 2 else if k = 5 then 3 else if k = 7 then 4 else if k = 8 then 5 else 0
def gVl (k v : Int) : Int := if k = 7 then v else 0
set_option maxHeartbeats 4000000 in
theorem gateOf_any (k v : Int) (s1 : Option Addr) (n1 r1 : Nat) (s2 : Option Addr) (n2 r2 : Nat) (w : World) (hk : 3 ≤ k ∧ k ≤ 8) :
    Calls Tryd.prog 110 #[.agg #[.int .i64 k, .int .i64 v, .slice s1 n1 r1, .slice s2 n2 r2]] w fun e w' => e = .returned (.tuple #[.agg #[.int .i64 (gKd k), .int .i64 0, .int .i64 0, .int .i64 (gVl k v)], .bool (decide (5 ≤ k))]) ∧ w.grownBy w' none := by
  have HKF := Lib.hid fun o1 o2 => (grownBy_alloc w o1 none).trans (grownBy_alloc _ o2 none)
  obtain h | h | h | h | h | h : k = 3 ∨ k = 4 ∨ k = 5 ∨ k = 6 ∨ k = 7 ∨ k = 8 := by omega
  · subst h
    clear hk
    go_enter Tryd.func110, Tryd.ntmps110
    go_wp2_with fail
    refine bodyPost_ret_by (v := .tuple #[.agg #[.int .i64 0, .int .i64 0, .int .i64 0, .int .i64 0], .bool false]) ?_ rfl ⟨by simp [gKd, gVl], HKF.out _ _⟩
    simp [results, go_sem, *]
  · subst h
    clear hk
    go_enter Tryd.func110, Tryd.ntmps110
    go_wp2_with fail
    refine bodyPost_ret_by (v := .tuple #[.agg #[.int .i64 0, .int .i64 0, .int .i64 0, .int .i64 0], .bool false]) ?_ rfl ⟨by simp [gKd, gVl], HKF.out _ _⟩
    simp [results, go_sem, *]
  · subst h
    clear hk
    go_enter Tryd.func110, Tryd.ntmps110
    go_wp2_with fail
    refine bodyPost_ret_by (v := .tuple #[.agg #[.int .i64 3, .int .i64 0, .int .i64 0, .int .i64 0], .bool true]) ?_ rfl ⟨by simp [gKd, gVl], HKF.out _ _⟩
    simp [results, go_sem, *]
  · subst h
    clear hk
    go_enter Tryd.func110, Tryd.ntmps110
    go_wp2_with fail
    refine bodyPost_ret_by (v := .tuple #[.agg #[.int .i64 2, .int .i64 0, .int .i64 0, .int .i64 0], .bool true]) ?_ rfl ⟨by simp [gKd, gVl], HKF.out _ _⟩
    simp [results, go_sem, *]
  · subst h
    clear hk
    go_enter Tryd.func110, Tryd.ntmps110
    go_wp2_with fail
    refine bodyPost_ret_by (v := .tuple #[.agg #[.int .i64 4, .int .i64 0, .int .i64 0, .int .i64 v], .bool true]) ?_ rfl ⟨by simp [gKd, gVl], HKF.out _ _⟩
    simp [results, go_sem, *]
  · subst h
    clear hk
    go_enter Tryd.func110, Tryd.ntmps110
    go_wp2_with fail
    refine bodyPost_ret_by (v := .tuple #[.agg #[.int .i64 5, .int .i64 0, .int .i64 0, .int .i64 0], .bool true]) ?_ rfl ⟨by simp [gKd, gVl], HKF.out _ _⟩
    simp [results, go_sem, *]
set_option maxHeartbeats 16000000 in
theorem gends_any (g : Gr) (n : Nat) (ev iv ov : Value) (w : World) (hk : CgOk g n) (he : RdE edgeE w ev g.es) (hi : IntsV w iv g.i) (ho : IntsV w ov g.o) :
    Calls Tryd.prog 111 #[grV n ev iv ov] w fun e w' => ∃ (b bc d dc : Nat) (zs ys : List Int), e = .returned (.agg #[.slice (some ⟨b, 0, none⟩) n bc, .slice (some ⟨d, 0, none⟩) n dc]) ∧ OrgOk (fun e => e.o) g.es n zs ∧ ys.length = n ∧ Sep w' [OI (.slice (some ⟨b, 0, none⟩) n bc) zs, OI (.slice (some ⟨d, 0, none⟩) n dc) ys, KeepA w] := by
  have HRP := Lib.hid fun W => repeated_any (-1) n W (by have := hk.ln; omega)
  have HE := Lib.hid he; have HK := Lib.hid hk
  unfold grV
  obtain ⟨ea, ec, rfl⟩ := he.shape
  obtain ⟨ia, ic, rfl⟩ := hi.shape
  obtain ⟨oa, oc, rfl⟩ := ho.shape
  generalize hes : g.es.length = m at *
  have HM := Lib.hid hes
  have hmm : m ≤ 60 := by rw [← hes]; exact hk.le
  have hnn := hk.ln
  generalize g.i.length = m1 at *
  generalize g.o.length = m2 at *
  obtain ⟨es, hese⟩ : ∃ es, g.es = es := ⟨_, rfl⟩
  rw [hese] at HE HM ⊢
  have HRE := Lib.hid fun (e : Ed) (h : e ∈ es) => (show (∀ x ∈ e.i, 0 ≤ x ∧ x < (n : Int)) ∧ (∀ x ∈ e.o, 0 ≤ x ∧ x < (n : Int)) from hk.re e (by rw [hese]; exact h))
  have HRL := Lib.hid fun (e : Ed) (h : e ∈ es) => (show e.i.length ≤ 2 ∧ e.o.length ≤ 2 from hk.rl e (by rw [hese]; exact h))
  clear hk he hi ho hes hese HK
  have hs0 := ((Sep.start w).boxAt w.heap.size rfl #[.int .i64 n, .slice ea m ec, .slice ia m1 ic, .slice oa m2 oc] 56).boxAt (w.heap.size + 1) (by simp) #[.slice none 0 0, .slice none 0 0] 135
  have HSD := Lib.hid hs0.dr
  have HKD := Lib.hid (show w.grownBy _ none from hs0.dr.tl.tl.hd)
  clear hs0
  go_enter Tryd.func111, Tryd.ntmps111
  go_upto_region 1 with fail
  have HBM := Lib.hid fun (W1 : World) (L : List Asrt) (h : Sep W1 L) (h1 : BxA w.heap.size #[.int .i64 n, .slice ea m ec, .slice ia m1 ic, .slice oa m2 oc] 56 ∈ L) => show W1.cell? ⟨w.heap.size, 0, none⟩ = some (.int .i64 n) from
    (bq4 (show W1.heap[w.heap.size]? = some (.cells #[.int .i64 n, .slice ea m ec, .slice ia m1 ic, .slice oa m2 oc] 56 (0, 0)) from Sep.all h _ h1)).1
  have X0 := Lib.hid (HBM.out _ _ HSD.out (by simp))
  go_cut [3] from 10 to 16 (fun v3 wx => ∃ (eb : Nat) (b d : Nat) (bc dc : Nat), v3 = .pointer (some ⟨eb, 0, none⟩) ∧ Sep wx [BxA eb #[.slice (some ⟨b, 0, none⟩) n bc, .slice (some ⟨d, 0, none⟩) n dc] 135, OI (.slice (some ⟨b, 0, none⟩) n bc) (List.replicate n (-1)), OI (.slice (some ⟨d, 0, none⟩) n dc) (List.replicate n (-1)), BxA (w.heap.size + 1) #[.slice none 0 0, .slice none 0 0] 135, BxA w.heap.size #[.int .i64 n, .slice ea m ec, .slice ia m1 ic, .slice oa m2 oc] 56, KeepA w])
  skip
  case first =>
    refine AnyL.start (fun W1 => W1.cell? ⟨w.heap.size, 0, none⟩ = some (.int .i64 n)) (fun _ => True) 99 (by kernel_rfl) ?_
    generalize ((w.alloc (.cells #[.int .i64 n, .slice ea m ec, .slice ia m1 ic, .slice oa m2 oc] 56)).alloc (.cells #[.slice none 0 0, .slice none 0 0] 135)).drew = w0 at *
    refine AnyL.take (i := 0) (v := ?vx1) (by rfl) (by kernel_rfl) (by kernel_rfl) (by kernel_rfl) rfl (by exact fun _ _ _ h => h) (by rfl) ?hyx1 (by exact ⟨X0.out, fun _ => trivial⟩) ?restx1
    case hyx1 => intro W hSW; (try dsimp only at hSW); first | (go_simp; done) | (go_simp; with_reducible rfl)
    try simp only [Act.put, List.setIfInBounds_toArray, List.set_cons_zero, List.set_cons_succ]
    refine AnyL.take (i := 1) (v := ?vx2) (by rfl) (by kernel_rfl) (by kernel_rfl) (by kernel_rfl) rfl (by exact fun _ _ _ h => h) (by rfl) ?hyx2 (by exact ⟨X0.out, fun _ => trivial⟩) ?restx2
    case hyx2 => intro W hSW; (try dsimp only at hSW); first | (go_simp; done) | (go_simp; with_reducible rfl)
    try simp only [Act.put, List.setIfInBounds_toArray, List.set_cons_zero, List.set_cons_succ]
    refine AnyL.take (i := 3) (v := ?vx3) (by rfl) (by kernel_rfl) (by kernel_rfl) (by kernel_rfl) rfl (by exact fun _ _ _ h => h) (by rfl) ?hyx3 (by exact ⟨X0.out, fun _ => trivial⟩) ?restx3
    case hyx3 => intro W hSW; (try dsimp only at hSW); first | (go_simp; done) | (go_simp; with_reducible rfl)
    try simp only [Act.put, List.setIfInBounds_toArray, List.set_cons_zero, List.set_cons_succ]
    refine AnyL.take (i := 4) (v := ?vx4) (by rfl) (by kernel_rfl) (by kernel_rfl) (by kernel_rfl) rfl (by exact fun _ _ _ h => h) (by rfl) ?hyx4 (by exact ⟨X0.out, fun _ => trivial⟩) ?restx4
    case hyx4 => intro W hSW; (try dsimp only at hSW); first | (go_simp; done) | (go_simp; with_reducible rfl)
    try simp only [Act.put, List.setIfInBounds_toArray, List.set_cons_zero, List.set_cons_succ]
    refine AnyL.twoC (i := 2) (j := 7) (by kernel_rfl) (by rfl) (by rfl) (fun K hK => ?_) (fun K hK => ?_)
    · go_simp
      go_at_call 109
      with_reducible refine (HRP.out _).mono ?_
      rintro e wac ⟨b, bc, rfl, hsg⟩
      have HSac := Lib.hid (HSD.out.graft1 hsg OI_own)
      clear hsg
      refine hK.out _ _ (by exact HBM.out _ _ HSac.out (by simp)) (by exact fun _ => trivial) ?_
      clear hK K
      try simp only [Act.put, List.setIfInBounds_toArray, List.set_cons_zero, List.set_cons_succ]
      refine AnyL.twoC (i := 5) (j := 7) (by kernel_rfl) (by rfl) (by rfl) (fun K hK => ?_) (fun K hK => ?_)
      · go_simp
        go_at_call 109
        with_reducible refine (HRP.out _).mono ?_
        rintro e wacc ⟨d, dc, rfl, hsg⟩
        have HSacc := Lib.hid (HSac.out.graft1 hsg OI_own)
        clear hsg
        refine hK.out _ _ (by exact HBM.out _ _ HSacc.out (by simp)) (by exact fun _ => trivial) ?_
        clear hK K
        try simp only [Act.put, List.setIfInBounds_toArray, List.set_cons_zero, List.set_cons_succ]
        refine AnyL.take (i := 6) (v := ?vx5) (by rfl) (by kernel_rfl) (by kernel_rfl) (by kernel_rfl) rfl (by exact fun _ _ _ h => h) (by rfl) ?hyx5 (by exact ⟨HBM.out _ _ HSacc.out (by simp), fun _ => trivial⟩) ?restx5
        case hyx5 => intro W hSW; (try dsimp only at hSW); first | (go_simp; done) | (go_simp; with_reducible rfl)
        try simp only [Act.put, List.setIfInBounds_toArray, List.set_cons_zero, List.set_cons_succ]
        refine AnyL.step (i := 7) (by kernel_rfl) (by rfl) (fun K hK => ?_)
        go_simp
        have HSaccz := Lib.hid (HSacc.out.boxAt (wacc.heap.size) (by rfl) #[.slice none 0 0, .slice none 0 0] 135)
        refine hK.out _ (wacc.alloc (.cells #[.slice none 0 0, .slice none 0 0] 135)) (by exact HBM.out _ _ HSaccz.out (by simp)) (by exact fun _ => trivial) ?_
        clear hK K
        try simp only [Act.put, List.setIfInBounds_toArray, List.set_cons_zero, List.set_cons_succ]
        generalize wacc.alloc (.cells #[.slice none 0 0, .slice none 0 0] 135) = waccz at *
        generalize wacc.heap.size = eb at *
        have h8 := HSaccz.out
        obtain ⟨k0, k1, j0, j1⟩ := bc2 h8.hd
        have h9 := (h8.setB 0 (.slice (some ⟨b, 0, none⟩) n bc)).setB 1 (.slice (some ⟨d, 0, none⟩) n dc)
        have h10 := Sep.blk (A := [_, _]) (B := [_]) (h9)
        have HZ9 := Lib.hid (Sep.blk (A := [_]) (B := [_]) (h10))
        clear h8 h9 h10
        refine AnyL.step (i := 8) (by kernel_rfl) (by rfl) (fun K hK => ?_)
        go_simp
        refine hK.out _ ((waccz.setCell ⟨eb, 0, none⟩ (.slice (some ⟨b, 0, none⟩) n bc)).setCell ⟨eb, 1, none⟩ (.slice (some ⟨d, 0, none⟩) n dc)) (by exact HBM.out _ _ HZ9.out (by simp)) (by exact fun _ => trivial) ?_
        clear hK K
        try simp only [Act.put, List.setIfInBounds_toArray, List.set_cons_zero, List.set_cons_succ]
        refine AnyL.done (by kernel_rfl) ?_ _
        clear k0 k1 j0 j1
        go_wp2_with fail
        go_meet
        exact ⟨eb, b, d, bc, dc, rfl, HZ9.out⟩
      · go_simp
        have HSacz := Lib.hid (HSac.out.boxAt (wac.heap.size) (by rfl) #[.slice none 0 0, .slice none 0 0] 135)
        refine hK.out _ (wac.alloc (.cells #[.slice none 0 0, .slice none 0 0] 135)) (by exact HBM.out _ _ HSacz.out (by simp)) (by exact fun _ => trivial) ?_
        clear hK K
        try simp only [Act.put, List.setIfInBounds_toArray, List.set_cons_zero, List.set_cons_succ]
        generalize wac.alloc (.cells #[.slice none 0 0, .slice none 0 0] 135) = wacz at *
        generalize wac.heap.size = eb at *
        refine AnyL.step (i := 5) (by kernel_rfl) (by rfl) (fun K hK => ?_)
        go_simp
        go_at_call 109
        with_reducible refine (HRP.out _).mono ?_
        rintro e waczc ⟨d, dc, rfl, hsg⟩
        have HSaczc := Lib.hid (HSacz.out.graft1 hsg OI_own)
        clear hsg
        refine hK.out _ _ (by exact HBM.out _ _ HSaczc.out (by simp)) (by exact fun _ => trivial) ?_
        clear hK K
        try simp only [Act.put, List.setIfInBounds_toArray, List.set_cons_zero, List.set_cons_succ]
        refine AnyL.take (i := 6) (v := ?vx6) (by rfl) (by kernel_rfl) (by kernel_rfl) (by kernel_rfl) rfl (by exact fun _ _ _ h => h) (by rfl) ?hyx6 (by exact ⟨HBM.out _ _ HSaczc.out (by simp), fun _ => trivial⟩) ?restx6
        case hyx6 => intro W hSW; (try dsimp only at hSW); first | (go_simp; done) | (go_simp; with_reducible rfl)
        try simp only [Act.put, List.setIfInBounds_toArray, List.set_cons_zero, List.set_cons_succ]
        have h8 := Sep.blk (A := [_]) (B := [_]) (HSaczc.out)
        obtain ⟨k0, k1, j0, j1⟩ := bc2 h8.hd
        have h9 := (h8.setB 0 (.slice (some ⟨b, 0, none⟩) n bc)).setB 1 (.slice (some ⟨d, 0, none⟩) n dc)
        have h10 := Sep.blk (A := [_, _]) (B := [_]) (h9)
        have HZ9 := Lib.hid (Sep.blk (A := [_]) (B := [_]) (h10))
        clear h8 h9 h10
        refine AnyL.step (i := 8) (by kernel_rfl) (by rfl) (fun K hK => ?_)
        go_simp
        refine hK.out _ ((waczc.setCell ⟨eb, 0, none⟩ (.slice (some ⟨b, 0, none⟩) n bc)).setCell ⟨eb, 1, none⟩ (.slice (some ⟨d, 0, none⟩) n dc)) (by exact HBM.out _ _ HZ9.out (by simp)) (by exact fun _ => trivial) ?_
        clear hK K
        try simp only [Act.put, List.setIfInBounds_toArray, List.set_cons_zero, List.set_cons_succ]
        refine AnyL.done (by kernel_rfl) ?_ _
        clear k0 k1 j0 j1
        go_wp2_with fail
        go_meet
        exact ⟨eb, b, d, bc, dc, rfl, HZ9.out⟩
    · go_simp
      have HSaz := Lib.hid (HSD.out.boxAt (w0.heap.size) (by rfl) #[.slice none 0 0, .slice none 0 0] 135)
      refine hK.out _ (w0.alloc (.cells #[.slice none 0 0, .slice none 0 0] 135)) (by exact HBM.out _ _ HSaz.out (by simp)) (by exact fun _ => trivial) ?_
      clear hK K
      try simp only [Act.put, List.setIfInBounds_toArray, List.set_cons_zero, List.set_cons_succ]
      generalize w0.alloc (.cells #[.slice none 0 0, .slice none 0 0] 135) = waz at *
      generalize w0.heap.size = eb at *
      refine AnyL.step (i := 2) (by kernel_rfl) (by rfl) (fun K hK => ?_)
      go_simp
      go_at_call 109
      with_reducible refine (HRP.out _).mono ?_
      rintro e wazc ⟨b, bc, rfl, hsg⟩
      have HSazc := Lib.hid (HSaz.out.graft1 hsg OI_own)
      clear hsg
      refine hK.out _ _ (by exact HBM.out _ _ HSazc.out (by simp)) (by exact fun _ => trivial) ?_
      clear hK K
      try simp only [Act.put, List.setIfInBounds_toArray, List.set_cons_zero, List.set_cons_succ]
      refine AnyL.step (i := 5) (by kernel_rfl) (by rfl) (fun K hK => ?_)
      go_simp
      go_at_call 109
      with_reducible refine (HRP.out _).mono ?_
      rintro e wazcc ⟨d, dc, rfl, hsg⟩
      have HSazcc := Lib.hid (HSazc.out.graft1 hsg OI_own)
      clear hsg
      refine hK.out _ _ (by exact HBM.out _ _ HSazcc.out (by simp)) (by exact fun _ => trivial) ?_
      clear hK K
      try simp only [Act.put, List.setIfInBounds_toArray, List.set_cons_zero, List.set_cons_succ]
      refine AnyL.take (i := 6) (v := ?vx7) (by rfl) (by kernel_rfl) (by kernel_rfl) (by kernel_rfl) rfl (by exact fun _ _ _ h => h) (by rfl) ?hyx7 (by exact ⟨HBM.out _ _ HSazcc.out (by simp), fun _ => trivial⟩) ?restx7
      case hyx7 => intro W hSW; (try dsimp only at hSW); first | (go_simp; done) | (go_simp; with_reducible rfl)
      try simp only [Act.put, List.setIfInBounds_toArray, List.set_cons_zero, List.set_cons_succ]
      have h8 := Sep.blk (A := [_, _]) (B := [_]) (HSazcc.out)
      obtain ⟨k0, k1, j0, j1⟩ := bc2 h8.hd
      have h9 := (h8.setB 0 (.slice (some ⟨b, 0, none⟩) n bc)).setB 1 (.slice (some ⟨d, 0, none⟩) n dc)
      have h10 := Sep.blk (A := [_, _]) (B := [_]) (h9)
      have HZ9 := Lib.hid (Sep.blk (A := [_]) (B := [_]) (h10))
      clear h8 h9 h10
      refine AnyL.step (i := 8) (by kernel_rfl) (by rfl) (fun K hK => ?_)
      go_simp
      refine hK.out _ ((wazcc.setCell ⟨eb, 0, none⟩ (.slice (some ⟨b, 0, none⟩) n bc)).setCell ⟨eb, 1, none⟩ (.slice (some ⟨d, 0, none⟩) n dc)) (by exact HBM.out _ _ HZ9.out (by simp)) (by exact fun _ => trivial) ?_
      clear hK K
      try simp only [Act.put, List.setIfInBounds_toArray, List.set_cons_zero, List.set_cons_succ]
      refine AnyL.done (by kernel_rfl) ?_ _
      clear k0 k1 j0 j1
      go_wp2_with fail
      go_meet
      exact ⟨eb, b, d, bc, dc, rfl, HZ9.out⟩
  case rest =>
    obtain ⟨eb, b, d, bc, dc, rfl, hs⟩ := hcut
    have HS1 := Lib.hid hs
    obtain ⟨x0, x1, x2, x3, _⟩ := bq4 hs.tl.tl.tl.tl.hd
    clear hs HSD HKD X0 HBM
    go_wp2_with fail
    clear x0 x1 x2 x3
    go_loopw [4, 5, 7, 9, 20, 28, 41] (fun _ _ _ _ i _ _ wr => ∃ (k : Nat) (zs ys : List Int), k ≤ m ∧ i = .int .i64 k ∧ OrgAt (fun e => e.o) es n k 0 zs ∧ ys.length = n ∧ Sep wr [BxA eb #[.slice (some ⟨b, 0, none⟩) n bc, .slice (some ⟨d, 0, none⟩) n dc] 135, OI (.slice (some ⟨b, 0, none⟩) n bc) zs, OI (.slice (some ⟨d, 0, none⟩) n dc) ys, BxA (w.heap.size + 1) #[.slice none 0 0, .slice none 0 0] 135, BxA w.heap.size #[.int .i64 n, .slice ea m ec, .slice ia m1 ic, .slice oa m2 oc] 56, KeepA w]) (fun _ _ _ _ i _ _ _ => m - (intOf i).toNat)
    case atStart => exact ⟨0, _, _, by omega, rfl, OrgAt.start, by simp, HS1.out⟩
    case round =>
      obtain ⟨k, zs, ys, hk, rfl, ho, hyl, hs⟩ := hrel
      have HSX := Lib.hid hs; have HOA := Lib.hid ho; have HYL := Lib.hid hyl
      clear hs ho hyl HS1
      obtain ⟨x0, x1, x2, x3, _⟩ := bq4 HSX.out.tl.tl.tl.tl.hd
      by_cases hlt : k < m
      · have hke : k < es.length := by rw [HM.out]; exact hlt
        have hki : (k : Int) < (m : Int) := by omega
        have hgr := HSX.out.tl.tl.tl.tl.tl.hd
        obtain ⟨eeb, eeo, u1, u2, rfl, hat⟩ := HE.out.atK rfl rfl hke
        obtain ⟨⟨q0, q1, q2, q3⟩, hqi, hqo⟩ := hat wr hgr
        have HY1 := Lib.hid (HRE.out _ (esMem hke)); have HY2 := Lib.hid (HRL.out _ (esMem hke))
        have HYE := Lib.hid (show (fun e : Ed => e.o) (es.getD k e0) = (es.getD k e0).o from rfl)
        obtain ⟨y, hy⟩ : ∃ y, es.getD k e0 = y := ⟨_, rfl⟩
        have HYY := Lib.hid hy
        rw [hy] at q0 q1 hqi hqo HY1 HY2 hat
        clear hy HYE
        obtain ⟨yk, yv, yi, yo⟩ := y
        simp only at q0 q1 q2 q3 hqi hqo HY1 HY2
        obtain ⟨s1, r1, rfl⟩ := hqi.shape
        obtain ⟨s2, r2, rfl⟩ := hqo.shape
        have HRI := Lib.hid fun W (hW : w.grownBy W none) => (hat W hW).2.1
        have HRO := Lib.hid fun W (hW : w.grownBy W none) => (hat W hW).2.2
        simp only at HRI HRO
        generalize hn1 : yi.length = n1 at *
        generalize hn2 : yo.length = n2 at *
        have HN1 := Lib.hid hn1; have HN2 := Lib.hid hn2
        have hs2 := HSX.out.boxAt wr.heap.size rfl #[.int .i64 yk, .int .i64 yv, .slice s1 n1 r1, .slice s2 n2 r2] 84
        obtain ⟨z0, z1, z2, z3, _⟩ := bq4 hs2.hd
        have hn2b : n2 ≤ 2 := by have := HY2.out.2; omega
        have hn1b : n1 ≤ 2 := by have := HY2.out.1; omega
        clear hqi hqo hat hke hgr hn1 hn2 HSX
        go_wp2_with fail
        clear q0 q1 q2 q3 x0 x1 x2 x3 z0 z1 z2 z3
        generalize wr.heap.size = xb at *
        have HS2 := Lib.hid hs2
        clear hs2
        go_loopw [7, 28] (fun _ i wq => ∃ (t : Nat) (zs : List Int), t ≤ n2 ∧ i = .int .i64 t ∧ OrgAt (fun e => e.o) es n k t zs ∧ Sep wq [BxA xb #[.int .i64 yk, .int .i64 yv, .slice s1 n1 r1, .slice s2 n2 r2] 84, BxA eb #[.slice (some ⟨b, 0, none⟩) n bc, .slice (some ⟨d, 0, none⟩) n dc] 135, OI (.slice (some ⟨b, 0, none⟩) n bc) zs, OI (.slice (some ⟨d, 0, none⟩) n dc) ys, BxA (w.heap.size + 1) #[.slice none 0 0, .slice none 0 0] 135, BxA w.heap.size #[.int .i64 n, .slice (some ⟨eeb, eeo, none⟩) m ec, .slice ia m1 ic, .slice oa m2 oc] 56, KeepA w]) (fun _ i _ => n2 - (intOf i).toNat)
        case atStart => exact ⟨0, zs, by omega, rfl, HOA.out, HS2.out⟩
        case round =>
          obtain ⟨t, zs, ht, rfl, ho, hs⟩ := hrel
          have HSQ := Lib.hid hs; have HOQ := Lib.hid ho
          clear hs ho HS2
          by_cases htl : t < n2
          · have hti : (t : Int) < (n2 : Int) := by omega
            have hty : t < yo.length := by rw [HN2.out]; exact htl
            obtain ⟨ob, oo, rfl, _, c0⟩ := (HRO.out wr HSQ.out.tl.tl.tl.tl.tl.tl.hd).atD hty
            have hvr := HY1.out.2 _ (getD_mem' hty)
            obtain ⟨v, hv⟩ : ∃ v : Nat, yo.getD t 0 = (v : Int) := ⟨(yo.getD t 0).toNat, by omega⟩
            have hvn : v < n := by omega
            have hvi : (v : Int) < (n : Int) := by omega
            have HST := Lib.hid (HOQ.out.step (by rw [HM.out]; exact hlt) (by rw [HYY.out]; exact hty) (by rw [HYY.out]; exact hv) hvn)
            rw [hv] at c0
            obtain ⟨e0_, e1_, _⟩ := bc2 HSQ.out.tl.hd
            have hzl : n = zs.length := HOQ.out.1.symm
            have hs3 := Sep.blk (A := [_, _]) (B := [_]) HSQ.out
            have hf := (show OwnInts 0 wr _ zs from hs3.hd).free hzl v
            obtain ⟨q, hc0⟩ := (show OwnInts 0 wr _ zs from hs3.hd).cellQ hzl (j := v) hvn
            have HS4 := Lib.hid (Sep.blk (A := [_]) (B := [_, _]) (hs3.setI hzl v (k : Int)))
            clear hvr hv hs3 hzl hty
            go_wp2_with fail
            go_roundw
            case rel => exact ⟨t + 1, _, by omega, by go_num, HST.out, HS4.out⟩
            case measure => simp [intOf]; omega
          · have htn : n2 = t := by omega
            subst htn
            have hti : ¬ (n2 : Int) < (n2 : Int) := by omega
            have HNX := Lib.hid (HOQ.out.next (by rw [HYY.out]; exact HN2.out.symm))
            obtain ⟨z0, z1, z2, z3, _⟩ := bq4 HSQ.out.hd
            go_wp2_with fail
            clear z0 z1 z2 z3
            go_loopw [9, 41] (fun _ i wq => ∃ (t : Nat) (ys : List Int), t ≤ n1 ∧ i = .int .i64 t ∧ ys.length = n ∧ Sep wq [BxA xb #[.int .i64 yk, .int .i64 yv, .slice s1 n1 r1, .slice s2 n2 r2] 84, BxA eb #[.slice (some ⟨b, 0, none⟩) n bc, .slice (some ⟨d, 0, none⟩) n dc] 135, OI (.slice (some ⟨b, 0, none⟩) n bc) zs, OI (.slice (some ⟨d, 0, none⟩) n dc) ys, BxA (w.heap.size + 1) #[.slice none 0 0, .slice none 0 0] 135, BxA w.heap.size #[.int .i64 n, .slice (some ⟨eeb, eeo, none⟩) m ec, .slice ia m1 ic, .slice oa m2 oc] 56, KeepA w]) (fun _ i _ => n1 - (intOf i).toNat)
            case atStart => exact ⟨0, ys, by omega, rfl, HYL.out, HSQ.out⟩
            case round =>
              obtain ⟨t, ys, ht, rfl, hyl, hs⟩ := hrel
              have HSR := Lib.hid hs; have HYQ := Lib.hid hyl
              clear hs hyl HSQ
              by_cases htl : t < n1
              · have hti : (t : Int) < (n1 : Int) := by omega
                have hty : t < yi.length := by rw [HN1.out]; exact htl
                obtain ⟨ob, oo, rfl, _, c0⟩ := (HRI.out wr HSR.out.tl.tl.tl.tl.tl.tl.hd).atD hty
                have hvr := HY1.out.1 _ (getD_mem' hty)
                obtain ⟨v, hv⟩ : ∃ v : Nat, yi.getD t 0 = (v : Int) := ⟨(yi.getD t 0).toNat, by omega⟩
                have hvn : v < n := by omega
                have hvi : (v : Int) < (n : Int) := by omega
                rw [hv] at c0
                obtain ⟨e0_, e1_, _⟩ := bc2 HSR.out.tl.hd
                have hzl : n = ys.length := HYQ.out.symm
                have hs3 := Sep.blk (A := [_, _, _]) (B := [_]) HSR.out
                have hf := (show OwnInts 0 wr _ ys from hs3.hd).free hzl v
                obtain ⟨q, hc0⟩ := (show OwnInts 0 wr _ ys from hs3.hd).cellQ hzl (j := v) hvn
                have HS4 := Lib.hid (Sep.blk (A := [_]) (B := [_, _, _]) (hs3.setI hzl v (k : Int)))
                clear hvr hv hs3 hzl hty
                go_wp2_with fail
                go_roundw
                case rel => exact ⟨t + 1, _, by omega, by go_num, by rw [List.length_set]; exact HYQ.out, HS4.out⟩
                case measure => simp [intOf]; omega
              · have htn : n1 = t := by omega
                subst htn
                have hti : ¬ (n1 : Int) < (n1 : Int) := by omega
                go_wp2_with fail
                go_roundw
                case rel => exact ⟨k + 1, _, _, by omega, by go_num, HNX.out, HYQ.out, HSR.out.tl⟩
                case measure => simp [intOf]; omega
      · have hkm : m = k := by omega
        subst hkm
        have hkk : ¬ (m : Int) < (m : Int) := by omega
        have HDN := Lib.hid (OrgAt.done (by have := HOA.out; rw [← HM.out] at this; exact this))
        obtain ⟨e0_, e1_, _⟩ := bc2 HSX.out.hd
        have hs3 := Sep.blk (A := [_, _, _]) (B := [_]) HSX.out
        obtain ⟨r0, r1, f0, f1⟩ := bc2 hs3.hd
        have hs4 := (hs3.setB 0 (.slice (some ⟨b, 0, none⟩) n bc)).setB 1 (.slice (some ⟨d, 0, none⟩) n dc)
        obtain ⟨t0, t1, _⟩ := bc2 hs4.hd
        have HSF := Lib.hid (Sep.cutA (X := [_, _]) (A := [_]) hs4.tl.tl)
        clear hs3 hs4
        go_wp2_with fail
        refine bodyPost_ret_by (v := .agg #[.slice (some ⟨b, 0, none⟩) n bc, .slice (some ⟨d, 0, none⟩) n dc]) ?_ rfl ⟨_, _, _, _, rfl, zs, HDN.out, ys, HYL.out, HSF.out⟩
        simp [results, go_sem, *]
end Go.Proofs.YtghfifpicklonaaDoor

/-
  From which gate a wire has its value, in the program: the closure of Graph.circuit. Conditions: the graph is as a circuit's is to be.
-/
namespace Go.Proofs.YtghfifpicklonaaDoor
open Go.RowKit
set_option linter.unusedVariables false
set_option maxRecDepth 100000

set_option maxHeartbeats 8000000 in
theorem from_any (g : Gr) (n sb gb eb sg b sc bc m1 ic m2 oc ec : Nat) (ea ia oa : Option Addr) (dv : Value) (zs : List Int) (w0 : Nat) (w : World) (l : List Asrt) (hk : CgOk g n) (hac : acyB (ndE g.es) = true)
    (hs : Sep w (OI (.slice (some ⟨sg, 0, none⟩) n sc) (srcG n g) :: BxA sb #[.slice (some ⟨sg, 0, none⟩) n sc] 27 :: BxA gb #[.int .i64 n, .slice ea g.es.length ec, .slice ia m1 ic, .slice oa m2 oc] 56 :: BxA eb #[.slice (some ⟨b, 0, none⟩) n bc, dv] 135 :: OI (.slice (some ⟨b, 0, none⟩) n bc) zs :: l))
    (he : RdE edgeE w (.slice ea g.es.length ec) g.es) (ho : OrgOk (fun e => e.o) g.es n zs) (hw : w0 < n) :
    Calls Tryd.prog 112 #[.int .i64 w0, .pointer (some ⟨sb, 0, none⟩), .pointer (some ⟨gb, 0, none⟩), .pointer (some ⟨eb, 0, none⟩)] w fun e w' => e = .returned (.int .i64 (srcV (srcG n g) g.es w0)) ∧ w.grownBy w' none := by
  have HS := Lib.hid hs; have HE := Lib.hid he; have HO := Lib.hid ho; have HK := Lib.hid hk
  have HAL := Lib.hid fun v hv => src_all hk hac v hv
  have HGL := Lib.hid (srcG_len n g)
  obtain ⟨sv, hsv⟩ : ∃ sv, srcV (srcG n g) g.es w0 = sv := ⟨_, rfl⟩
  have HSV := Lib.hid hsv
  rw [hsv]
  obtain ⟨m, hm⟩ : ∃ m, g.es.length = m := ⟨_, rfl⟩
  have HM := Lib.hid hm
  rw [hm] at HS HE
  clear hs he ho hk hsv hm hac
  go_enter Tryd.func112, Tryd.ntmps112
  go_wp2_with fail
  go_loopw [0] (fun wv wr => ∃ v : Nat, wv = .int .i64 v ∧ v < n ∧ srcV (srcG n g) g.es v = sv ∧ w.grownBy wr none) (fun wv _ => depF (srcG n g) g.es (intOf wv))
  case atStart => exact ⟨w0, rfl, hw, HSV.out, grownBy_refl _ _⟩
  case round =>
    obtain ⟨v, rfl, hv, hsv, hg⟩ := hrel
    have HSW := Lib.hid (HS.out.grown hg); have HG := Lib.hid hg; have HV := Lib.hid hsv
    have hew := HE.out.carry hg
    clear hg hsv
    have hvi : (v : Int) < (n : Int) := by omega
    obtain ⟨y0, _⟩ := bx1 HSW.out.tl.hd
    obtain ⟨x0, x1, x2, x3, _⟩ := bq4 HSW.out.tl.tl.hd
    obtain ⟨e0_, e1_, _⟩ := bc2 HSW.out.tl.tl.tl.hd
    have c0 := (show OwnInts 0 wr _ (srcG n g) from HSW.out.hd).read.atD (i := v) (by rw [HGL.out]; exact hv)
    obtain ⟨b1, o1, hb1, _, c0⟩ := c0
    injection hb1 with hb1
    injection hb1 with hb1 ho1 _
    subst hb1 ho1
    rw [show (srcG n g).getD v 0 = (srcG n g).getD v (-1) from by
      rw [List.getD_eq_getElem?_getD, List.getD_eq_getElem?_getD, List.getElem?_eq_getElem (show v < (srcG n g).length by rw [HGL.out]; exact hv)]; rfl] at c0
    rw [Nat.zero_add] at c0
    by_cases h0 : (srcG n g).getD v (-1) < 0
    · obtain ⟨i, hi1, hi2, hi3, hi4⟩ := src_back (w := (v : Int)) (HAL.out v hv) (by simpa using h0)
      obtain ⟨i', hj1, hj2, hj3⟩ := copy_at HK.out hv h0
      have hoi := org_at HK.out hj1 hj2
      rw [hi1] at hoi
      injection hoi with hoi
      subst hoi
      have him : i < m := by rw [← HM.out]; exact hj1
      have hii : (i : Int) < (m : Int) := by omega
      have hz : zs.getD v 0 = (i : Int) := by
        rcases HO.out.2 v hv with ⟨_, h⟩ | ⟨e, he1, he2, he3⟩
        · exact absurd hj2 (h i hj1)
        · rw [he2, HK.out.one e i _ he1 hj1 he3 hj2]
      obtain ⟨b2, o2, hb2, _, c1⟩ := (show OwnInts 0 wr _ zs from HSW.out.tl.tl.tl.tl.hd).read.atD (i := v) (by rw [HO.out.1]; exact hv)
      injection hb2 with hb2
      injection hb2 with hb2 ho2 _
      subst hb2 ho2
      rw [hz, Nat.zero_add] at c1
      obtain ⟨l1, _⟩ := HK.out.w3 _ (esMem hj1) hj3
      have hyr := (HK.out.re _ (esMem hj1)).1 _ (head_mem (l := (g.es.getD i e0).i) (by omega))
      obtain ⟨v2, hv2⟩ : ∃ v2 : Nat, (g.es.getD i e0).i.getD 0 0 = (v2 : Int) := ⟨((g.es.getD i e0).i.getD 0 0).toNat, by omega⟩
      have hv2n : v2 < n := by omega
      rw [hv2] at hi3 hi4
      obtain ⟨eb1, eo1, u1, u2, hea, _, q0, q1, q2, q3, hqi, hqo⟩ := hew.at rfl rfl hj1
      subst hea
      obtain ⟨s1, r1, rfl⟩ := hqi.shape
      obtain ⟨b3, o3, rfl, _, c2⟩ := hqi.atD (i := 0) (by omega)
      rw [hv2, Nat.add_zero] at c2
      rw [l1] at q2
      have HD := Lib.hid hi4
      have HV2 := Lib.hid (hi3.symm.trans HV.out)
      have h1 : (0 : Int) < ((1 : Nat) : Int) := by decide
      obtain ⟨G, hG⟩ : ∃ G, (srcG n g).getD v (-1) = G := ⟨_, rfl⟩
      rw [hG] at c0 h0
      clear hG hi1 hi2 hi3 hi4 hj1 hj2 hj3 hz hyr hv2 hqi hqo hew l1 q0 q1 q3 x0 x2 x3 e1_
      go_upto_region 2 with fail
      go_quiet (fail)
      go_wp2_with fail
      go_roundw
      case rel => exact ⟨v2, rfl, hv2n, HV2.out, grownBy_trans HG.out (grown_drewC _ _)⟩
      case measure => exact HD.out
    · have hsrc := src_here (es := g.es) (w := (v : Int)) (G := srcG n g) (by simp only [Int.toNat_natCast]; omega)
      simp only [Int.toNat_natCast] at hsrc
      rw [← hsrc, HV.out] at c0 h0
      have HKF := HG
      clear hsrc hew
      go_wp2_with fail
      go_ret
      exact ⟨rfl, HG.out⟩
end Go.Proofs.YtghfifpicklonaaDoor

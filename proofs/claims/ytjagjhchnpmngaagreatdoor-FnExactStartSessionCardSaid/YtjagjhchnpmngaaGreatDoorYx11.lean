/-
  StartSession in the reference. Conditions: the terms lie in memory with their lengths; the lengths are small.
-/
import Derived.Test.YtjagjhchnpmngaaGreatDoorYx10
namespace Go.Proofs.YtjagjhchnpmngaaGreatDoor
open Go.RowKit
set_option linter.unusedVariables false
set_option linter.unusedSimpArgs false
set_option maxRecDepth 100000

theorem want_yes {c A B : Prop} [Decidable c] (hc : c) (h : A) : if c then A else B := by rw [if_pos hc]; exact h
theorem want_no {c A B : Prop} [Decidable c] (hc : ¬ c) (h : B) : if c then A else B := by rw [if_neg hc]; exact h
section
variable {P : Program} {ops : Array Oper} {Q : Exit → Act → World → Prop} {md : Region.Mode} {Se Sa : World → Prop} {ap : Nat}
/-- An operation that is not wanted is passed over. -/
theorem AnyL.skip {i : Nat} {oi : Oper} {fuel : Nat} {listed : Array Bool} {a : Act} {w : World} {r : List Oper} (hi' : ops.toList.drop i = oi :: r)
    (hs : Region.noSelect ops = true) (hf : Region.free md ops listed i = true) (hr : (Region.ready md ops listed).contains i = true) (hia : (i == ap) = false)
    (hQ : ∀ c a w, Q (.panic c) (a.put oi.dst undef) w → Q (.panic c) a w) (hw : Region.wanted oi (yielded ops a.tmps) = false) (hS : Se w ∧ (listed.getD ap true = false → Sa w))
    (h : AnyL P md ops Q Se Sa ap fuel (listed.setIfInBounds i true) (a.put oi.dst undef) w) : AnyL P md ops Q Se Sa ap (fuel + 1) listed a w :=
  have hi := op_at hi'
  AnyL.first (C := Se) hi (Region.noSelect_spec hs) hQ (fun _ => True) (fun _ _ _ _ _ _ => trivial) (fun _ _ _ h _ => h) (by simpa using hia) fuel listed a w trivial (Region.free_spec hi hf) (by simpa using hr) (Or.inr ⟨hw, rfl⟩) hS.1 hS.2 h
end
/-- What hands back a session of its own, told by the slices. -/
def GivesN (b : Bool) (R : Sn) (w : World) (e : Ending) (w' : World) : Prop :=
  ∃ (a1 b1 c1 d1 e1 f1 : Option Addr) (s1 t1 u1 v1 q1 r1 : Nat) (xs ys : List XE), e = .returned (.tuple #[.agg #[.int .i64 R.p, .int .i64 R.k, .int .i64 R.l, .slice none 0 0, .int .i64 R.n.n, .slice a1 R.n.es.length s1, .slice b1 R.n.i.length t1, .slice c1 R.n.o.length u1, .slice none 0 0, .int .i64 R.g.n, .slice d1 R.g.es.length v1, .slice e1 R.g.i.length q1, .slice f1 R.g.o.length r1], .bool b]) ∧ (eds xs = R.n.es ∧ eds ys = R.g.es) ∧
    Sep w' [ON (.slice a1 R.n.es.length s1) xs (.slice b1 R.n.i.length t1) R.n.i (.slice c1 R.n.o.length u1) R.n.o (.slice d1 R.g.es.length v1) ys (.slice e1 R.g.i.length q1) R.g.i (.slice f1 R.g.o.length r1) R.g.o, KeepA w]
theorem GivesN.zero {w w' : World} (h : w.grownBy w' none) : GivesN false sn0 w (.returned (.tuple #[.agg #[.int .i64 0, .int .i64 0, .int .i64 0, .slice none 0 0, .int .i64 0, .slice none 0 0, .slice none 0 0, .slice none 0 0, .slice none 0 0, .int .i64 0, .slice none 0 0, .slice none 0 0, .slice none 0 0], .bool false])) w' := by
  refine ⟨none, none, none, none, none, none, 0, 0, 0, 0, 0, 0, [], [], rfl, ⟨rfl, rfl⟩, ?_⟩
  have h1 := Sep.bag (l := [_, _, _]) (Sep.nilGT ((Sep.start w).grown h))
  have h2 := Sep.bag (l := [_, _, _]) (Sep.nilGT h1)
  exact Sep.bag (l := [_, _]) h2
theorem sn_no {p k l : Int} {x y : List Nd} (h : snOk p k l x y = false) : snRes p k l x y = sn0 := by unfold snRes; rw [h]; rfl
theorem sn_yes {p k l : Int} {x y : List Nd} (h : snOk p k l x y = true) : snRes p k l x y = ⟨p, k, l, grT x, grT y⟩ := by unfold snRes; rw [h]; rfl
/-- A made graph's parts, told by its lengths. -/
theorem made_parts {b : Bool} {K : Gr} {w : World} {e : Ending} {w' : World} (h : MadeR b K w e w') : ∃ (G : Gr) (a1 b1 c1 : Option Addr) (s1 t1 u1 : Nat) (xs : List XE), G = (if b = true then K else gr0) ∧ e = .returned (.tuple #[.agg #[.int .i64 G.n, .slice a1 G.es.length s1, .slice b1 G.i.length t1, .slice c1 G.o.length u1], .bool b]) ∧ eds xs = G.es ∧
    Sep w' [OX3 (.slice a1 G.es.length s1) xs (.slice b1 G.i.length t1) G.i (.slice c1 G.o.length u1) G.o, KeepA w] := by
  obtain ⟨u0, xs, u1, u2, he, hx, hs⟩ := h
  generalize hG : (if b = true then K else gr0) = G at *
  obtain ⟨a, c, rfl⟩ := OE.shape hs.hd
  obtain ⟨p, q, rfl⟩ := own_shape (show OwnInts 0 w' u1 G.i from hs.tl.hd)
  obtain ⟨r, s, rfl⟩ := own_shape (show OwnInts 0 w' u2 G.o from hs.tl.tl.hd)
  have hl : xs.length = G.es.length := by rw [← hx, eds_len]
  rw [hl] at hs he
  exact ⟨G, a, p, r, c, q, s, xs, rfl, he, hx, Sep.bag (l := [_, _, _]) hs⟩
set_option maxHeartbeats 8000000 in
theorem sStart_any (p k l : Int) (x y : List Nd) (na nb : Option Addr) (nc mc : Nat) (w : World) (hx : RdR nodeE w (.slice na x.length nc) x) (hxc : x.length ≤ nc) (hxl : x.length ≤ 2000000) (hy : RdR nodeE w (.slice nb y.length mc) y) (hyc : y.length ≤ mc) (hyl : y.length ≤ 2000000) :
    Calls Tryz.prog 5 #[.int .i64 p, .int .i64 k, .int .i64 l, .agg #[.slice na x.length nc], .agg #[.slice nb y.length mc]] w (GivesN (snOk p k l x y) (snRes p k l x y) w) := by
  have HGA := Lib.hid fun W (hW : w.grownBy W none) => tmGood_any p (.slice na x.length nc) x W (hx.carry hW) hxl
  have HGB := Lib.hid fun W (hW : w.grownBy W none) => tmGood_any p (.slice nb y.length mc) y W (hy.carry hW) hyl
  have HFT := Lib.hid fun W (hW : w.grownBy W none) => fdTwo_any p k l W
  have HIA := Lib.hid fun (hb : tmB x = true) W (hW : w.grownBy W none) => tmIn_any (.slice na x.length nc) x W (hx.carry hW) hxl hb
  have HIB := Lib.hid fun (hb : tmB y = true) W (hW : w.grownBy W none) => tmIn_any (.slice nb y.length mc) y W (hy.carry hW) hyl hb
  have HOA := Lib.hid fun (hb : tmB x = true) W (hW : w.grownBy W none) => tmOut_any (.slice na x.length nc) x W (hx.carry hW) hxl hb
  have HOB := Lib.hid fun (hb : tmB y = true) W (hW : w.grownBy W none) => tmOut_any (.slice nb y.length mc) y W (hy.carry hW) hyl hb
  have HMA := Lib.hid fun (hb : tmB x = true) W (hW : w.grownBy W none) => show Calls Tryz.prog 18 #[.agg #[.slice na x.length nc]] W (MadeR (okT x) (grT x) W) from by
    obtain ⟨⟨b1, b2⟩, t, hok, hno, hp⟩ := tmB_tree hb
    obtain ⟨e1, e2, _⟩ := tree_eq hp
    rw [e1, e2]
    subst hno
    exact hgMade_any t na nc W hok (by rw [← t.nodes_len]; exact b2) (hx.carry hW) hxc
  have HMB := Lib.hid fun (hb : tmB y = true) W (hW : w.grownBy W none) => show Calls Tryz.prog 18 #[.agg #[.slice nb y.length mc]] W (MadeR (okT y) (grT y) W) from by
    obtain ⟨⟨b1, b2⟩, t, hok, hno, hp⟩ := tmB_tree hb
    obtain ⟨e1, e2, _⟩ := tree_eq hp
    rw [e1, e2]
    subst hno
    exact hgMade_any t nb mc W hok (by rw [← t.nodes_len]; exact b2) (hy.carry hW) hyc
  obtain ⟨b, hb⟩ : ∃ b, snOk p k l x y = b := ⟨_, rfl⟩
  obtain ⟨R, hR⟩ : ∃ R, snRes p k l x y = R := ⟨_, rfl⟩
  rw [hb, hR]
  have HB := Lib.hid hb; have HR := Lib.hid hR
  clear hx hxc hxl hy hyc hyl hb hR
  generalize hn : x.length = n at *
  generalize hm : y.length = m at *
  clear hn hm
  have hs0 := (((Sep.start w).boxAt w.heap.size rfl #[.slice na n nc] 37).boxAt (w.heap.size + 1) (by simp) #[.slice nb m mc] 37).boxAt (w.heap.size + 2) (by simp) #[.int .i64 0, .int .i64 0, .int .i64 0, .slice none 0 0, .int .i64 0, .slice none 0 0, .slice none 0 0, .slice none 0 0, .slice none 0 0, .int .i64 0, .slice none 0 0, .slice none 0 0, .slice none 0 0] 32
  have HS0 := Lib.hid hs0
  clear hs0
  cases h1 : ovT p x
  · rw [h1] at HGA
    obtain rfl : b = false := by rw [← HB.out]; unfold snOk; rw [h1]; simp
    obtain rfl : R = sn0 := HR.out.symm.trans (sn_no HB.out)
    clear h1
    go_enter Tryz.func5, Tryz.ntmps5
    go_upto_region 1 with fail
    have HBM := Lib.hid fun (W1 : World) (L : List Asrt) (h : Sep W1 L) (h1 : BxA w.heap.size #[.slice na n nc] 37 ∈ L) (h2 : BxA (w.heap.size + 1) #[.slice nb m mc] 37 ∈ L) => show W1.cell? ⟨w.heap.size, 0, none⟩ = some (.slice na n nc) ∧ W1.cell? ⟨w.heap.size + 1, 0, none⟩ = some (.slice nb m mc) from
      ⟨bs1 (show W1.heap[w.heap.size]? = some (.cells #[.slice na n nc] 37 (0, 0)) from Sep.all h _ h1), bs1 (show W1.heap[w.heap.size + 1]? = some (.cells #[.slice nb m mc] 37 (0, 0)) from Sep.all h _ h2)⟩
    have HSD := Lib.hid HS0.out.dr
    refine AnyL.start (fun W1 => W1.cell? ⟨w.heap.size, 0, none⟩ = some (.slice na n nc) ∧ W1.cell? ⟨w.heap.size + 1, 0, none⟩ = some (.slice nb m mc)) (fun _ => True) 99 (by kernel_rfl) ?_
    generalize (World.alloc _ _).drew = w1 at *
    refine AnyL.take (i := 0) (v := ?vx1) (by rfl) (by kernel_rfl) (by kernel_rfl) (by kernel_rfl) rfl (by exact fun _ _ _ h => h) (by rfl) ?hyx1 (by exact ⟨HBM.out _ _ HSD.out (by simp) (by simp), fun _ => trivial⟩) ?restx1
    case hyx1 => intro W hSW; (try dsimp only at hSW); first | (go_simp; done) | (go_simp; with_reducible rfl)
    try simp only [Act.put, List.setIfInBounds_toArray, List.set_cons_zero, List.set_cons_succ]
    refine AnyL.take (i := 1) (v := ?vx2) (by rfl) (by kernel_rfl) (by kernel_rfl) (by kernel_rfl) rfl (by exact fun _ _ _ h => h) (by rfl) ?hyx2 (by exact ⟨HBM.out _ _ HSD.out (by simp) (by simp), fun _ => trivial⟩) ?restx2
    case hyx2 => intro W hSW; (try dsimp only at hSW); first | (go_simp; done) | (go_simp; with_reducible rfl)
    try simp only [Act.put, List.setIfInBounds_toArray, List.set_cons_zero, List.set_cons_succ]
    refine AnyL.step (i := 2) (by kernel_rfl) (by rfl) (fun KK hKK => ?_)
    refine want_yes (by rfl) ?_
    go_simp
    have HCC := Lib.hid (HGA.out _ HSD.out.tl.tl.tl.hd)
    go_at_call 14
    with_reducible refine HCC.out.mono ?_
    rintro e wc1 ⟨rfl, hg⟩
    have HSc1 := Lib.hid (HSD.out.grown hg)
    clear hg
    refine hKK.out _ _ (by exact HBM.out _ _ HSc1.out (by simp) (by simp)) (by exact fun _ => trivial) ?_
    clear hKK KK HCC
    try simp only [Act.put, List.setIfInBounds_toArray, List.set_cons_zero, List.set_cons_succ]
    refine AnyL.take (i := 3) (v := ?vx3) (by rfl) (by kernel_rfl) (by kernel_rfl) (by kernel_rfl) rfl (by exact fun _ _ _ h => h) (by rfl) ?hyx3 (by exact ⟨HBM.out _ _ HSc1.out (by simp) (by simp), fun _ => trivial⟩) ?restx3
    case hyx3 => intro W hSW; (try dsimp only at hSW); first | (go_simp; done) | (go_simp; with_reducible rfl)
    try simp only [Act.put, List.setIfInBounds_toArray, List.set_cons_zero, List.set_cons_succ]
    refine AnyL.take (i := 4) (v := ?vx4) (by rfl) (by kernel_rfl) (by kernel_rfl) (by kernel_rfl) rfl (by exact fun _ _ _ h => h) (by rfl) ?hyx4 (by exact ⟨HBM.out _ _ HSc1.out (by simp) (by simp), fun _ => trivial⟩) ?restx4
    case hyx4 => intro W hSW; (try dsimp only at hSW); first | (go_simp; done) | (go_simp; with_reducible rfl)
    try simp only [Act.put, List.setIfInBounds_toArray, List.set_cons_zero, List.set_cons_succ]
    refine AnyL.skip (i := 5) (by rfl) (by kernel_rfl) (by kernel_rfl) (by kernel_rfl) rfl (by exact fun _ _ _ h => h) (by rfl) (by exact ⟨HBM.out _ _ HSc1.out (by simp) (by simp), fun _ => trivial⟩) ?_
    try simp only [Act.put, List.setIfInBounds_toArray, List.set_cons_zero, List.set_cons_succ]
    refine AnyL.skip (i := 6) (by rfl) (by kernel_rfl) (by kernel_rfl) (by kernel_rfl) rfl (by exact fun _ _ _ h => h) (by rfl) (by exact ⟨HBM.out _ _ HSc1.out (by simp) (by simp), fun _ => trivial⟩) ?_
    try simp only [Act.put, List.setIfInBounds_toArray, List.set_cons_zero, List.set_cons_succ]
    refine AnyL.step (i := 7) (by kernel_rfl) (by rfl) (fun KK hKK => ?_)
    refine want_no (fun h => by cases (show false = true from h)) ?_
    refine hKK.out _ _ (by exact HBM.out _ _ HSc1.out (by simp) (by simp)) (by exact fun _ => trivial) ?_
    clear hKK KK
    try simp only [Act.put, List.setIfInBounds_toArray, List.set_cons_zero, List.set_cons_succ]
    refine AnyL.skip (i := 8) (by rfl) (by kernel_rfl) (by kernel_rfl) (by kernel_rfl) rfl (by exact fun _ _ _ h => h) (by rfl) (by exact ⟨HBM.out _ _ HSc1.out (by simp) (by simp), fun _ => trivial⟩) ?_
    try simp only [Act.put, List.setIfInBounds_toArray, List.set_cons_zero, List.set_cons_succ]
    refine AnyL.take (i := 9) (v := ?vx5) (by rfl) (by kernel_rfl) (by kernel_rfl) (by kernel_rfl) rfl (by exact fun _ _ _ h => h) (by rfl) ?hyx5 (by exact ⟨HBM.out _ _ HSc1.out (by simp) (by simp), fun _ => trivial⟩) ?restx5
    case hyx5 => intro W hSW; (try dsimp only at hSW); first | (go_simp; done) | (go_simp; with_reducible rfl)
    try simp only [Act.put, List.setIfInBounds_toArray, List.set_cons_zero, List.set_cons_succ]
    refine AnyL.take (i := 10) (v := ?vx6) (by rfl) (by kernel_rfl) (by kernel_rfl) (by kernel_rfl) rfl (by exact fun _ _ _ h => h) (by rfl) ?hyx6 (by exact ⟨HBM.out _ _ HSc1.out (by simp) (by simp), fun _ => trivial⟩) ?restx6
    case hyx6 => intro W hSW; (try dsimp only at hSW); first | (go_simp; done) | (go_simp; with_reducible rfl)
    try simp only [Act.put, List.setIfInBounds_toArray, List.set_cons_zero, List.set_cons_succ]
    refine AnyL.skip (i := 11) (by rfl) (by kernel_rfl) (by kernel_rfl) (by kernel_rfl) rfl (by exact fun _ _ _ h => h) (by rfl) (by exact ⟨HBM.out _ _ HSc1.out (by simp) (by simp), fun _ => trivial⟩) ?_
    try simp only [Act.put, List.setIfInBounds_toArray, List.set_cons_zero, List.set_cons_succ]
    refine AnyL.skip (i := 12) (by rfl) (by kernel_rfl) (by kernel_rfl) (by kernel_rfl) rfl (by exact fun _ _ _ h => h) (by rfl) (by exact ⟨HBM.out _ _ HSc1.out (by simp) (by simp), fun _ => trivial⟩) ?_
    try simp only [Act.put, List.setIfInBounds_toArray, List.set_cons_zero, List.set_cons_succ]
    refine AnyL.skip (i := 13) (by rfl) (by kernel_rfl) (by kernel_rfl) (by kernel_rfl) rfl (by exact fun _ _ _ h => h) (by rfl) (by exact ⟨HBM.out _ _ HSc1.out (by simp) (by simp), fun _ => trivial⟩) ?_
    try simp only [Act.put, List.setIfInBounds_toArray, List.set_cons_zero, List.set_cons_succ]
    refine AnyL.step (i := 14) (by kernel_rfl) (by rfl) (fun KK hKK => ?_)
    refine want_no (fun h => by cases (show false = true from h)) ?_
    refine hKK.out _ _ (by exact HBM.out _ _ HSc1.out (by simp) (by simp)) (by exact fun _ => trivial) ?_
    clear hKK KK
    try simp only [Act.put, List.setIfInBounds_toArray, List.set_cons_zero, List.set_cons_succ]
    refine AnyL.skip (i := 15) (by rfl) (by kernel_rfl) (by kernel_rfl) (by kernel_rfl) rfl (by exact fun _ _ _ h => h) (by rfl) (by exact ⟨HBM.out _ _ HSc1.out (by simp) (by simp), fun _ => trivial⟩) ?_
    try simp only [Act.put, List.setIfInBounds_toArray, List.set_cons_zero, List.set_cons_succ]
    refine AnyL.take (i := 16) (v := ?vx7) (by rfl) (by kernel_rfl) (by kernel_rfl) (by kernel_rfl) rfl (by exact fun _ _ _ h => h) (by rfl) ?hyx7 (by exact ⟨HBM.out _ _ HSc1.out (by simp) (by simp), fun _ => trivial⟩) ?restx7
    case hyx7 => intro W hSW; (try dsimp only at hSW); first | (go_simp; done) | (go_simp; with_reducible rfl)
    try simp only [Act.put, List.setIfInBounds_toArray, List.set_cons_zero, List.set_cons_succ]
    refine AnyL.take (i := 17) (v := ?vx8) (by rfl) (by kernel_rfl) (by kernel_rfl) (by kernel_rfl) rfl (by exact fun _ _ _ h => h) (by rfl) ?hyx8 (by exact ⟨HBM.out _ _ HSc1.out (by simp) (by simp), fun _ => trivial⟩) ?restx8
    case hyx8 => intro W hSW; (try dsimp only at hSW); first | (go_simp; done) | (go_simp; with_reducible rfl)
    try simp only [Act.put, List.setIfInBounds_toArray, List.set_cons_zero, List.set_cons_succ]
    refine AnyL.skip (i := 18) (by rfl) (by kernel_rfl) (by kernel_rfl) (by kernel_rfl) rfl (by exact fun _ _ _ h => h) (by rfl) (by exact ⟨HBM.out _ _ HSc1.out (by simp) (by simp), fun _ => trivial⟩) ?_
    try simp only [Act.put, List.setIfInBounds_toArray, List.set_cons_zero, List.set_cons_succ]
    refine AnyL.skip (i := 20) (by rfl) (by kernel_rfl) (by kernel_rfl) (by kernel_rfl) rfl (by exact fun _ _ _ h => h) (by rfl) (by exact ⟨HBM.out _ _ HSc1.out (by simp) (by simp), fun _ => trivial⟩) ?_
    try simp only [Act.put, List.setIfInBounds_toArray, List.set_cons_zero, List.set_cons_succ]
    refine AnyL.step (i := 19) (by kernel_rfl) (by rfl) (fun KK hKK => ?_)
    refine want_no (fun h => by cases (show false = true from h)) ?_
    refine hKK.out _ _ (by exact HBM.out _ _ HSc1.out (by simp) (by simp)) (by exact fun _ => trivial) ?_
    clear hKK KK
    try simp only [Act.put, List.setIfInBounds_toArray, List.set_cons_zero, List.set_cons_succ]
    refine AnyL.step (i := 21) (by kernel_rfl) (by rfl) (fun KK hKK => ?_)
    refine want_no (fun h => by cases (show false = true from h)) ?_
    refine hKK.out _ _ (by exact HBM.out _ _ HSc1.out (by simp) (by simp)) (by exact fun _ => trivial) ?_
    clear hKK KK
    try simp only [Act.put, List.setIfInBounds_toArray, List.set_cons_zero, List.set_cons_succ]
    refine AnyL.skip (i := 22) (by rfl) (by kernel_rfl) (by kernel_rfl) (by kernel_rfl) rfl (by exact fun _ _ _ h => h) (by rfl) (by exact ⟨HBM.out _ _ HSc1.out (by simp) (by simp), fun _ => trivial⟩) ?_
    try simp only [Act.put, List.setIfInBounds_toArray, List.set_cons_zero, List.set_cons_succ]
    refine AnyL.take (i := 23) (v := ?vx9) (by rfl) (by kernel_rfl) (by kernel_rfl) (by kernel_rfl) rfl (by exact fun _ _ _ h => h) (by rfl) ?hyx9 (by exact ⟨HBM.out _ _ HSc1.out (by simp) (by simp), fun _ => trivial⟩) ?restx9
    case hyx9 => intro W hSW; (try dsimp only at hSW); first | (go_simp; done) | (go_simp; with_reducible rfl)
    try simp only [Act.put, List.setIfInBounds_toArray, List.set_cons_zero, List.set_cons_succ]
    refine AnyL.take (i := 24) (v := ?vx10) (by rfl) (by kernel_rfl) (by kernel_rfl) (by kernel_rfl) rfl (by exact fun _ _ _ h => h) (by rfl) ?hyx10 (by exact ⟨HBM.out _ _ HSc1.out (by simp) (by simp), fun _ => trivial⟩) ?restx10
    case hyx10 => intro W hSW; (try dsimp only at hSW); first | (go_simp; done) | (go_simp; with_reducible rfl)
    try simp only [Act.put, List.setIfInBounds_toArray, List.set_cons_zero, List.set_cons_succ]
    refine AnyL.skip (i := 25) (by rfl) (by kernel_rfl) (by kernel_rfl) (by kernel_rfl) rfl (by exact fun _ _ _ h => h) (by rfl) (by exact ⟨HBM.out _ _ HSc1.out (by simp) (by simp), fun _ => trivial⟩) ?_
    try simp only [Act.put, List.setIfInBounds_toArray, List.set_cons_zero, List.set_cons_succ]
    refine AnyL.skip (i := 27) (by rfl) (by kernel_rfl) (by kernel_rfl) (by kernel_rfl) rfl (by exact fun _ _ _ h => h) (by rfl) (by exact ⟨HBM.out _ _ HSc1.out (by simp) (by simp), fun _ => trivial⟩) ?_
    try simp only [Act.put, List.setIfInBounds_toArray, List.set_cons_zero, List.set_cons_succ]
    refine AnyL.step (i := 26) (by kernel_rfl) (by rfl) (fun KK hKK => ?_)
    refine want_no (fun h => by cases (show false = true from h)) ?_
    refine hKK.out _ _ (by exact HBM.out _ _ HSc1.out (by simp) (by simp)) (by exact fun _ => trivial) ?_
    clear hKK KK
    try simp only [Act.put, List.setIfInBounds_toArray, List.set_cons_zero, List.set_cons_succ]
    refine AnyL.step (i := 28) (by kernel_rfl) (by rfl) (fun KK hKK => ?_)
    refine want_no (fun h => by cases (show false = true from h)) ?_
    refine hKK.out _ _ (by exact HBM.out _ _ HSc1.out (by simp) (by simp)) (by exact fun _ => trivial) ?_
    clear hKK KK
    try simp only [Act.put, List.setIfInBounds_toArray, List.set_cons_zero, List.set_cons_succ]
    refine AnyL.skip (i := 29) (by rfl) (by kernel_rfl) (by kernel_rfl) (by kernel_rfl) rfl (by exact fun _ _ _ h => h) (by rfl) (by exact ⟨HBM.out _ _ HSc1.out (by simp) (by simp), fun _ => trivial⟩) ?_
    try simp only [Act.put, List.setIfInBounds_toArray, List.set_cons_zero, List.set_cons_succ]
    refine AnyL.take (i := 30) (v := ?vx11) (by rfl) (by kernel_rfl) (by kernel_rfl) (by kernel_rfl) rfl (by exact fun _ _ _ h => h) (by rfl) ?hyx11 (by exact ⟨HBM.out _ _ HSc1.out (by simp) (by simp), fun _ => trivial⟩) ?restx11
    case hyx11 => intro W hSW; (try dsimp only at hSW); first | (go_simp; done) | (go_simp; with_reducible rfl)
    try simp only [Act.put, List.setIfInBounds_toArray, List.set_cons_zero, List.set_cons_succ]
    refine AnyL.done (by kernel_rfl) ?_ _
    have hz0 := HSc1.out
    obtain ⟨y0_, y1_, y2_, y3_, y4_, y5_, y6_, y7_, y8_, y9_, y10_, y11_, y12_⟩ := cq13 hz0.hd
    obtain ⟨f0_, f1_, f2_, f3_, f4_, f5_, f6_, f7_, f8_, f9_, f10_, f11_, f12_⟩ := cf13 hz0.hd
    have hz := (((((((((((((hz0.q13_0 (u := .int .i64 0)).q13_1 (u := .int .i64 0)).q13_2 (u := .int .i64 0)).q13_3 (u := .slice none 0 0)).q13_4 (u := .int .i64 0)).q13_5 (u := .slice none 0 0)).q13_6 (u := .slice none 0 0)).q13_7 (u := .slice none 0 0)).q13_8 (u := .slice none 0 0)).q13_9 (u := .int .i64 0)).q13_10 (u := .slice none 0 0)).q13_11 (u := .slice none 0 0)).q13_12 (u := .slice none 0 0))
    have HZC := Lib.hid (cq13 hz.hd)
    have HKF := Lib.hid (show w.grownBy _ none from Sep.all hz (KeepA w) (by simp))
    clear hz hz0
    go_wp2_with fail
    obtain ⟨z0_, z1_, z2_, z3_, z4_, z5_, z6_, z7_, z8_, z9_, z10_, z11_, z12_⟩ := HZC.out
    refine bodyPost_ret_by (v := .tuple #[.agg #[.int .i64 0, .int .i64 0, .int .i64 0, .slice none 0 0, .int .i64 0, .slice none 0 0, .slice none 0 0, .slice none 0 0, .slice none 0 0, .int .i64 0, .slice none 0 0, .slice none 0 0, .slice none 0 0], .bool false]) ?_ rfl (GivesN.zero HKF.out)
    simp [results, go_sem, *]
  · cases h2 : ovT p y
    · rw [h1] at HGA
      rw [h2] at HGB
      obtain rfl : b = false := by rw [← HB.out]; unfold snOk; rw [h2]; simp
      obtain rfl : R = sn0 := HR.out.symm.trans (sn_no HB.out)
      clear h1 h2
      go_enter Tryz.func5, Tryz.ntmps5
      go_upto_region 1 with fail
      have HBM := Lib.hid fun (W1 : World) (L : List Asrt) (h : Sep W1 L) (h1 : BxA w.heap.size #[.slice na n nc] 37 ∈ L) (h2 : BxA (w.heap.size + 1) #[.slice nb m mc] 37 ∈ L) => show W1.cell? ⟨w.heap.size, 0, none⟩ = some (.slice na n nc) ∧ W1.cell? ⟨w.heap.size + 1, 0, none⟩ = some (.slice nb m mc) from
        ⟨bs1 (show W1.heap[w.heap.size]? = some (.cells #[.slice na n nc] 37 (0, 0)) from Sep.all h _ h1), bs1 (show W1.heap[w.heap.size + 1]? = some (.cells #[.slice nb m mc] 37 (0, 0)) from Sep.all h _ h2)⟩
      have HSD := Lib.hid HS0.out.dr
      refine AnyL.start (fun W1 => W1.cell? ⟨w.heap.size, 0, none⟩ = some (.slice na n nc) ∧ W1.cell? ⟨w.heap.size + 1, 0, none⟩ = some (.slice nb m mc)) (fun _ => True) 99 (by kernel_rfl) ?_
      generalize (World.alloc _ _).drew = w1 at *
      refine AnyL.take (i := 0) (v := ?vx12) (by rfl) (by kernel_rfl) (by kernel_rfl) (by kernel_rfl) rfl (by exact fun _ _ _ h => h) (by rfl) ?hyx12 (by exact ⟨HBM.out _ _ HSD.out (by simp) (by simp), fun _ => trivial⟩) ?restx12
      case hyx12 => intro W hSW; (try dsimp only at hSW); first | (go_simp; done) | (go_simp; with_reducible rfl)
      try simp only [Act.put, List.setIfInBounds_toArray, List.set_cons_zero, List.set_cons_succ]
      refine AnyL.take (i := 1) (v := ?vx13) (by rfl) (by kernel_rfl) (by kernel_rfl) (by kernel_rfl) rfl (by exact fun _ _ _ h => h) (by rfl) ?hyx13 (by exact ⟨HBM.out _ _ HSD.out (by simp) (by simp), fun _ => trivial⟩) ?restx13
      case hyx13 => intro W hSW; (try dsimp only at hSW); first | (go_simp; done) | (go_simp; with_reducible rfl)
      try simp only [Act.put, List.setIfInBounds_toArray, List.set_cons_zero, List.set_cons_succ]
      refine AnyL.step (i := 2) (by kernel_rfl) (by rfl) (fun KK hKK => ?_)
      refine want_yes (by rfl) ?_
      go_simp
      have HCC := Lib.hid (HGA.out _ HSD.out.tl.tl.tl.hd)
      go_at_call 14
      with_reducible refine HCC.out.mono ?_
      rintro e wc2 ⟨rfl, hg⟩
      have HSc2 := Lib.hid (HSD.out.grown hg)
      clear hg
      refine hKK.out _ _ (by exact HBM.out _ _ HSc2.out (by simp) (by simp)) (by exact fun _ => trivial) ?_
      clear hKK KK HCC
      try simp only [Act.put, List.setIfInBounds_toArray, List.set_cons_zero, List.set_cons_succ]
      refine AnyL.take (i := 3) (v := ?vx14) (by rfl) (by kernel_rfl) (by kernel_rfl) (by kernel_rfl) rfl (by exact fun _ _ _ h => h) (by rfl) ?hyx14 (by exact ⟨HBM.out _ _ HSc2.out (by simp) (by simp), fun _ => trivial⟩) ?restx14
      case hyx14 => intro W hSW; (try dsimp only at hSW); first | (go_simp; done) | (go_simp; with_reducible rfl)
      try simp only [Act.put, List.setIfInBounds_toArray, List.set_cons_zero, List.set_cons_succ]
      refine AnyL.take (i := 4) (v := ?vx15) (by rfl) (by kernel_rfl) (by kernel_rfl) (by kernel_rfl) rfl (by exact fun _ _ _ h => h) (by rfl) ?hyx15 (by exact ⟨HBM.out _ _ HSc2.out (by simp) (by simp), fun _ => trivial⟩) ?restx15
      case hyx15 => intro W hSW; (try dsimp only at hSW); first | (go_simp; done) | (go_simp; with_reducible rfl)
      try simp only [Act.put, List.setIfInBounds_toArray, List.set_cons_zero, List.set_cons_succ]
      refine AnyL.take (i := 5) (v := ?vx16) (by rfl) (by kernel_rfl) (by kernel_rfl) (by kernel_rfl) rfl (by exact fun _ _ _ h => h) (by rfl) ?hyx16 (by exact ⟨HBM.out _ _ HSc2.out (by simp) (by simp), fun _ => trivial⟩) ?restx16
      case hyx16 => intro W hSW; (try dsimp only at hSW); first | (go_simp; done) | (go_simp; with_reducible rfl)
      try simp only [Act.put, List.setIfInBounds_toArray, List.set_cons_zero, List.set_cons_succ]
      refine AnyL.take (i := 6) (v := ?vx17) (by rfl) (by kernel_rfl) (by kernel_rfl) (by kernel_rfl) rfl (by exact fun _ _ _ h => h) (by rfl) ?hyx17 (by exact ⟨HBM.out _ _ HSc2.out (by simp) (by simp), fun _ => trivial⟩) ?restx17
      case hyx17 => intro W hSW; (try dsimp only at hSW); first | (go_simp; done) | (go_simp; with_reducible rfl)
      try simp only [Act.put, List.setIfInBounds_toArray, List.set_cons_zero, List.set_cons_succ]
      refine AnyL.step (i := 7) (by kernel_rfl) (by rfl) (fun KK hKK => ?_)
      refine want_yes (by rfl) ?_
      go_simp
      have HCC := Lib.hid (HGB.out _ HSc2.out.tl.tl.tl.hd)
      go_at_call 14
      with_reducible refine HCC.out.mono ?_
      rintro e wc3 ⟨rfl, hg⟩
      have HSc3 := Lib.hid (HSc2.out.grown hg)
      clear hg
      refine hKK.out _ _ (by exact HBM.out _ _ HSc3.out (by simp) (by simp)) (by exact fun _ => trivial) ?_
      clear hKK KK HCC
      try simp only [Act.put, List.setIfInBounds_toArray, List.set_cons_zero, List.set_cons_succ]
      refine AnyL.take (i := 8) (v := ?vx18) (by rfl) (by kernel_rfl) (by kernel_rfl) (by kernel_rfl) rfl (by exact fun _ _ _ h => h) (by rfl) ?hyx18 (by exact ⟨HBM.out _ _ HSc3.out (by simp) (by simp), fun _ => trivial⟩) ?restx18
      case hyx18 => intro W hSW; (try dsimp only at hSW); first | (go_simp; done) | (go_simp; with_reducible rfl)
      try simp only [Act.put, List.setIfInBounds_toArray, List.set_cons_zero, List.set_cons_succ]
      refine AnyL.take (i := 9) (v := ?vx19) (by rfl) (by kernel_rfl) (by kernel_rfl) (by kernel_rfl) rfl (by exact fun _ _ _ h => h) (by rfl) ?hyx19 (by exact ⟨HBM.out _ _ HSc3.out (by simp) (by simp), fun _ => trivial⟩) ?restx19
      case hyx19 => intro W hSW; (try dsimp only at hSW); first | (go_simp; done) | (go_simp; with_reducible rfl)
      try simp only [Act.put, List.setIfInBounds_toArray, List.set_cons_zero, List.set_cons_succ]
      refine AnyL.take (i := 10) (v := ?vx20) (by rfl) (by kernel_rfl) (by kernel_rfl) (by kernel_rfl) rfl (by exact fun _ _ _ h => h) (by rfl) ?hyx20 (by exact ⟨HBM.out _ _ HSc3.out (by simp) (by simp), fun _ => trivial⟩) ?restx20
      case hyx20 => intro W hSW; (try dsimp only at hSW); first | (go_simp; done) | (go_simp; with_reducible rfl)
      try simp only [Act.put, List.setIfInBounds_toArray, List.set_cons_zero, List.set_cons_succ]
      refine AnyL.skip (i := 11) (by rfl) (by kernel_rfl) (by kernel_rfl) (by kernel_rfl) rfl (by exact fun _ _ _ h => h) (by rfl) (by exact ⟨HBM.out _ _ HSc3.out (by simp) (by simp), fun _ => trivial⟩) ?_
      try simp only [Act.put, List.setIfInBounds_toArray, List.set_cons_zero, List.set_cons_succ]
      refine AnyL.skip (i := 12) (by rfl) (by kernel_rfl) (by kernel_rfl) (by kernel_rfl) rfl (by exact fun _ _ _ h => h) (by rfl) (by exact ⟨HBM.out _ _ HSc3.out (by simp) (by simp), fun _ => trivial⟩) ?_
      try simp only [Act.put, List.setIfInBounds_toArray, List.set_cons_zero, List.set_cons_succ]
      refine AnyL.skip (i := 13) (by rfl) (by kernel_rfl) (by kernel_rfl) (by kernel_rfl) rfl (by exact fun _ _ _ h => h) (by rfl) (by exact ⟨HBM.out _ _ HSc3.out (by simp) (by simp), fun _ => trivial⟩) ?_
      try simp only [Act.put, List.setIfInBounds_toArray, List.set_cons_zero, List.set_cons_succ]
      refine AnyL.step (i := 14) (by kernel_rfl) (by rfl) (fun KK hKK => ?_)
      refine want_no (fun h => by cases (show false = true from h)) ?_
      refine hKK.out _ _ (by exact HBM.out _ _ HSc3.out (by simp) (by simp)) (by exact fun _ => trivial) ?_
      clear hKK KK
      try simp only [Act.put, List.setIfInBounds_toArray, List.set_cons_zero, List.set_cons_succ]
      refine AnyL.skip (i := 15) (by rfl) (by kernel_rfl) (by kernel_rfl) (by kernel_rfl) rfl (by exact fun _ _ _ h => h) (by rfl) (by exact ⟨HBM.out _ _ HSc3.out (by simp) (by simp), fun _ => trivial⟩) ?_
      try simp only [Act.put, List.setIfInBounds_toArray, List.set_cons_zero, List.set_cons_succ]
      refine AnyL.take (i := 16) (v := ?vx21) (by rfl) (by kernel_rfl) (by kernel_rfl) (by kernel_rfl) rfl (by exact fun _ _ _ h => h) (by rfl) ?hyx21 (by exact ⟨HBM.out _ _ HSc3.out (by simp) (by simp), fun _ => trivial⟩) ?restx21
      case hyx21 => intro W hSW; (try dsimp only at hSW); first | (go_simp; done) | (go_simp; with_reducible rfl)
      try simp only [Act.put, List.setIfInBounds_toArray, List.set_cons_zero, List.set_cons_succ]
      refine AnyL.take (i := 17) (v := ?vx22) (by rfl) (by kernel_rfl) (by kernel_rfl) (by kernel_rfl) rfl (by exact fun _ _ _ h => h) (by rfl) ?hyx22 (by exact ⟨HBM.out _ _ HSc3.out (by simp) (by simp), fun _ => trivial⟩) ?restx22
      case hyx22 => intro W hSW; (try dsimp only at hSW); first | (go_simp; done) | (go_simp; with_reducible rfl)
      try simp only [Act.put, List.setIfInBounds_toArray, List.set_cons_zero, List.set_cons_succ]
      refine AnyL.skip (i := 18) (by rfl) (by kernel_rfl) (by kernel_rfl) (by kernel_rfl) rfl (by exact fun _ _ _ h => h) (by rfl) (by exact ⟨HBM.out _ _ HSc3.out (by simp) (by simp), fun _ => trivial⟩) ?_
      try simp only [Act.put, List.setIfInBounds_toArray, List.set_cons_zero, List.set_cons_succ]
      refine AnyL.skip (i := 20) (by rfl) (by kernel_rfl) (by kernel_rfl) (by kernel_rfl) rfl (by exact fun _ _ _ h => h) (by rfl) (by exact ⟨HBM.out _ _ HSc3.out (by simp) (by simp), fun _ => trivial⟩) ?_
      try simp only [Act.put, List.setIfInBounds_toArray, List.set_cons_zero, List.set_cons_succ]
      refine AnyL.step (i := 19) (by kernel_rfl) (by rfl) (fun KK hKK => ?_)
      refine want_no (fun h => by cases (show false = true from h)) ?_
      refine hKK.out _ _ (by exact HBM.out _ _ HSc3.out (by simp) (by simp)) (by exact fun _ => trivial) ?_
      clear hKK KK
      try simp only [Act.put, List.setIfInBounds_toArray, List.set_cons_zero, List.set_cons_succ]
      refine AnyL.step (i := 21) (by kernel_rfl) (by rfl) (fun KK hKK => ?_)
      refine want_no (fun h => by cases (show false = true from h)) ?_
      refine hKK.out _ _ (by exact HBM.out _ _ HSc3.out (by simp) (by simp)) (by exact fun _ => trivial) ?_
      clear hKK KK
      try simp only [Act.put, List.setIfInBounds_toArray, List.set_cons_zero, List.set_cons_succ]
      refine AnyL.skip (i := 22) (by rfl) (by kernel_rfl) (by kernel_rfl) (by kernel_rfl) rfl (by exact fun _ _ _ h => h) (by rfl) (by exact ⟨HBM.out _ _ HSc3.out (by simp) (by simp), fun _ => trivial⟩) ?_
      try simp only [Act.put, List.setIfInBounds_toArray, List.set_cons_zero, List.set_cons_succ]
      refine AnyL.take (i := 23) (v := ?vx23) (by rfl) (by kernel_rfl) (by kernel_rfl) (by kernel_rfl) rfl (by exact fun _ _ _ h => h) (by rfl) ?hyx23 (by exact ⟨HBM.out _ _ HSc3.out (by simp) (by simp), fun _ => trivial⟩) ?restx23
      case hyx23 => intro W hSW; (try dsimp only at hSW); first | (go_simp; done) | (go_simp; with_reducible rfl)
      try simp only [Act.put, List.setIfInBounds_toArray, List.set_cons_zero, List.set_cons_succ]
      refine AnyL.take (i := 24) (v := ?vx24) (by rfl) (by kernel_rfl) (by kernel_rfl) (by kernel_rfl) rfl (by exact fun _ _ _ h => h) (by rfl) ?hyx24 (by exact ⟨HBM.out _ _ HSc3.out (by simp) (by simp), fun _ => trivial⟩) ?restx24
      case hyx24 => intro W hSW; (try dsimp only at hSW); first | (go_simp; done) | (go_simp; with_reducible rfl)
      try simp only [Act.put, List.setIfInBounds_toArray, List.set_cons_zero, List.set_cons_succ]
      refine AnyL.skip (i := 25) (by rfl) (by kernel_rfl) (by kernel_rfl) (by kernel_rfl) rfl (by exact fun _ _ _ h => h) (by rfl) (by exact ⟨HBM.out _ _ HSc3.out (by simp) (by simp), fun _ => trivial⟩) ?_
      try simp only [Act.put, List.setIfInBounds_toArray, List.set_cons_zero, List.set_cons_succ]
      refine AnyL.skip (i := 27) (by rfl) (by kernel_rfl) (by kernel_rfl) (by kernel_rfl) rfl (by exact fun _ _ _ h => h) (by rfl) (by exact ⟨HBM.out _ _ HSc3.out (by simp) (by simp), fun _ => trivial⟩) ?_
      try simp only [Act.put, List.setIfInBounds_toArray, List.set_cons_zero, List.set_cons_succ]
      refine AnyL.step (i := 26) (by kernel_rfl) (by rfl) (fun KK hKK => ?_)
      refine want_no (fun h => by cases (show false = true from h)) ?_
      refine hKK.out _ _ (by exact HBM.out _ _ HSc3.out (by simp) (by simp)) (by exact fun _ => trivial) ?_
      clear hKK KK
      try simp only [Act.put, List.setIfInBounds_toArray, List.set_cons_zero, List.set_cons_succ]
      refine AnyL.step (i := 28) (by kernel_rfl) (by rfl) (fun KK hKK => ?_)
      refine want_no (fun h => by cases (show false = true from h)) ?_
      refine hKK.out _ _ (by exact HBM.out _ _ HSc3.out (by simp) (by simp)) (by exact fun _ => trivial) ?_
      clear hKK KK
      try simp only [Act.put, List.setIfInBounds_toArray, List.set_cons_zero, List.set_cons_succ]
      refine AnyL.skip (i := 29) (by rfl) (by kernel_rfl) (by kernel_rfl) (by kernel_rfl) rfl (by exact fun _ _ _ h => h) (by rfl) (by exact ⟨HBM.out _ _ HSc3.out (by simp) (by simp), fun _ => trivial⟩) ?_
      try simp only [Act.put, List.setIfInBounds_toArray, List.set_cons_zero, List.set_cons_succ]
      refine AnyL.take (i := 30) (v := ?vx25) (by rfl) (by kernel_rfl) (by kernel_rfl) (by kernel_rfl) rfl (by exact fun _ _ _ h => h) (by rfl) ?hyx25 (by exact ⟨HBM.out _ _ HSc3.out (by simp) (by simp), fun _ => trivial⟩) ?restx25
      case hyx25 => intro W hSW; (try dsimp only at hSW); first | (go_simp; done) | (go_simp; with_reducible rfl)
      try simp only [Act.put, List.setIfInBounds_toArray, List.set_cons_zero, List.set_cons_succ]
      refine AnyL.done (by kernel_rfl) ?_ _
      have hz0 := HSc3.out
      obtain ⟨y0_, y1_, y2_, y3_, y4_, y5_, y6_, y7_, y8_, y9_, y10_, y11_, y12_⟩ := cq13 hz0.hd
      obtain ⟨f0_, f1_, f2_, f3_, f4_, f5_, f6_, f7_, f8_, f9_, f10_, f11_, f12_⟩ := cf13 hz0.hd
      have hz := (((((((((((((hz0.q13_0 (u := .int .i64 0)).q13_1 (u := .int .i64 0)).q13_2 (u := .int .i64 0)).q13_3 (u := .slice none 0 0)).q13_4 (u := .int .i64 0)).q13_5 (u := .slice none 0 0)).q13_6 (u := .slice none 0 0)).q13_7 (u := .slice none 0 0)).q13_8 (u := .slice none 0 0)).q13_9 (u := .int .i64 0)).q13_10 (u := .slice none 0 0)).q13_11 (u := .slice none 0 0)).q13_12 (u := .slice none 0 0))
      have HZC := Lib.hid (cq13 hz.hd)
      have HKF := Lib.hid (show w.grownBy _ none from Sep.all hz (KeepA w) (by simp))
      clear hz hz0
      go_wp2_with fail
      obtain ⟨z0_, z1_, z2_, z3_, z4_, z5_, z6_, z7_, z8_, z9_, z10_, z11_, z12_⟩ := HZC.out
      refine bodyPost_ret_by (v := .tuple #[.agg #[.int .i64 0, .int .i64 0, .int .i64 0, .slice none 0 0, .int .i64 0, .slice none 0 0, .slice none 0 0, .slice none 0 0, .slice none 0 0, .int .i64 0, .slice none 0 0, .slice none 0 0, .slice none 0 0], .bool false]) ?_ rfl (GivesN.zero HKF.out)
      simp [results, go_sem, *]
    · cases h3 : fldB p && (elB p k && elB p l)
      · rw [h1] at HGA
        rw [h2] at HGB
        have HX := Lib.hid (ovT_tm h1).2
        have HY := Lib.hid (ovT_tm h2).2
        rw [h3] at HFT
        obtain rfl : b = false := by rw [← HB.out]; unfold snOk; rw [h3]; simp
        obtain rfl : R = sn0 := HR.out.symm.trans (sn_no HB.out)
        clear h1 h2 h3
        go_enter Tryz.func5, Tryz.ntmps5
        go_upto_region 1 with fail
        have HBM := Lib.hid fun (W1 : World) (L : List Asrt) (h : Sep W1 L) (h1 : BxA w.heap.size #[.slice na n nc] 37 ∈ L) (h2 : BxA (w.heap.size + 1) #[.slice nb m mc] 37 ∈ L) => show W1.cell? ⟨w.heap.size, 0, none⟩ = some (.slice na n nc) ∧ W1.cell? ⟨w.heap.size + 1, 0, none⟩ = some (.slice nb m mc) from
          ⟨bs1 (show W1.heap[w.heap.size]? = some (.cells #[.slice na n nc] 37 (0, 0)) from Sep.all h _ h1), bs1 (show W1.heap[w.heap.size + 1]? = some (.cells #[.slice nb m mc] 37 (0, 0)) from Sep.all h _ h2)⟩
        have HSD := Lib.hid HS0.out.dr
        refine AnyL.start (fun W1 => W1.cell? ⟨w.heap.size, 0, none⟩ = some (.slice na n nc) ∧ W1.cell? ⟨w.heap.size + 1, 0, none⟩ = some (.slice nb m mc)) (fun _ => True) 99 (by kernel_rfl) ?_
        generalize (World.alloc _ _).drew = w1 at *
        refine AnyL.take (i := 0) (v := ?vx26) (by rfl) (by kernel_rfl) (by kernel_rfl) (by kernel_rfl) rfl (by exact fun _ _ _ h => h) (by rfl) ?hyx26 (by exact ⟨HBM.out _ _ HSD.out (by simp) (by simp), fun _ => trivial⟩) ?restx26
        case hyx26 => intro W hSW; (try dsimp only at hSW); first | (go_simp; done) | (go_simp; with_reducible rfl)
        try simp only [Act.put, List.setIfInBounds_toArray, List.set_cons_zero, List.set_cons_succ]
        refine AnyL.take (i := 1) (v := ?vx27) (by rfl) (by kernel_rfl) (by kernel_rfl) (by kernel_rfl) rfl (by exact fun _ _ _ h => h) (by rfl) ?hyx27 (by exact ⟨HBM.out _ _ HSD.out (by simp) (by simp), fun _ => trivial⟩) ?restx27
        case hyx27 => intro W hSW; (try dsimp only at hSW); first | (go_simp; done) | (go_simp; with_reducible rfl)
        try simp only [Act.put, List.setIfInBounds_toArray, List.set_cons_zero, List.set_cons_succ]
        refine AnyL.step (i := 2) (by kernel_rfl) (by rfl) (fun KK hKK => ?_)
        refine want_yes (by rfl) ?_
        go_simp
        have HCC := Lib.hid (HGA.out _ HSD.out.tl.tl.tl.hd)
        go_at_call 14
        with_reducible refine HCC.out.mono ?_
        rintro e wc4 ⟨rfl, hg⟩
        have HSc4 := Lib.hid (HSD.out.grown hg)
        clear hg
        refine hKK.out _ _ (by exact HBM.out _ _ HSc4.out (by simp) (by simp)) (by exact fun _ => trivial) ?_
        clear hKK KK HCC
        try simp only [Act.put, List.setIfInBounds_toArray, List.set_cons_zero, List.set_cons_succ]
        refine AnyL.take (i := 3) (v := ?vx28) (by rfl) (by kernel_rfl) (by kernel_rfl) (by kernel_rfl) rfl (by exact fun _ _ _ h => h) (by rfl) ?hyx28 (by exact ⟨HBM.out _ _ HSc4.out (by simp) (by simp), fun _ => trivial⟩) ?restx28
        case hyx28 => intro W hSW; (try dsimp only at hSW); first | (go_simp; done) | (go_simp; with_reducible rfl)
        try simp only [Act.put, List.setIfInBounds_toArray, List.set_cons_zero, List.set_cons_succ]
        refine AnyL.take (i := 4) (v := ?vx29) (by rfl) (by kernel_rfl) (by kernel_rfl) (by kernel_rfl) rfl (by exact fun _ _ _ h => h) (by rfl) ?hyx29 (by exact ⟨HBM.out _ _ HSc4.out (by simp) (by simp), fun _ => trivial⟩) ?restx29
        case hyx29 => intro W hSW; (try dsimp only at hSW); first | (go_simp; done) | (go_simp; with_reducible rfl)
        try simp only [Act.put, List.setIfInBounds_toArray, List.set_cons_zero, List.set_cons_succ]
        refine AnyL.take (i := 5) (v := ?vx30) (by rfl) (by kernel_rfl) (by kernel_rfl) (by kernel_rfl) rfl (by exact fun _ _ _ h => h) (by rfl) ?hyx30 (by exact ⟨HBM.out _ _ HSc4.out (by simp) (by simp), fun _ => trivial⟩) ?restx30
        case hyx30 => intro W hSW; (try dsimp only at hSW); first | (go_simp; done) | (go_simp; with_reducible rfl)
        try simp only [Act.put, List.setIfInBounds_toArray, List.set_cons_zero, List.set_cons_succ]
        refine AnyL.take (i := 6) (v := ?vx31) (by rfl) (by kernel_rfl) (by kernel_rfl) (by kernel_rfl) rfl (by exact fun _ _ _ h => h) (by rfl) ?hyx31 (by exact ⟨HBM.out _ _ HSc4.out (by simp) (by simp), fun _ => trivial⟩) ?restx31
        case hyx31 => intro W hSW; (try dsimp only at hSW); first | (go_simp; done) | (go_simp; with_reducible rfl)
        try simp only [Act.put, List.setIfInBounds_toArray, List.set_cons_zero, List.set_cons_succ]
        refine AnyL.step (i := 7) (by kernel_rfl) (by rfl) (fun KK hKK => ?_)
        refine want_yes (by rfl) ?_
        go_simp
        have HCC := Lib.hid (HGB.out _ HSc4.out.tl.tl.tl.hd)
        go_at_call 14
        with_reducible refine HCC.out.mono ?_
        rintro e wc5 ⟨rfl, hg⟩
        have HSc5 := Lib.hid (HSc4.out.grown hg)
        clear hg
        refine hKK.out _ _ (by exact HBM.out _ _ HSc5.out (by simp) (by simp)) (by exact fun _ => trivial) ?_
        clear hKK KK HCC
        try simp only [Act.put, List.setIfInBounds_toArray, List.set_cons_zero, List.set_cons_succ]
        refine AnyL.take (i := 8) (v := ?vx32) (by rfl) (by kernel_rfl) (by kernel_rfl) (by kernel_rfl) rfl (by exact fun _ _ _ h => h) (by rfl) ?hyx32 (by exact ⟨HBM.out _ _ HSc5.out (by simp) (by simp), fun _ => trivial⟩) ?restx32
        case hyx32 => intro W hSW; (try dsimp only at hSW); first | (go_simp; done) | (go_simp; with_reducible rfl)
        try simp only [Act.put, List.setIfInBounds_toArray, List.set_cons_zero, List.set_cons_succ]
        refine AnyL.take (i := 9) (v := ?vx33) (by rfl) (by kernel_rfl) (by kernel_rfl) (by kernel_rfl) rfl (by exact fun _ _ _ h => h) (by rfl) ?hyx33 (by exact ⟨HBM.out _ _ HSc5.out (by simp) (by simp), fun _ => trivial⟩) ?restx33
        case hyx33 => intro W hSW; (try dsimp only at hSW); first | (go_simp; done) | (go_simp; with_reducible rfl)
        try simp only [Act.put, List.setIfInBounds_toArray, List.set_cons_zero, List.set_cons_succ]
        refine AnyL.take (i := 10) (v := ?vx34) (by rfl) (by kernel_rfl) (by kernel_rfl) (by kernel_rfl) rfl (by exact fun _ _ _ h => h) (by rfl) ?hyx34 (by exact ⟨HBM.out _ _ HSc5.out (by simp) (by simp), fun _ => trivial⟩) ?restx34
        case hyx34 => intro W hSW; (try dsimp only at hSW); first | (go_simp; done) | (go_simp; with_reducible rfl)
        try simp only [Act.put, List.setIfInBounds_toArray, List.set_cons_zero, List.set_cons_succ]
        refine AnyL.take (i := 11) (v := ?vx35) (by rfl) (by kernel_rfl) (by kernel_rfl) (by kernel_rfl) rfl (by exact fun _ _ _ h => h) (by rfl) ?hyx35 (by exact ⟨HBM.out _ _ HSc5.out (by simp) (by simp), fun _ => trivial⟩) ?restx35
        case hyx35 => intro W hSW; (try dsimp only at hSW); first | (go_simp; done) | (go_simp; with_reducible rfl)
        try simp only [Act.put, List.setIfInBounds_toArray, List.set_cons_zero, List.set_cons_succ]
        refine AnyL.take (i := 12) (v := ?vx36) (by rfl) (by kernel_rfl) (by kernel_rfl) (by kernel_rfl) rfl (by exact fun _ _ _ h => h) (by rfl) ?hyx36 (by exact ⟨HBM.out _ _ HSc5.out (by simp) (by simp), fun _ => trivial⟩) ?restx36
        case hyx36 => intro W hSW; (try dsimp only at hSW); first | (go_simp; done) | (go_simp; with_reducible rfl)
        try simp only [Act.put, List.setIfInBounds_toArray, List.set_cons_zero, List.set_cons_succ]
        refine AnyL.take (i := 13) (v := ?vx37) (by rfl) (by kernel_rfl) (by kernel_rfl) (by kernel_rfl) rfl (by exact fun _ _ _ h => h) (by rfl) ?hyx37 (by exact ⟨HBM.out _ _ HSc5.out (by simp) (by simp), fun _ => trivial⟩) ?restx37
        case hyx37 => intro W hSW; (try dsimp only at hSW); first | (go_simp; done) | (go_simp; with_reducible rfl)
        try simp only [Act.put, List.setIfInBounds_toArray, List.set_cons_zero, List.set_cons_succ]
        refine AnyL.step (i := 14) (by kernel_rfl) (by rfl) (fun KK hKK => ?_)
        refine want_yes (by rfl) ?_
        go_simp
        have HCC := Lib.hid (HFT.out _ HSc5.out.tl.tl.tl.hd)
        go_at_call 15
        with_reducible refine HCC.out.mono ?_
        rintro e wc6 ⟨rfl, rfl⟩
        have HSc6 := HSc5
        refine hKK.out _ _ (by exact HBM.out _ _ HSc6.out (by simp) (by simp)) (by exact fun _ => trivial) ?_
        clear hKK KK HCC
        try simp only [Act.put, List.setIfInBounds_toArray, List.set_cons_zero, List.set_cons_succ]
        refine AnyL.take (i := 15) (v := ?vx38) (by rfl) (by kernel_rfl) (by kernel_rfl) (by kernel_rfl) rfl (by exact fun _ _ _ h => h) (by rfl) ?hyx38 (by exact ⟨HBM.out _ _ HSc6.out (by simp) (by simp), fun _ => trivial⟩) ?restx38
        case hyx38 => intro W hSW; (try dsimp only at hSW); first | (go_simp; done) | (go_simp; with_reducible rfl)
        try simp only [Act.put, List.setIfInBounds_toArray, List.set_cons_zero, List.set_cons_succ]
        refine AnyL.take (i := 16) (v := ?vx39) (by rfl) (by kernel_rfl) (by kernel_rfl) (by kernel_rfl) rfl (by exact fun _ _ _ h => h) (by rfl) ?hyx39 (by exact ⟨HBM.out _ _ HSc6.out (by simp) (by simp), fun _ => trivial⟩) ?restx39
        case hyx39 => intro W hSW; (try dsimp only at hSW); first | (go_simp; done) | (go_simp; with_reducible rfl)
        try simp only [Act.put, List.setIfInBounds_toArray, List.set_cons_zero, List.set_cons_succ]
        refine AnyL.take (i := 17) (v := ?vx40) (by rfl) (by kernel_rfl) (by kernel_rfl) (by kernel_rfl) rfl (by exact fun _ _ _ h => h) (by rfl) ?hyx40 (by exact ⟨HBM.out _ _ HSc6.out (by simp) (by simp), fun _ => trivial⟩) ?restx40
        case hyx40 => intro W hSW; (try dsimp only at hSW); first | (go_simp; done) | (go_simp; with_reducible rfl)
        try simp only [Act.put, List.setIfInBounds_toArray, List.set_cons_zero, List.set_cons_succ]
        refine AnyL.skip (i := 18) (by rfl) (by kernel_rfl) (by kernel_rfl) (by kernel_rfl) rfl (by exact fun _ _ _ h => h) (by rfl) (by exact ⟨HBM.out _ _ HSc6.out (by simp) (by simp), fun _ => trivial⟩) ?_
        try simp only [Act.put, List.setIfInBounds_toArray, List.set_cons_zero, List.set_cons_succ]
        refine AnyL.skip (i := 20) (by rfl) (by kernel_rfl) (by kernel_rfl) (by kernel_rfl) rfl (by exact fun _ _ _ h => h) (by rfl) (by exact ⟨HBM.out _ _ HSc6.out (by simp) (by simp), fun _ => trivial⟩) ?_
        try simp only [Act.put, List.setIfInBounds_toArray, List.set_cons_zero, List.set_cons_succ]
        refine AnyL.step (i := 19) (by kernel_rfl) (by rfl) (fun KK hKK => ?_)
        refine want_no (fun h => by cases (show false = true from h)) ?_
        refine hKK.out _ _ (by exact HBM.out _ _ HSc6.out (by simp) (by simp)) (by exact fun _ => trivial) ?_
        clear hKK KK
        try simp only [Act.put, List.setIfInBounds_toArray, List.set_cons_zero, List.set_cons_succ]
        refine AnyL.step (i := 21) (by kernel_rfl) (by rfl) (fun KK hKK => ?_)
        refine want_no (fun h => by cases (show false = true from h)) ?_
        refine hKK.out _ _ (by exact HBM.out _ _ HSc6.out (by simp) (by simp)) (by exact fun _ => trivial) ?_
        clear hKK KK
        try simp only [Act.put, List.setIfInBounds_toArray, List.set_cons_zero, List.set_cons_succ]
        refine AnyL.skip (i := 22) (by rfl) (by kernel_rfl) (by kernel_rfl) (by kernel_rfl) rfl (by exact fun _ _ _ h => h) (by rfl) (by exact ⟨HBM.out _ _ HSc6.out (by simp) (by simp), fun _ => trivial⟩) ?_
        try simp only [Act.put, List.setIfInBounds_toArray, List.set_cons_zero, List.set_cons_succ]
        refine AnyL.take (i := 23) (v := ?vx41) (by rfl) (by kernel_rfl) (by kernel_rfl) (by kernel_rfl) rfl (by exact fun _ _ _ h => h) (by rfl) ?hyx41 (by exact ⟨HBM.out _ _ HSc6.out (by simp) (by simp), fun _ => trivial⟩) ?restx41
        case hyx41 => intro W hSW; (try dsimp only at hSW); first | (go_simp; done) | (go_simp; with_reducible rfl)
        try simp only [Act.put, List.setIfInBounds_toArray, List.set_cons_zero, List.set_cons_succ]
        refine AnyL.take (i := 24) (v := ?vx42) (by rfl) (by kernel_rfl) (by kernel_rfl) (by kernel_rfl) rfl (by exact fun _ _ _ h => h) (by rfl) ?hyx42 (by exact ⟨HBM.out _ _ HSc6.out (by simp) (by simp), fun _ => trivial⟩) ?restx42
        case hyx42 => intro W hSW; (try dsimp only at hSW); first | (go_simp; done) | (go_simp; with_reducible rfl)
        try simp only [Act.put, List.setIfInBounds_toArray, List.set_cons_zero, List.set_cons_succ]
        refine AnyL.skip (i := 25) (by rfl) (by kernel_rfl) (by kernel_rfl) (by kernel_rfl) rfl (by exact fun _ _ _ h => h) (by rfl) (by exact ⟨HBM.out _ _ HSc6.out (by simp) (by simp), fun _ => trivial⟩) ?_
        try simp only [Act.put, List.setIfInBounds_toArray, List.set_cons_zero, List.set_cons_succ]
        refine AnyL.skip (i := 27) (by rfl) (by kernel_rfl) (by kernel_rfl) (by kernel_rfl) rfl (by exact fun _ _ _ h => h) (by rfl) (by exact ⟨HBM.out _ _ HSc6.out (by simp) (by simp), fun _ => trivial⟩) ?_
        try simp only [Act.put, List.setIfInBounds_toArray, List.set_cons_zero, List.set_cons_succ]
        refine AnyL.step (i := 26) (by kernel_rfl) (by rfl) (fun KK hKK => ?_)
        refine want_no (fun h => by cases (show false = true from h)) ?_
        refine hKK.out _ _ (by exact HBM.out _ _ HSc6.out (by simp) (by simp)) (by exact fun _ => trivial) ?_
        clear hKK KK
        try simp only [Act.put, List.setIfInBounds_toArray, List.set_cons_zero, List.set_cons_succ]
        refine AnyL.step (i := 28) (by kernel_rfl) (by rfl) (fun KK hKK => ?_)
        refine want_no (fun h => by cases (show false = true from h)) ?_
        refine hKK.out _ _ (by exact HBM.out _ _ HSc6.out (by simp) (by simp)) (by exact fun _ => trivial) ?_
        clear hKK KK
        try simp only [Act.put, List.setIfInBounds_toArray, List.set_cons_zero, List.set_cons_succ]
        refine AnyL.skip (i := 29) (by rfl) (by kernel_rfl) (by kernel_rfl) (by kernel_rfl) rfl (by exact fun _ _ _ h => h) (by rfl) (by exact ⟨HBM.out _ _ HSc6.out (by simp) (by simp), fun _ => trivial⟩) ?_
        try simp only [Act.put, List.setIfInBounds_toArray, List.set_cons_zero, List.set_cons_succ]
        refine AnyL.take (i := 30) (v := ?vx43) (by rfl) (by kernel_rfl) (by kernel_rfl) (by kernel_rfl) rfl (by exact fun _ _ _ h => h) (by rfl) ?hyx43 (by exact ⟨HBM.out _ _ HSc6.out (by simp) (by simp), fun _ => trivial⟩) ?restx43
        case hyx43 => intro W hSW; (try dsimp only at hSW); first | (go_simp; done) | (go_simp; with_reducible rfl)
        try simp only [Act.put, List.setIfInBounds_toArray, List.set_cons_zero, List.set_cons_succ]
        refine AnyL.done (by kernel_rfl) ?_ _
        have hz0 := HSc6.out
        obtain ⟨y0_, y1_, y2_, y3_, y4_, y5_, y6_, y7_, y8_, y9_, y10_, y11_, y12_⟩ := cq13 hz0.hd
        obtain ⟨f0_, f1_, f2_, f3_, f4_, f5_, f6_, f7_, f8_, f9_, f10_, f11_, f12_⟩ := cf13 hz0.hd
        have hz := (((((((((((((hz0.q13_0 (u := .int .i64 0)).q13_1 (u := .int .i64 0)).q13_2 (u := .int .i64 0)).q13_3 (u := .slice none 0 0)).q13_4 (u := .int .i64 0)).q13_5 (u := .slice none 0 0)).q13_6 (u := .slice none 0 0)).q13_7 (u := .slice none 0 0)).q13_8 (u := .slice none 0 0)).q13_9 (u := .int .i64 0)).q13_10 (u := .slice none 0 0)).q13_11 (u := .slice none 0 0)).q13_12 (u := .slice none 0 0))
        have HZC := Lib.hid (cq13 hz.hd)
        have HKF := Lib.hid (show w.grownBy _ none from Sep.all hz (KeepA w) (by simp))
        clear hz hz0
        go_wp2_with fail
        obtain ⟨z0_, z1_, z2_, z3_, z4_, z5_, z6_, z7_, z8_, z9_, z10_, z11_, z12_⟩ := HZC.out
        refine bodyPost_ret_by (v := .tuple #[.agg #[.int .i64 0, .int .i64 0, .int .i64 0, .slice none 0 0, .int .i64 0, .slice none 0 0, .slice none 0 0, .slice none 0 0, .slice none 0 0, .int .i64 0, .slice none 0 0, .slice none 0 0, .slice none 0 0], .bool false]) ?_ rfl (GivesN.zero HKF.out)
        simp [results, go_sem, *]
      · cases h4 : decide ((tmT x).1 = (tmT y).1)
        · rw [h1] at HGA
          rw [h2] at HGB
          have HX := Lib.hid (ovT_tm h1).2
          have HY := Lib.hid (ovT_tm h2).2
          rw [h3] at HFT
          obtain ⟨i1, hi1⟩ : ∃ i, (tmT x).1 = i := ⟨_, rfl⟩
          obtain ⟨i2, hi2⟩ : ∃ i, (tmT y).1 = i := ⟨_, rfl⟩
          rw [hi1] at HIA h4
          rw [hi2] at HIB h4
          have hne : (i1 != i2) = true := by have := of_decide_eq_false h4; simpa using this
          obtain rfl : b = false := by rw [← HB.out]; unfold snOk; rw [hi1, hi2, h4]; simp
          obtain rfl : R = sn0 := HR.out.symm.trans (sn_no HB.out)
          clear h1 h2 h3 h4 hi1 hi2
          go_enter Tryz.func5, Tryz.ntmps5
          go_upto_region 1 with fail
          have HBM := Lib.hid fun (W1 : World) (L : List Asrt) (h : Sep W1 L) (h1 : BxA w.heap.size #[.slice na n nc] 37 ∈ L) (h2 : BxA (w.heap.size + 1) #[.slice nb m mc] 37 ∈ L) => show W1.cell? ⟨w.heap.size, 0, none⟩ = some (.slice na n nc) ∧ W1.cell? ⟨w.heap.size + 1, 0, none⟩ = some (.slice nb m mc) from
            ⟨bs1 (show W1.heap[w.heap.size]? = some (.cells #[.slice na n nc] 37 (0, 0)) from Sep.all h _ h1), bs1 (show W1.heap[w.heap.size + 1]? = some (.cells #[.slice nb m mc] 37 (0, 0)) from Sep.all h _ h2)⟩
          have HSD := Lib.hid HS0.out.dr
          refine AnyL.start (fun W1 => W1.cell? ⟨w.heap.size, 0, none⟩ = some (.slice na n nc) ∧ W1.cell? ⟨w.heap.size + 1, 0, none⟩ = some (.slice nb m mc)) (fun _ => True) 99 (by kernel_rfl) ?_
          generalize (World.alloc _ _).drew = w1 at *
          refine AnyL.take (i := 0) (v := ?vx44) (by rfl) (by kernel_rfl) (by kernel_rfl) (by kernel_rfl) rfl (by exact fun _ _ _ h => h) (by rfl) ?hyx44 (by exact ⟨HBM.out _ _ HSD.out (by simp) (by simp), fun _ => trivial⟩) ?restx44
          case hyx44 => intro W hSW; (try dsimp only at hSW); first | (go_simp; done) | (go_simp; with_reducible rfl)
          try simp only [Act.put, List.setIfInBounds_toArray, List.set_cons_zero, List.set_cons_succ]
          refine AnyL.take (i := 1) (v := ?vx45) (by rfl) (by kernel_rfl) (by kernel_rfl) (by kernel_rfl) rfl (by exact fun _ _ _ h => h) (by rfl) ?hyx45 (by exact ⟨HBM.out _ _ HSD.out (by simp) (by simp), fun _ => trivial⟩) ?restx45
          case hyx45 => intro W hSW; (try dsimp only at hSW); first | (go_simp; done) | (go_simp; with_reducible rfl)
          try simp only [Act.put, List.setIfInBounds_toArray, List.set_cons_zero, List.set_cons_succ]
          refine AnyL.step (i := 2) (by kernel_rfl) (by rfl) (fun KK hKK => ?_)
          refine want_yes (by rfl) ?_
          go_simp
          have HCC := Lib.hid (HGA.out _ HSD.out.tl.tl.tl.hd)
          go_at_call 14
          with_reducible refine HCC.out.mono ?_
          rintro e wc7 ⟨rfl, hg⟩
          have HSc7 := Lib.hid (HSD.out.grown hg)
          clear hg
          refine hKK.out _ _ (by exact HBM.out _ _ HSc7.out (by simp) (by simp)) (by exact fun _ => trivial) ?_
          clear hKK KK HCC
          try simp only [Act.put, List.setIfInBounds_toArray, List.set_cons_zero, List.set_cons_succ]
          refine AnyL.take (i := 3) (v := ?vx46) (by rfl) (by kernel_rfl) (by kernel_rfl) (by kernel_rfl) rfl (by exact fun _ _ _ h => h) (by rfl) ?hyx46 (by exact ⟨HBM.out _ _ HSc7.out (by simp) (by simp), fun _ => trivial⟩) ?restx46
          case hyx46 => intro W hSW; (try dsimp only at hSW); first | (go_simp; done) | (go_simp; with_reducible rfl)
          try simp only [Act.put, List.setIfInBounds_toArray, List.set_cons_zero, List.set_cons_succ]
          refine AnyL.take (i := 4) (v := ?vx47) (by rfl) (by kernel_rfl) (by kernel_rfl) (by kernel_rfl) rfl (by exact fun _ _ _ h => h) (by rfl) ?hyx47 (by exact ⟨HBM.out _ _ HSc7.out (by simp) (by simp), fun _ => trivial⟩) ?restx47
          case hyx47 => intro W hSW; (try dsimp only at hSW); first | (go_simp; done) | (go_simp; with_reducible rfl)
          try simp only [Act.put, List.setIfInBounds_toArray, List.set_cons_zero, List.set_cons_succ]
          refine AnyL.take (i := 5) (v := ?vx48) (by rfl) (by kernel_rfl) (by kernel_rfl) (by kernel_rfl) rfl (by exact fun _ _ _ h => h) (by rfl) ?hyx48 (by exact ⟨HBM.out _ _ HSc7.out (by simp) (by simp), fun _ => trivial⟩) ?restx48
          case hyx48 => intro W hSW; (try dsimp only at hSW); first | (go_simp; done) | (go_simp; with_reducible rfl)
          try simp only [Act.put, List.setIfInBounds_toArray, List.set_cons_zero, List.set_cons_succ]
          refine AnyL.take (i := 6) (v := ?vx49) (by rfl) (by kernel_rfl) (by kernel_rfl) (by kernel_rfl) rfl (by exact fun _ _ _ h => h) (by rfl) ?hyx49 (by exact ⟨HBM.out _ _ HSc7.out (by simp) (by simp), fun _ => trivial⟩) ?restx49
          case hyx49 => intro W hSW; (try dsimp only at hSW); first | (go_simp; done) | (go_simp; with_reducible rfl)
          try simp only [Act.put, List.setIfInBounds_toArray, List.set_cons_zero, List.set_cons_succ]
          refine AnyL.step (i := 7) (by kernel_rfl) (by rfl) (fun KK hKK => ?_)
          refine want_yes (by rfl) ?_
          go_simp
          have HCC := Lib.hid (HGB.out _ HSc7.out.tl.tl.tl.hd)
          go_at_call 14
          with_reducible refine HCC.out.mono ?_
          rintro e wc8 ⟨rfl, hg⟩
          have HSc8 := Lib.hid (HSc7.out.grown hg)
          clear hg
          refine hKK.out _ _ (by exact HBM.out _ _ HSc8.out (by simp) (by simp)) (by exact fun _ => trivial) ?_
          clear hKK KK HCC
          try simp only [Act.put, List.setIfInBounds_toArray, List.set_cons_zero, List.set_cons_succ]
          refine AnyL.take (i := 8) (v := ?vx50) (by rfl) (by kernel_rfl) (by kernel_rfl) (by kernel_rfl) rfl (by exact fun _ _ _ h => h) (by rfl) ?hyx50 (by exact ⟨HBM.out _ _ HSc8.out (by simp) (by simp), fun _ => trivial⟩) ?restx50
          case hyx50 => intro W hSW; (try dsimp only at hSW); first | (go_simp; done) | (go_simp; with_reducible rfl)
          try simp only [Act.put, List.setIfInBounds_toArray, List.set_cons_zero, List.set_cons_succ]
          refine AnyL.take (i := 9) (v := ?vx51) (by rfl) (by kernel_rfl) (by kernel_rfl) (by kernel_rfl) rfl (by exact fun _ _ _ h => h) (by rfl) ?hyx51 (by exact ⟨HBM.out _ _ HSc8.out (by simp) (by simp), fun _ => trivial⟩) ?restx51
          case hyx51 => intro W hSW; (try dsimp only at hSW); first | (go_simp; done) | (go_simp; with_reducible rfl)
          try simp only [Act.put, List.setIfInBounds_toArray, List.set_cons_zero, List.set_cons_succ]
          refine AnyL.take (i := 10) (v := ?vx52) (by rfl) (by kernel_rfl) (by kernel_rfl) (by kernel_rfl) rfl (by exact fun _ _ _ h => h) (by rfl) ?hyx52 (by exact ⟨HBM.out _ _ HSc8.out (by simp) (by simp), fun _ => trivial⟩) ?restx52
          case hyx52 => intro W hSW; (try dsimp only at hSW); first | (go_simp; done) | (go_simp; with_reducible rfl)
          try simp only [Act.put, List.setIfInBounds_toArray, List.set_cons_zero, List.set_cons_succ]
          refine AnyL.take (i := 11) (v := ?vx53) (by rfl) (by kernel_rfl) (by kernel_rfl) (by kernel_rfl) rfl (by exact fun _ _ _ h => h) (by rfl) ?hyx53 (by exact ⟨HBM.out _ _ HSc8.out (by simp) (by simp), fun _ => trivial⟩) ?restx53
          case hyx53 => intro W hSW; (try dsimp only at hSW); first | (go_simp; done) | (go_simp; with_reducible rfl)
          try simp only [Act.put, List.setIfInBounds_toArray, List.set_cons_zero, List.set_cons_succ]
          refine AnyL.take (i := 12) (v := ?vx54) (by rfl) (by kernel_rfl) (by kernel_rfl) (by kernel_rfl) rfl (by exact fun _ _ _ h => h) (by rfl) ?hyx54 (by exact ⟨HBM.out _ _ HSc8.out (by simp) (by simp), fun _ => trivial⟩) ?restx54
          case hyx54 => intro W hSW; (try dsimp only at hSW); first | (go_simp; done) | (go_simp; with_reducible rfl)
          try simp only [Act.put, List.setIfInBounds_toArray, List.set_cons_zero, List.set_cons_succ]
          refine AnyL.take (i := 13) (v := ?vx55) (by rfl) (by kernel_rfl) (by kernel_rfl) (by kernel_rfl) rfl (by exact fun _ _ _ h => h) (by rfl) ?hyx55 (by exact ⟨HBM.out _ _ HSc8.out (by simp) (by simp), fun _ => trivial⟩) ?restx55
          case hyx55 => intro W hSW; (try dsimp only at hSW); first | (go_simp; done) | (go_simp; with_reducible rfl)
          try simp only [Act.put, List.setIfInBounds_toArray, List.set_cons_zero, List.set_cons_succ]
          refine AnyL.step (i := 14) (by kernel_rfl) (by rfl) (fun KK hKK => ?_)
          refine want_yes (by rfl) ?_
          go_simp
          have HCC := Lib.hid (HFT.out _ HSc8.out.tl.tl.tl.hd)
          go_at_call 15
          with_reducible refine HCC.out.mono ?_
          rintro e wc9 ⟨rfl, rfl⟩
          have HSc9 := HSc8
          refine hKK.out _ _ (by exact HBM.out _ _ HSc9.out (by simp) (by simp)) (by exact fun _ => trivial) ?_
          clear hKK KK HCC
          try simp only [Act.put, List.setIfInBounds_toArray, List.set_cons_zero, List.set_cons_succ]
          refine AnyL.take (i := 15) (v := ?vx56) (by rfl) (by kernel_rfl) (by kernel_rfl) (by kernel_rfl) rfl (by exact fun _ _ _ h => h) (by rfl) ?hyx56 (by exact ⟨HBM.out _ _ HSc9.out (by simp) (by simp), fun _ => trivial⟩) ?restx56
          case hyx56 => intro W hSW; (try dsimp only at hSW); first | (go_simp; done) | (go_simp; with_reducible rfl)
          try simp only [Act.put, List.setIfInBounds_toArray, List.set_cons_zero, List.set_cons_succ]
          refine AnyL.take (i := 16) (v := ?vx57) (by rfl) (by kernel_rfl) (by kernel_rfl) (by kernel_rfl) rfl (by exact fun _ _ _ h => h) (by rfl) ?hyx57 (by exact ⟨HBM.out _ _ HSc9.out (by simp) (by simp), fun _ => trivial⟩) ?restx57
          case hyx57 => intro W hSW; (try dsimp only at hSW); first | (go_simp; done) | (go_simp; with_reducible rfl)
          try simp only [Act.put, List.setIfInBounds_toArray, List.set_cons_zero, List.set_cons_succ]
          refine AnyL.take (i := 17) (v := ?vx58) (by rfl) (by kernel_rfl) (by kernel_rfl) (by kernel_rfl) rfl (by exact fun _ _ _ h => h) (by rfl) ?hyx58 (by exact ⟨HBM.out _ _ HSc9.out (by simp) (by simp), fun _ => trivial⟩) ?restx58
          case hyx58 => intro W hSW; (try dsimp only at hSW); first | (go_simp; done) | (go_simp; with_reducible rfl)
          try simp only [Act.put, List.setIfInBounds_toArray, List.set_cons_zero, List.set_cons_succ]
          refine AnyL.take (i := 18) (v := ?vx59) (by rfl) (by kernel_rfl) (by kernel_rfl) (by kernel_rfl) rfl (by exact fun _ _ _ h => h) (by rfl) ?hyx59 (by exact ⟨HBM.out _ _ HSc9.out (by simp) (by simp), fun _ => trivial⟩) ?restx59
          case hyx59 => intro W hSW; (try dsimp only at hSW); first | (go_simp; done) | (go_simp; with_reducible rfl)
          try simp only [Act.put, List.setIfInBounds_toArray, List.set_cons_zero, List.set_cons_succ]
          refine AnyL.take (i := 20) (v := ?vx60) (by rfl) (by kernel_rfl) (by kernel_rfl) (by kernel_rfl) rfl (by exact fun _ _ _ h => h) (by rfl) ?hyx60 (by exact ⟨HBM.out _ _ HSc9.out (by simp) (by simp), fun _ => trivial⟩) ?restx60
          case hyx60 => intro W hSW; (try dsimp only at hSW); first | (go_simp; done) | (go_simp; with_reducible rfl)
          try simp only [Act.put, List.setIfInBounds_toArray, List.set_cons_zero, List.set_cons_succ]
          refine AnyL.step (i := 19) (by kernel_rfl) (by rfl) (fun KK hKK => ?_)
          refine want_yes (by rfl) ?_
          go_simp
          have HCC := Lib.hid (HIA.out HX.out _ HSc9.out.tl.tl.tl.hd)
          go_at_call 16
          with_reducible refine HCC.out.mono ?_
          rintro e wc10 ⟨rfl, hg⟩
          have HSc10 := Lib.hid (HSc9.out.grown hg)
          clear hg
          refine hKK.out _ _ (by exact HBM.out _ _ HSc10.out (by simp) (by simp)) (by exact fun _ => trivial) ?_
          clear hKK KK HCC
          try simp only [Act.put, List.setIfInBounds_toArray, List.set_cons_zero, List.set_cons_succ]
          refine AnyL.step (i := 21) (by kernel_rfl) (by rfl) (fun KK hKK => ?_)
          refine want_yes (by rfl) ?_
          go_simp
          have HCC := Lib.hid (HIB.out HY.out _ HSc10.out.tl.tl.tl.hd)
          go_at_call 16
          with_reducible refine HCC.out.mono ?_
          rintro e wc11 ⟨rfl, hg⟩
          have HSc11 := Lib.hid (HSc10.out.grown hg)
          clear hg
          refine hKK.out _ _ (by exact HBM.out _ _ HSc11.out (by simp) (by simp)) (by exact fun _ => trivial) ?_
          clear hKK KK HCC
          try simp only [Act.put, List.setIfInBounds_toArray, List.set_cons_zero, List.set_cons_succ]
          refine AnyL.take (i := 22) (v := ?vx61) (by rfl) (by kernel_rfl) (by kernel_rfl) (by kernel_rfl) rfl (by exact fun _ _ _ h => h) (by rfl) ?hyx61 (by exact ⟨HBM.out _ _ HSc11.out (by simp) (by simp), fun _ => trivial⟩) ?restx61
          case hyx61 => intro W hSW; (try dsimp only at hSW); first | (go_simp; done) | (go_simp; with_reducible rfl)
          try simp only [Act.put, List.setIfInBounds_toArray, List.set_cons_zero, List.set_cons_succ]
          refine AnyL.take (i := 23) (v := ?vx62) (by rfl) (by kernel_rfl) (by kernel_rfl) (by kernel_rfl) rfl (by exact fun _ _ _ h => h) (by rfl) ?hyx62 (by exact ⟨HBM.out _ _ HSc11.out (by simp) (by simp), fun _ => trivial⟩) ?restx62
          case hyx62 => intro W hSW; (try dsimp only at hSW); first | (go_simp; done) | (go_simp; with_reducible rfl)
          try simp only [Act.put, List.setIfInBounds_toArray, List.set_cons_zero, List.set_cons_succ]
          refine AnyL.take (i := 24) (v := ?vx63) (by rfl) (by kernel_rfl) (by kernel_rfl) (by kernel_rfl) rfl (by exact fun _ _ _ h => h) (by rfl) ?hyx63 (by exact ⟨HBM.out _ _ HSc11.out (by simp) (by simp), fun _ => trivial⟩) ?restx63
          case hyx63 => intro W hSW; (try dsimp only at hSW); first | (go_simp; done) | (go_simp; with_reducible rfl)
          try simp only [Act.put, List.setIfInBounds_toArray, List.set_cons_zero, List.set_cons_succ]
          refine AnyL.skip (i := 25) (by rfl) (by kernel_rfl) (by kernel_rfl) (by kernel_rfl) rfl (by exact fun _ _ _ h => h) (by rfl) (by exact ⟨HBM.out _ _ HSc11.out (by simp) (by simp), fun _ => trivial⟩) ?_
          try simp only [Act.put, List.setIfInBounds_toArray, List.set_cons_zero, List.set_cons_succ]
          refine AnyL.skip (i := 27) (by rfl) (by kernel_rfl) (by kernel_rfl) (by kernel_rfl) rfl (by exact fun _ _ _ h => h) (by rfl) (by exact ⟨HBM.out _ _ HSc11.out (by simp) (by simp), fun _ => trivial⟩) ?_
          try simp only [Act.put, List.setIfInBounds_toArray, List.set_cons_zero, List.set_cons_succ]
          refine AnyL.step (i := 26) (by kernel_rfl) (by rfl) (fun KK hKK => ?_)
          refine want_no (fun h => by cases (show false = true from h)) ?_
          refine hKK.out _ _ (by exact HBM.out _ _ HSc11.out (by simp) (by simp)) (by exact fun _ => trivial) ?_
          clear hKK KK
          try simp only [Act.put, List.setIfInBounds_toArray, List.set_cons_zero, List.set_cons_succ]
          refine AnyL.step (i := 28) (by kernel_rfl) (by rfl) (fun KK hKK => ?_)
          refine want_no (fun h => by cases (show false = true from h)) ?_
          refine hKK.out _ _ (by exact HBM.out _ _ HSc11.out (by simp) (by simp)) (by exact fun _ => trivial) ?_
          clear hKK KK
          try simp only [Act.put, List.setIfInBounds_toArray, List.set_cons_zero, List.set_cons_succ]
          refine AnyL.skip (i := 29) (by rfl) (by kernel_rfl) (by kernel_rfl) (by kernel_rfl) rfl (by exact fun _ _ _ h => h) (by rfl) (by exact ⟨HBM.out _ _ HSc11.out (by simp) (by simp), fun _ => trivial⟩) ?_
          try simp only [Act.put, List.setIfInBounds_toArray, List.set_cons_zero, List.set_cons_succ]
          refine AnyL.take (i := 30) (v := ?vx64) (by rfl) (by kernel_rfl) (by kernel_rfl) (by kernel_rfl) rfl (by exact fun _ _ _ h => h) (by rfl) ?hyx64 (by exact ⟨HBM.out _ _ HSc11.out (by simp) (by simp), fun _ => trivial⟩) ?restx64
          case hyx64 => intro W hSW; (try dsimp only at hSW); first | (go_simp; done) | (go_simp; with_reducible rfl)
          try simp only [Act.put, List.setIfInBounds_toArray, List.set_cons_zero, List.set_cons_succ]
          refine AnyL.done (by kernel_rfl) ?_ _
          have hz0 := HSc11.out
          obtain ⟨y0_, y1_, y2_, y3_, y4_, y5_, y6_, y7_, y8_, y9_, y10_, y11_, y12_⟩ := cq13 hz0.hd
          obtain ⟨f0_, f1_, f2_, f3_, f4_, f5_, f6_, f7_, f8_, f9_, f10_, f11_, f12_⟩ := cf13 hz0.hd
          have hz := (((((((((((((hz0.q13_0 (u := .int .i64 0)).q13_1 (u := .int .i64 0)).q13_2 (u := .int .i64 0)).q13_3 (u := .slice none 0 0)).q13_4 (u := .int .i64 0)).q13_5 (u := .slice none 0 0)).q13_6 (u := .slice none 0 0)).q13_7 (u := .slice none 0 0)).q13_8 (u := .slice none 0 0)).q13_9 (u := .int .i64 0)).q13_10 (u := .slice none 0 0)).q13_11 (u := .slice none 0 0)).q13_12 (u := .slice none 0 0))
          have HZC := Lib.hid (cq13 hz.hd)
          have HKF := Lib.hid (show w.grownBy _ none from Sep.all hz (KeepA w) (by simp))
          clear hz hz0
          go_wp2_with fail
          obtain ⟨z0_, z1_, z2_, z3_, z4_, z5_, z6_, z7_, z8_, z9_, z10_, z11_, z12_⟩ := HZC.out
          refine bodyPost_ret_by (v := .tuple #[.agg #[.int .i64 0, .int .i64 0, .int .i64 0, .slice none 0 0, .int .i64 0, .slice none 0 0, .slice none 0 0, .slice none 0 0, .slice none 0 0, .int .i64 0, .slice none 0 0, .slice none 0 0, .slice none 0 0], .bool false]) ?_ rfl (GivesN.zero HKF.out)
          simp [results, go_sem, *]
        · cases h5 : decide ((tmT x).2 = (tmT y).2)
          · rw [h1] at HGA
            rw [h2] at HGB
            have HX := Lib.hid (ovT_tm h1).2
            have HY := Lib.hid (ovT_tm h2).2
            rw [h3] at HFT
            obtain ⟨i1, hi1⟩ : ∃ i, (tmT x).1 = i := ⟨_, rfl⟩
            obtain ⟨i2, hi2⟩ : ∃ i, (tmT y).1 = i := ⟨_, rfl⟩
            rw [hi1] at HIA h4
            rw [hi2] at HIB h4
            have hie := of_decide_eq_true h4
            rw [← hi1, ← hi2] at h4
            subst hie
            have hne : (i1 != i1) = false := by simp
            obtain ⟨j1, hj1⟩ : ∃ i, (tmT x).2 = i := ⟨_, rfl⟩
            obtain ⟨j2, hj2⟩ : ∃ i, (tmT y).2 = i := ⟨_, rfl⟩
            rw [hj1] at HOA h5
            rw [hj2] at HOB h5
            have hne2 : (j1 != j2) = true := by have := of_decide_eq_false h5; simpa using this
            obtain rfl : b = false := by rw [← HB.out]; unfold snOk; rw [hj1, hj2, h5]; simp
            obtain rfl : R = sn0 := HR.out.symm.trans (sn_no HB.out)
            clear h1 h2 h3 h4 h5 hi1 hi2 hj1 hj2
            go_enter Tryz.func5, Tryz.ntmps5
            go_upto_region 1 with fail
            have HBM := Lib.hid fun (W1 : World) (L : List Asrt) (h : Sep W1 L) (h1 : BxA w.heap.size #[.slice na n nc] 37 ∈ L) (h2 : BxA (w.heap.size + 1) #[.slice nb m mc] 37 ∈ L) => show W1.cell? ⟨w.heap.size, 0, none⟩ = some (.slice na n nc) ∧ W1.cell? ⟨w.heap.size + 1, 0, none⟩ = some (.slice nb m mc) from
              ⟨bs1 (show W1.heap[w.heap.size]? = some (.cells #[.slice na n nc] 37 (0, 0)) from Sep.all h _ h1), bs1 (show W1.heap[w.heap.size + 1]? = some (.cells #[.slice nb m mc] 37 (0, 0)) from Sep.all h _ h2)⟩
            have HSD := Lib.hid HS0.out.dr
            refine AnyL.start (fun W1 => W1.cell? ⟨w.heap.size, 0, none⟩ = some (.slice na n nc) ∧ W1.cell? ⟨w.heap.size + 1, 0, none⟩ = some (.slice nb m mc)) (fun _ => True) 99 (by kernel_rfl) ?_
            generalize (World.alloc _ _).drew = w1 at *
            refine AnyL.take (i := 0) (v := ?vx65) (by rfl) (by kernel_rfl) (by kernel_rfl) (by kernel_rfl) rfl (by exact fun _ _ _ h => h) (by rfl) ?hyx65 (by exact ⟨HBM.out _ _ HSD.out (by simp) (by simp), fun _ => trivial⟩) ?restx65
            case hyx65 => intro W hSW; (try dsimp only at hSW); first | (go_simp; done) | (go_simp; with_reducible rfl)
            try simp only [Act.put, List.setIfInBounds_toArray, List.set_cons_zero, List.set_cons_succ]
            refine AnyL.take (i := 1) (v := ?vx66) (by rfl) (by kernel_rfl) (by kernel_rfl) (by kernel_rfl) rfl (by exact fun _ _ _ h => h) (by rfl) ?hyx66 (by exact ⟨HBM.out _ _ HSD.out (by simp) (by simp), fun _ => trivial⟩) ?restx66
            case hyx66 => intro W hSW; (try dsimp only at hSW); first | (go_simp; done) | (go_simp; with_reducible rfl)
            try simp only [Act.put, List.setIfInBounds_toArray, List.set_cons_zero, List.set_cons_succ]
            refine AnyL.step (i := 2) (by kernel_rfl) (by rfl) (fun KK hKK => ?_)
            refine want_yes (by rfl) ?_
            go_simp
            have HCC := Lib.hid (HGA.out _ HSD.out.tl.tl.tl.hd)
            go_at_call 14
            with_reducible refine HCC.out.mono ?_
            rintro e wc12 ⟨rfl, hg⟩
            have HSc12 := Lib.hid (HSD.out.grown hg)
            clear hg
            refine hKK.out _ _ (by exact HBM.out _ _ HSc12.out (by simp) (by simp)) (by exact fun _ => trivial) ?_
            clear hKK KK HCC
            try simp only [Act.put, List.setIfInBounds_toArray, List.set_cons_zero, List.set_cons_succ]
            refine AnyL.take (i := 3) (v := ?vx67) (by rfl) (by kernel_rfl) (by kernel_rfl) (by kernel_rfl) rfl (by exact fun _ _ _ h => h) (by rfl) ?hyx67 (by exact ⟨HBM.out _ _ HSc12.out (by simp) (by simp), fun _ => trivial⟩) ?restx67
            case hyx67 => intro W hSW; (try dsimp only at hSW); first | (go_simp; done) | (go_simp; with_reducible rfl)
            try simp only [Act.put, List.setIfInBounds_toArray, List.set_cons_zero, List.set_cons_succ]
            refine AnyL.take (i := 4) (v := ?vx68) (by rfl) (by kernel_rfl) (by kernel_rfl) (by kernel_rfl) rfl (by exact fun _ _ _ h => h) (by rfl) ?hyx68 (by exact ⟨HBM.out _ _ HSc12.out (by simp) (by simp), fun _ => trivial⟩) ?restx68
            case hyx68 => intro W hSW; (try dsimp only at hSW); first | (go_simp; done) | (go_simp; with_reducible rfl)
            try simp only [Act.put, List.setIfInBounds_toArray, List.set_cons_zero, List.set_cons_succ]
            refine AnyL.take (i := 5) (v := ?vx69) (by rfl) (by kernel_rfl) (by kernel_rfl) (by kernel_rfl) rfl (by exact fun _ _ _ h => h) (by rfl) ?hyx69 (by exact ⟨HBM.out _ _ HSc12.out (by simp) (by simp), fun _ => trivial⟩) ?restx69
            case hyx69 => intro W hSW; (try dsimp only at hSW); first | (go_simp; done) | (go_simp; with_reducible rfl)
            try simp only [Act.put, List.setIfInBounds_toArray, List.set_cons_zero, List.set_cons_succ]
            refine AnyL.take (i := 6) (v := ?vx70) (by rfl) (by kernel_rfl) (by kernel_rfl) (by kernel_rfl) rfl (by exact fun _ _ _ h => h) (by rfl) ?hyx70 (by exact ⟨HBM.out _ _ HSc12.out (by simp) (by simp), fun _ => trivial⟩) ?restx70
            case hyx70 => intro W hSW; (try dsimp only at hSW); first | (go_simp; done) | (go_simp; with_reducible rfl)
            try simp only [Act.put, List.setIfInBounds_toArray, List.set_cons_zero, List.set_cons_succ]
            refine AnyL.step (i := 7) (by kernel_rfl) (by rfl) (fun KK hKK => ?_)
            refine want_yes (by rfl) ?_
            go_simp
            have HCC := Lib.hid (HGB.out _ HSc12.out.tl.tl.tl.hd)
            go_at_call 14
            with_reducible refine HCC.out.mono ?_
            rintro e wc13 ⟨rfl, hg⟩
            have HSc13 := Lib.hid (HSc12.out.grown hg)
            clear hg
            refine hKK.out _ _ (by exact HBM.out _ _ HSc13.out (by simp) (by simp)) (by exact fun _ => trivial) ?_
            clear hKK KK HCC
            try simp only [Act.put, List.setIfInBounds_toArray, List.set_cons_zero, List.set_cons_succ]
            refine AnyL.take (i := 8) (v := ?vx71) (by rfl) (by kernel_rfl) (by kernel_rfl) (by kernel_rfl) rfl (by exact fun _ _ _ h => h) (by rfl) ?hyx71 (by exact ⟨HBM.out _ _ HSc13.out (by simp) (by simp), fun _ => trivial⟩) ?restx71
            case hyx71 => intro W hSW; (try dsimp only at hSW); first | (go_simp; done) | (go_simp; with_reducible rfl)
            try simp only [Act.put, List.setIfInBounds_toArray, List.set_cons_zero, List.set_cons_succ]
            refine AnyL.take (i := 9) (v := ?vx72) (by rfl) (by kernel_rfl) (by kernel_rfl) (by kernel_rfl) rfl (by exact fun _ _ _ h => h) (by rfl) ?hyx72 (by exact ⟨HBM.out _ _ HSc13.out (by simp) (by simp), fun _ => trivial⟩) ?restx72
            case hyx72 => intro W hSW; (try dsimp only at hSW); first | (go_simp; done) | (go_simp; with_reducible rfl)
            try simp only [Act.put, List.setIfInBounds_toArray, List.set_cons_zero, List.set_cons_succ]
            refine AnyL.take (i := 10) (v := ?vx73) (by rfl) (by kernel_rfl) (by kernel_rfl) (by kernel_rfl) rfl (by exact fun _ _ _ h => h) (by rfl) ?hyx73 (by exact ⟨HBM.out _ _ HSc13.out (by simp) (by simp), fun _ => trivial⟩) ?restx73
            case hyx73 => intro W hSW; (try dsimp only at hSW); first | (go_simp; done) | (go_simp; with_reducible rfl)
            try simp only [Act.put, List.setIfInBounds_toArray, List.set_cons_zero, List.set_cons_succ]
            refine AnyL.take (i := 11) (v := ?vx74) (by rfl) (by kernel_rfl) (by kernel_rfl) (by kernel_rfl) rfl (by exact fun _ _ _ h => h) (by rfl) ?hyx74 (by exact ⟨HBM.out _ _ HSc13.out (by simp) (by simp), fun _ => trivial⟩) ?restx74
            case hyx74 => intro W hSW; (try dsimp only at hSW); first | (go_simp; done) | (go_simp; with_reducible rfl)
            try simp only [Act.put, List.setIfInBounds_toArray, List.set_cons_zero, List.set_cons_succ]
            refine AnyL.take (i := 12) (v := ?vx75) (by rfl) (by kernel_rfl) (by kernel_rfl) (by kernel_rfl) rfl (by exact fun _ _ _ h => h) (by rfl) ?hyx75 (by exact ⟨HBM.out _ _ HSc13.out (by simp) (by simp), fun _ => trivial⟩) ?restx75
            case hyx75 => intro W hSW; (try dsimp only at hSW); first | (go_simp; done) | (go_simp; with_reducible rfl)
            try simp only [Act.put, List.setIfInBounds_toArray, List.set_cons_zero, List.set_cons_succ]
            refine AnyL.take (i := 13) (v := ?vx76) (by rfl) (by kernel_rfl) (by kernel_rfl) (by kernel_rfl) rfl (by exact fun _ _ _ h => h) (by rfl) ?hyx76 (by exact ⟨HBM.out _ _ HSc13.out (by simp) (by simp), fun _ => trivial⟩) ?restx76
            case hyx76 => intro W hSW; (try dsimp only at hSW); first | (go_simp; done) | (go_simp; with_reducible rfl)
            try simp only [Act.put, List.setIfInBounds_toArray, List.set_cons_zero, List.set_cons_succ]
            refine AnyL.step (i := 14) (by kernel_rfl) (by rfl) (fun KK hKK => ?_)
            refine want_yes (by rfl) ?_
            go_simp
            have HCC := Lib.hid (HFT.out _ HSc13.out.tl.tl.tl.hd)
            go_at_call 15
            with_reducible refine HCC.out.mono ?_
            rintro e wc14 ⟨rfl, rfl⟩
            have HSc14 := HSc13
            refine hKK.out _ _ (by exact HBM.out _ _ HSc14.out (by simp) (by simp)) (by exact fun _ => trivial) ?_
            clear hKK KK HCC
            try simp only [Act.put, List.setIfInBounds_toArray, List.set_cons_zero, List.set_cons_succ]
            refine AnyL.take (i := 15) (v := ?vx77) (by rfl) (by kernel_rfl) (by kernel_rfl) (by kernel_rfl) rfl (by exact fun _ _ _ h => h) (by rfl) ?hyx77 (by exact ⟨HBM.out _ _ HSc14.out (by simp) (by simp), fun _ => trivial⟩) ?restx77
            case hyx77 => intro W hSW; (try dsimp only at hSW); first | (go_simp; done) | (go_simp; with_reducible rfl)
            try simp only [Act.put, List.setIfInBounds_toArray, List.set_cons_zero, List.set_cons_succ]
            refine AnyL.take (i := 16) (v := ?vx78) (by rfl) (by kernel_rfl) (by kernel_rfl) (by kernel_rfl) rfl (by exact fun _ _ _ h => h) (by rfl) ?hyx78 (by exact ⟨HBM.out _ _ HSc14.out (by simp) (by simp), fun _ => trivial⟩) ?restx78
            case hyx78 => intro W hSW; (try dsimp only at hSW); first | (go_simp; done) | (go_simp; with_reducible rfl)
            try simp only [Act.put, List.setIfInBounds_toArray, List.set_cons_zero, List.set_cons_succ]
            refine AnyL.take (i := 17) (v := ?vx79) (by rfl) (by kernel_rfl) (by kernel_rfl) (by kernel_rfl) rfl (by exact fun _ _ _ h => h) (by rfl) ?hyx79 (by exact ⟨HBM.out _ _ HSc14.out (by simp) (by simp), fun _ => trivial⟩) ?restx79
            case hyx79 => intro W hSW; (try dsimp only at hSW); first | (go_simp; done) | (go_simp; with_reducible rfl)
            try simp only [Act.put, List.setIfInBounds_toArray, List.set_cons_zero, List.set_cons_succ]
            refine AnyL.take (i := 18) (v := ?vx80) (by rfl) (by kernel_rfl) (by kernel_rfl) (by kernel_rfl) rfl (by exact fun _ _ _ h => h) (by rfl) ?hyx80 (by exact ⟨HBM.out _ _ HSc14.out (by simp) (by simp), fun _ => trivial⟩) ?restx80
            case hyx80 => intro W hSW; (try dsimp only at hSW); first | (go_simp; done) | (go_simp; with_reducible rfl)
            try simp only [Act.put, List.setIfInBounds_toArray, List.set_cons_zero, List.set_cons_succ]
            refine AnyL.take (i := 20) (v := ?vx81) (by rfl) (by kernel_rfl) (by kernel_rfl) (by kernel_rfl) rfl (by exact fun _ _ _ h => h) (by rfl) ?hyx81 (by exact ⟨HBM.out _ _ HSc14.out (by simp) (by simp), fun _ => trivial⟩) ?restx81
            case hyx81 => intro W hSW; (try dsimp only at hSW); first | (go_simp; done) | (go_simp; with_reducible rfl)
            try simp only [Act.put, List.setIfInBounds_toArray, List.set_cons_zero, List.set_cons_succ]
            refine AnyL.step (i := 19) (by kernel_rfl) (by rfl) (fun KK hKK => ?_)
            refine want_yes (by rfl) ?_
            go_simp
            have HCC := Lib.hid (HIA.out HX.out _ HSc14.out.tl.tl.tl.hd)
            go_at_call 16
            with_reducible refine HCC.out.mono ?_
            rintro e wc15 ⟨rfl, hg⟩
            have HSc15 := Lib.hid (HSc14.out.grown hg)
            clear hg
            refine hKK.out _ _ (by exact HBM.out _ _ HSc15.out (by simp) (by simp)) (by exact fun _ => trivial) ?_
            clear hKK KK HCC
            try simp only [Act.put, List.setIfInBounds_toArray, List.set_cons_zero, List.set_cons_succ]
            refine AnyL.step (i := 21) (by kernel_rfl) (by rfl) (fun KK hKK => ?_)
            refine want_yes (by rfl) ?_
            go_simp
            have HCC := Lib.hid (HIB.out HY.out _ HSc15.out.tl.tl.tl.hd)
            go_at_call 16
            with_reducible refine HCC.out.mono ?_
            rintro e wc16 ⟨rfl, hg⟩
            have HSc16 := Lib.hid (HSc15.out.grown hg)
            clear hg
            refine hKK.out _ _ (by exact HBM.out _ _ HSc16.out (by simp) (by simp)) (by exact fun _ => trivial) ?_
            clear hKK KK HCC
            try simp only [Act.put, List.setIfInBounds_toArray, List.set_cons_zero, List.set_cons_succ]
            refine AnyL.take (i := 22) (v := ?vx82) (by rfl) (by kernel_rfl) (by kernel_rfl) (by kernel_rfl) rfl (by exact fun _ _ _ h => h) (by rfl) ?hyx82 (by exact ⟨HBM.out _ _ HSc16.out (by simp) (by simp), fun _ => trivial⟩) ?restx82
            case hyx82 => intro W hSW; (try dsimp only at hSW); first | (go_simp; done) | (go_simp; with_reducible rfl)
            try simp only [Act.put, List.setIfInBounds_toArray, List.set_cons_zero, List.set_cons_succ]
            refine AnyL.take (i := 23) (v := ?vx83) (by rfl) (by kernel_rfl) (by kernel_rfl) (by kernel_rfl) rfl (by exact fun _ _ _ h => h) (by rfl) ?hyx83 (by exact ⟨HBM.out _ _ HSc16.out (by simp) (by simp), fun _ => trivial⟩) ?restx83
            case hyx83 => intro W hSW; (try dsimp only at hSW); first | (go_simp; done) | (go_simp; with_reducible rfl)
            try simp only [Act.put, List.setIfInBounds_toArray, List.set_cons_zero, List.set_cons_succ]
            refine AnyL.take (i := 24) (v := ?vx84) (by rfl) (by kernel_rfl) (by kernel_rfl) (by kernel_rfl) rfl (by exact fun _ _ _ h => h) (by rfl) ?hyx84 (by exact ⟨HBM.out _ _ HSc16.out (by simp) (by simp), fun _ => trivial⟩) ?restx84
            case hyx84 => intro W hSW; (try dsimp only at hSW); first | (go_simp; done) | (go_simp; with_reducible rfl)
            try simp only [Act.put, List.setIfInBounds_toArray, List.set_cons_zero, List.set_cons_succ]
            refine AnyL.take (i := 25) (v := ?vx85) (by rfl) (by kernel_rfl) (by kernel_rfl) (by kernel_rfl) rfl (by exact fun _ _ _ h => h) (by rfl) ?hyx85 (by exact ⟨HBM.out _ _ HSc16.out (by simp) (by simp), fun _ => trivial⟩) ?restx85
            case hyx85 => intro W hSW; (try dsimp only at hSW); first | (go_simp; done) | (go_simp; with_reducible rfl)
            try simp only [Act.put, List.setIfInBounds_toArray, List.set_cons_zero, List.set_cons_succ]
            refine AnyL.take (i := 27) (v := ?vx86) (by rfl) (by kernel_rfl) (by kernel_rfl) (by kernel_rfl) rfl (by exact fun _ _ _ h => h) (by rfl) ?hyx86 (by exact ⟨HBM.out _ _ HSc16.out (by simp) (by simp), fun _ => trivial⟩) ?restx86
            case hyx86 => intro W hSW; (try dsimp only at hSW); first | (go_simp; done) | (go_simp; with_reducible rfl)
            try simp only [Act.put, List.setIfInBounds_toArray, List.set_cons_zero, List.set_cons_succ]
            refine AnyL.step (i := 26) (by kernel_rfl) (by rfl) (fun KK hKK => ?_)
            refine want_yes (by rfl) ?_
            go_simp
            have HCC := Lib.hid (HOA.out HX.out _ HSc16.out.tl.tl.tl.hd)
            go_at_call 17
            with_reducible refine HCC.out.mono ?_
            rintro e wc17 ⟨rfl, hg⟩
            have HSc17 := Lib.hid (HSc16.out.grown hg)
            clear hg
            refine hKK.out _ _ (by exact HBM.out _ _ HSc17.out (by simp) (by simp)) (by exact fun _ => trivial) ?_
            clear hKK KK HCC
            try simp only [Act.put, List.setIfInBounds_toArray, List.set_cons_zero, List.set_cons_succ]
            refine AnyL.step (i := 28) (by kernel_rfl) (by rfl) (fun KK hKK => ?_)
            refine want_yes (by rfl) ?_
            go_simp
            have HCC := Lib.hid (HOB.out HY.out _ HSc17.out.tl.tl.tl.hd)
            go_at_call 17
            with_reducible refine HCC.out.mono ?_
            rintro e wc18 ⟨rfl, hg⟩
            have HSc18 := Lib.hid (HSc17.out.grown hg)
            clear hg
            refine hKK.out _ _ (by exact HBM.out _ _ HSc18.out (by simp) (by simp)) (by exact fun _ => trivial) ?_
            clear hKK KK HCC
            try simp only [Act.put, List.setIfInBounds_toArray, List.set_cons_zero, List.set_cons_succ]
            refine AnyL.take (i := 29) (v := ?vx87) (by rfl) (by kernel_rfl) (by kernel_rfl) (by kernel_rfl) rfl (by exact fun _ _ _ h => h) (by rfl) ?hyx87 (by exact ⟨HBM.out _ _ HSc18.out (by simp) (by simp), fun _ => trivial⟩) ?restx87
            case hyx87 => intro W hSW; (try dsimp only at hSW); first | (go_simp; done) | (go_simp; with_reducible rfl)
            try simp only [Act.put, List.setIfInBounds_toArray, List.set_cons_zero, List.set_cons_succ]
            refine AnyL.take (i := 30) (v := ?vx88) (by rfl) (by kernel_rfl) (by kernel_rfl) (by kernel_rfl) rfl (by exact fun _ _ _ h => h) (by rfl) ?hyx88 (by exact ⟨HBM.out _ _ HSc18.out (by simp) (by simp), fun _ => trivial⟩) ?restx88
            case hyx88 => intro W hSW; (try dsimp only at hSW); first | (go_simp; done) | (go_simp; with_reducible rfl)
            try simp only [Act.put, List.setIfInBounds_toArray, List.set_cons_zero, List.set_cons_succ]
            refine AnyL.done (by kernel_rfl) ?_ _
            have hz0 := HSc18.out
            obtain ⟨y0_, y1_, y2_, y3_, y4_, y5_, y6_, y7_, y8_, y9_, y10_, y11_, y12_⟩ := cq13 hz0.hd
            obtain ⟨f0_, f1_, f2_, f3_, f4_, f5_, f6_, f7_, f8_, f9_, f10_, f11_, f12_⟩ := cf13 hz0.hd
            have hz := (((((((((((((hz0.q13_0 (u := .int .i64 0)).q13_1 (u := .int .i64 0)).q13_2 (u := .int .i64 0)).q13_3 (u := .slice none 0 0)).q13_4 (u := .int .i64 0)).q13_5 (u := .slice none 0 0)).q13_6 (u := .slice none 0 0)).q13_7 (u := .slice none 0 0)).q13_8 (u := .slice none 0 0)).q13_9 (u := .int .i64 0)).q13_10 (u := .slice none 0 0)).q13_11 (u := .slice none 0 0)).q13_12 (u := .slice none 0 0))
            have HZC := Lib.hid (cq13 hz.hd)
            have HKF := Lib.hid (show w.grownBy _ none from Sep.all hz (KeepA w) (by simp))
            clear hz hz0
            go_wp2_with fail
            obtain ⟨z0_, z1_, z2_, z3_, z4_, z5_, z6_, z7_, z8_, z9_, z10_, z11_, z12_⟩ := HZC.out
            refine bodyPost_ret_by (v := .tuple #[.agg #[.int .i64 0, .int .i64 0, .int .i64 0, .slice none 0 0, .int .i64 0, .slice none 0 0, .slice none 0 0, .slice none 0 0, .slice none 0 0, .int .i64 0, .slice none 0 0, .slice none 0 0, .slice none 0 0], .bool false]) ?_ rfl (GivesN.zero HKF.out)
            simp [results, go_sem, *]
          · rw [h1] at HGA
            rw [h2] at HGB
            have HX := Lib.hid (ovT_tm h1).2
            have HY := Lib.hid (ovT_tm h2).2
            rw [h3] at HFT
            obtain ⟨i1, hi1⟩ : ∃ i, (tmT x).1 = i := ⟨_, rfl⟩
            obtain ⟨i2, hi2⟩ : ∃ i, (tmT y).1 = i := ⟨_, rfl⟩
            rw [hi1] at HIA h4
            rw [hi2] at HIB h4
            have hie := of_decide_eq_true h4
            rw [← hi1, ← hi2] at h4
            subst hie
            have hne : (i1 != i1) = false := by simp
            obtain ⟨j1, hj1⟩ : ∃ i, (tmT x).2 = i := ⟨_, rfl⟩
            obtain ⟨j2, hj2⟩ : ∃ i, (tmT y).2 = i := ⟨_, rfl⟩
            rw [hj1] at HOA h5
            rw [hj2] at HOB h5
            have hje := of_decide_eq_true h5
            rw [← hj1, ← hj2] at h5
            subst hje
            have hne2 : (j1 != j1) = false := by simp
            have HBO := Lib.hid (show b = (okT x && okT y) from by rw [← HB.out]; unfold snOk; rw [h1, h2, h3, h4, h5]; simp)
            clear h1 h2 h3 h4 h5 hi1 hi2 hj1 hj2
            go_enter Tryz.func5, Tryz.ntmps5
            go_upto_region 1 with fail
            have HBM := Lib.hid fun (W1 : World) (L : List Asrt) (h : Sep W1 L) (h1 : BxA w.heap.size #[.slice na n nc] 37 ∈ L) (h2 : BxA (w.heap.size + 1) #[.slice nb m mc] 37 ∈ L) => show W1.cell? ⟨w.heap.size, 0, none⟩ = some (.slice na n nc) ∧ W1.cell? ⟨w.heap.size + 1, 0, none⟩ = some (.slice nb m mc) from
              ⟨bs1 (show W1.heap[w.heap.size]? = some (.cells #[.slice na n nc] 37 (0, 0)) from Sep.all h _ h1), bs1 (show W1.heap[w.heap.size + 1]? = some (.cells #[.slice nb m mc] 37 (0, 0)) from Sep.all h _ h2)⟩
            have HSD := Lib.hid HS0.out.dr
            refine AnyL.start (fun W1 => W1.cell? ⟨w.heap.size, 0, none⟩ = some (.slice na n nc) ∧ W1.cell? ⟨w.heap.size + 1, 0, none⟩ = some (.slice nb m mc)) (fun _ => True) 99 (by kernel_rfl) ?_
            generalize (World.alloc _ _).drew = w1 at *
            refine AnyL.take (i := 0) (v := ?vx89) (by rfl) (by kernel_rfl) (by kernel_rfl) (by kernel_rfl) rfl (by exact fun _ _ _ h => h) (by rfl) ?hyx89 (by exact ⟨HBM.out _ _ HSD.out (by simp) (by simp), fun _ => trivial⟩) ?restx89
            case hyx89 => intro W hSW; (try dsimp only at hSW); first | (go_simp; done) | (go_simp; with_reducible rfl)
            try simp only [Act.put, List.setIfInBounds_toArray, List.set_cons_zero, List.set_cons_succ]
            refine AnyL.take (i := 1) (v := ?vx90) (by rfl) (by kernel_rfl) (by kernel_rfl) (by kernel_rfl) rfl (by exact fun _ _ _ h => h) (by rfl) ?hyx90 (by exact ⟨HBM.out _ _ HSD.out (by simp) (by simp), fun _ => trivial⟩) ?restx90
            case hyx90 => intro W hSW; (try dsimp only at hSW); first | (go_simp; done) | (go_simp; with_reducible rfl)
            try simp only [Act.put, List.setIfInBounds_toArray, List.set_cons_zero, List.set_cons_succ]
            refine AnyL.step (i := 2) (by kernel_rfl) (by rfl) (fun KK hKK => ?_)
            refine want_yes (by rfl) ?_
            go_simp
            have HCC := Lib.hid (HGA.out _ HSD.out.tl.tl.tl.hd)
            go_at_call 14
            with_reducible refine HCC.out.mono ?_
            rintro e wc19 ⟨rfl, hg⟩
            have HSc19 := Lib.hid (HSD.out.grown hg)
            clear hg
            refine hKK.out _ _ (by exact HBM.out _ _ HSc19.out (by simp) (by simp)) (by exact fun _ => trivial) ?_
            clear hKK KK HCC
            try simp only [Act.put, List.setIfInBounds_toArray, List.set_cons_zero, List.set_cons_succ]
            refine AnyL.take (i := 3) (v := ?vx91) (by rfl) (by kernel_rfl) (by kernel_rfl) (by kernel_rfl) rfl (by exact fun _ _ _ h => h) (by rfl) ?hyx91 (by exact ⟨HBM.out _ _ HSc19.out (by simp) (by simp), fun _ => trivial⟩) ?restx91
            case hyx91 => intro W hSW; (try dsimp only at hSW); first | (go_simp; done) | (go_simp; with_reducible rfl)
            try simp only [Act.put, List.setIfInBounds_toArray, List.set_cons_zero, List.set_cons_succ]
            refine AnyL.take (i := 4) (v := ?vx92) (by rfl) (by kernel_rfl) (by kernel_rfl) (by kernel_rfl) rfl (by exact fun _ _ _ h => h) (by rfl) ?hyx92 (by exact ⟨HBM.out _ _ HSc19.out (by simp) (by simp), fun _ => trivial⟩) ?restx92
            case hyx92 => intro W hSW; (try dsimp only at hSW); first | (go_simp; done) | (go_simp; with_reducible rfl)
            try simp only [Act.put, List.setIfInBounds_toArray, List.set_cons_zero, List.set_cons_succ]
            refine AnyL.take (i := 5) (v := ?vx93) (by rfl) (by kernel_rfl) (by kernel_rfl) (by kernel_rfl) rfl (by exact fun _ _ _ h => h) (by rfl) ?hyx93 (by exact ⟨HBM.out _ _ HSc19.out (by simp) (by simp), fun _ => trivial⟩) ?restx93
            case hyx93 => intro W hSW; (try dsimp only at hSW); first | (go_simp; done) | (go_simp; with_reducible rfl)
            try simp only [Act.put, List.setIfInBounds_toArray, List.set_cons_zero, List.set_cons_succ]
            refine AnyL.take (i := 6) (v := ?vx94) (by rfl) (by kernel_rfl) (by kernel_rfl) (by kernel_rfl) rfl (by exact fun _ _ _ h => h) (by rfl) ?hyx94 (by exact ⟨HBM.out _ _ HSc19.out (by simp) (by simp), fun _ => trivial⟩) ?restx94
            case hyx94 => intro W hSW; (try dsimp only at hSW); first | (go_simp; done) | (go_simp; with_reducible rfl)
            try simp only [Act.put, List.setIfInBounds_toArray, List.set_cons_zero, List.set_cons_succ]
            refine AnyL.step (i := 7) (by kernel_rfl) (by rfl) (fun KK hKK => ?_)
            refine want_yes (by rfl) ?_
            go_simp
            have HCC := Lib.hid (HGB.out _ HSc19.out.tl.tl.tl.hd)
            go_at_call 14
            with_reducible refine HCC.out.mono ?_
            rintro e wc20 ⟨rfl, hg⟩
            have HSc20 := Lib.hid (HSc19.out.grown hg)
            clear hg
            refine hKK.out _ _ (by exact HBM.out _ _ HSc20.out (by simp) (by simp)) (by exact fun _ => trivial) ?_
            clear hKK KK HCC
            try simp only [Act.put, List.setIfInBounds_toArray, List.set_cons_zero, List.set_cons_succ]
            refine AnyL.take (i := 8) (v := ?vx95) (by rfl) (by kernel_rfl) (by kernel_rfl) (by kernel_rfl) rfl (by exact fun _ _ _ h => h) (by rfl) ?hyx95 (by exact ⟨HBM.out _ _ HSc20.out (by simp) (by simp), fun _ => trivial⟩) ?restx95
            case hyx95 => intro W hSW; (try dsimp only at hSW); first | (go_simp; done) | (go_simp; with_reducible rfl)
            try simp only [Act.put, List.setIfInBounds_toArray, List.set_cons_zero, List.set_cons_succ]
            refine AnyL.take (i := 9) (v := ?vx96) (by rfl) (by kernel_rfl) (by kernel_rfl) (by kernel_rfl) rfl (by exact fun _ _ _ h => h) (by rfl) ?hyx96 (by exact ⟨HBM.out _ _ HSc20.out (by simp) (by simp), fun _ => trivial⟩) ?restx96
            case hyx96 => intro W hSW; (try dsimp only at hSW); first | (go_simp; done) | (go_simp; with_reducible rfl)
            try simp only [Act.put, List.setIfInBounds_toArray, List.set_cons_zero, List.set_cons_succ]
            refine AnyL.take (i := 10) (v := ?vx97) (by rfl) (by kernel_rfl) (by kernel_rfl) (by kernel_rfl) rfl (by exact fun _ _ _ h => h) (by rfl) ?hyx97 (by exact ⟨HBM.out _ _ HSc20.out (by simp) (by simp), fun _ => trivial⟩) ?restx97
            case hyx97 => intro W hSW; (try dsimp only at hSW); first | (go_simp; done) | (go_simp; with_reducible rfl)
            try simp only [Act.put, List.setIfInBounds_toArray, List.set_cons_zero, List.set_cons_succ]
            refine AnyL.take (i := 11) (v := ?vx98) (by rfl) (by kernel_rfl) (by kernel_rfl) (by kernel_rfl) rfl (by exact fun _ _ _ h => h) (by rfl) ?hyx98 (by exact ⟨HBM.out _ _ HSc20.out (by simp) (by simp), fun _ => trivial⟩) ?restx98
            case hyx98 => intro W hSW; (try dsimp only at hSW); first | (go_simp; done) | (go_simp; with_reducible rfl)
            try simp only [Act.put, List.setIfInBounds_toArray, List.set_cons_zero, List.set_cons_succ]
            refine AnyL.take (i := 12) (v := ?vx99) (by rfl) (by kernel_rfl) (by kernel_rfl) (by kernel_rfl) rfl (by exact fun _ _ _ h => h) (by rfl) ?hyx99 (by exact ⟨HBM.out _ _ HSc20.out (by simp) (by simp), fun _ => trivial⟩) ?restx99
            case hyx99 => intro W hSW; (try dsimp only at hSW); first | (go_simp; done) | (go_simp; with_reducible rfl)
            try simp only [Act.put, List.setIfInBounds_toArray, List.set_cons_zero, List.set_cons_succ]
            refine AnyL.take (i := 13) (v := ?vx100) (by rfl) (by kernel_rfl) (by kernel_rfl) (by kernel_rfl) rfl (by exact fun _ _ _ h => h) (by rfl) ?hyx100 (by exact ⟨HBM.out _ _ HSc20.out (by simp) (by simp), fun _ => trivial⟩) ?restx100
            case hyx100 => intro W hSW; (try dsimp only at hSW); first | (go_simp; done) | (go_simp; with_reducible rfl)
            try simp only [Act.put, List.setIfInBounds_toArray, List.set_cons_zero, List.set_cons_succ]
            refine AnyL.step (i := 14) (by kernel_rfl) (by rfl) (fun KK hKK => ?_)
            refine want_yes (by rfl) ?_
            go_simp
            have HCC := Lib.hid (HFT.out _ HSc20.out.tl.tl.tl.hd)
            go_at_call 15
            with_reducible refine HCC.out.mono ?_
            rintro e wc21 ⟨rfl, rfl⟩
            have HSc21 := HSc20
            refine hKK.out _ _ (by exact HBM.out _ _ HSc21.out (by simp) (by simp)) (by exact fun _ => trivial) ?_
            clear hKK KK HCC
            try simp only [Act.put, List.setIfInBounds_toArray, List.set_cons_zero, List.set_cons_succ]
            refine AnyL.take (i := 15) (v := ?vx101) (by rfl) (by kernel_rfl) (by kernel_rfl) (by kernel_rfl) rfl (by exact fun _ _ _ h => h) (by rfl) ?hyx101 (by exact ⟨HBM.out _ _ HSc21.out (by simp) (by simp), fun _ => trivial⟩) ?restx101
            case hyx101 => intro W hSW; (try dsimp only at hSW); first | (go_simp; done) | (go_simp; with_reducible rfl)
            try simp only [Act.put, List.setIfInBounds_toArray, List.set_cons_zero, List.set_cons_succ]
            refine AnyL.take (i := 16) (v := ?vx102) (by rfl) (by kernel_rfl) (by kernel_rfl) (by kernel_rfl) rfl (by exact fun _ _ _ h => h) (by rfl) ?hyx102 (by exact ⟨HBM.out _ _ HSc21.out (by simp) (by simp), fun _ => trivial⟩) ?restx102
            case hyx102 => intro W hSW; (try dsimp only at hSW); first | (go_simp; done) | (go_simp; with_reducible rfl)
            try simp only [Act.put, List.setIfInBounds_toArray, List.set_cons_zero, List.set_cons_succ]
            refine AnyL.take (i := 17) (v := ?vx103) (by rfl) (by kernel_rfl) (by kernel_rfl) (by kernel_rfl) rfl (by exact fun _ _ _ h => h) (by rfl) ?hyx103 (by exact ⟨HBM.out _ _ HSc21.out (by simp) (by simp), fun _ => trivial⟩) ?restx103
            case hyx103 => intro W hSW; (try dsimp only at hSW); first | (go_simp; done) | (go_simp; with_reducible rfl)
            try simp only [Act.put, List.setIfInBounds_toArray, List.set_cons_zero, List.set_cons_succ]
            refine AnyL.take (i := 18) (v := ?vx104) (by rfl) (by kernel_rfl) (by kernel_rfl) (by kernel_rfl) rfl (by exact fun _ _ _ h => h) (by rfl) ?hyx104 (by exact ⟨HBM.out _ _ HSc21.out (by simp) (by simp), fun _ => trivial⟩) ?restx104
            case hyx104 => intro W hSW; (try dsimp only at hSW); first | (go_simp; done) | (go_simp; with_reducible rfl)
            try simp only [Act.put, List.setIfInBounds_toArray, List.set_cons_zero, List.set_cons_succ]
            refine AnyL.take (i := 20) (v := ?vx105) (by rfl) (by kernel_rfl) (by kernel_rfl) (by kernel_rfl) rfl (by exact fun _ _ _ h => h) (by rfl) ?hyx105 (by exact ⟨HBM.out _ _ HSc21.out (by simp) (by simp), fun _ => trivial⟩) ?restx105
            case hyx105 => intro W hSW; (try dsimp only at hSW); first | (go_simp; done) | (go_simp; with_reducible rfl)
            try simp only [Act.put, List.setIfInBounds_toArray, List.set_cons_zero, List.set_cons_succ]
            refine AnyL.step (i := 19) (by kernel_rfl) (by rfl) (fun KK hKK => ?_)
            refine want_yes (by rfl) ?_
            go_simp
            have HCC := Lib.hid (HIA.out HX.out _ HSc21.out.tl.tl.tl.hd)
            go_at_call 16
            with_reducible refine HCC.out.mono ?_
            rintro e wc22 ⟨rfl, hg⟩
            have HSc22 := Lib.hid (HSc21.out.grown hg)
            clear hg
            refine hKK.out _ _ (by exact HBM.out _ _ HSc22.out (by simp) (by simp)) (by exact fun _ => trivial) ?_
            clear hKK KK HCC
            try simp only [Act.put, List.setIfInBounds_toArray, List.set_cons_zero, List.set_cons_succ]
            refine AnyL.step (i := 21) (by kernel_rfl) (by rfl) (fun KK hKK => ?_)
            refine want_yes (by rfl) ?_
            go_simp
            have HCC := Lib.hid (HIB.out HY.out _ HSc22.out.tl.tl.tl.hd)
            go_at_call 16
            with_reducible refine HCC.out.mono ?_
            rintro e wc23 ⟨rfl, hg⟩
            have HSc23 := Lib.hid (HSc22.out.grown hg)
            clear hg
            refine hKK.out _ _ (by exact HBM.out _ _ HSc23.out (by simp) (by simp)) (by exact fun _ => trivial) ?_
            clear hKK KK HCC
            try simp only [Act.put, List.setIfInBounds_toArray, List.set_cons_zero, List.set_cons_succ]
            refine AnyL.take (i := 22) (v := ?vx106) (by rfl) (by kernel_rfl) (by kernel_rfl) (by kernel_rfl) rfl (by exact fun _ _ _ h => h) (by rfl) ?hyx106 (by exact ⟨HBM.out _ _ HSc23.out (by simp) (by simp), fun _ => trivial⟩) ?restx106
            case hyx106 => intro W hSW; (try dsimp only at hSW); first | (go_simp; done) | (go_simp; with_reducible rfl)
            try simp only [Act.put, List.setIfInBounds_toArray, List.set_cons_zero, List.set_cons_succ]
            refine AnyL.take (i := 23) (v := ?vx107) (by rfl) (by kernel_rfl) (by kernel_rfl) (by kernel_rfl) rfl (by exact fun _ _ _ h => h) (by rfl) ?hyx107 (by exact ⟨HBM.out _ _ HSc23.out (by simp) (by simp), fun _ => trivial⟩) ?restx107
            case hyx107 => intro W hSW; (try dsimp only at hSW); first | (go_simp; done) | (go_simp; with_reducible rfl)
            try simp only [Act.put, List.setIfInBounds_toArray, List.set_cons_zero, List.set_cons_succ]
            refine AnyL.take (i := 24) (v := ?vx108) (by rfl) (by kernel_rfl) (by kernel_rfl) (by kernel_rfl) rfl (by exact fun _ _ _ h => h) (by rfl) ?hyx108 (by exact ⟨HBM.out _ _ HSc23.out (by simp) (by simp), fun _ => trivial⟩) ?restx108
            case hyx108 => intro W hSW; (try dsimp only at hSW); first | (go_simp; done) | (go_simp; with_reducible rfl)
            try simp only [Act.put, List.setIfInBounds_toArray, List.set_cons_zero, List.set_cons_succ]
            refine AnyL.take (i := 25) (v := ?vx109) (by rfl) (by kernel_rfl) (by kernel_rfl) (by kernel_rfl) rfl (by exact fun _ _ _ h => h) (by rfl) ?hyx109 (by exact ⟨HBM.out _ _ HSc23.out (by simp) (by simp), fun _ => trivial⟩) ?restx109
            case hyx109 => intro W hSW; (try dsimp only at hSW); first | (go_simp; done) | (go_simp; with_reducible rfl)
            try simp only [Act.put, List.setIfInBounds_toArray, List.set_cons_zero, List.set_cons_succ]
            refine AnyL.take (i := 27) (v := ?vx110) (by rfl) (by kernel_rfl) (by kernel_rfl) (by kernel_rfl) rfl (by exact fun _ _ _ h => h) (by rfl) ?hyx110 (by exact ⟨HBM.out _ _ HSc23.out (by simp) (by simp), fun _ => trivial⟩) ?restx110
            case hyx110 => intro W hSW; (try dsimp only at hSW); first | (go_simp; done) | (go_simp; with_reducible rfl)
            try simp only [Act.put, List.setIfInBounds_toArray, List.set_cons_zero, List.set_cons_succ]
            refine AnyL.step (i := 26) (by kernel_rfl) (by rfl) (fun KK hKK => ?_)
            refine want_yes (by rfl) ?_
            go_simp
            have HCC := Lib.hid (HOA.out HX.out _ HSc23.out.tl.tl.tl.hd)
            go_at_call 17
            with_reducible refine HCC.out.mono ?_
            rintro e wc24 ⟨rfl, hg⟩
            have HSc24 := Lib.hid (HSc23.out.grown hg)
            clear hg
            refine hKK.out _ _ (by exact HBM.out _ _ HSc24.out (by simp) (by simp)) (by exact fun _ => trivial) ?_
            clear hKK KK HCC
            try simp only [Act.put, List.setIfInBounds_toArray, List.set_cons_zero, List.set_cons_succ]
            refine AnyL.step (i := 28) (by kernel_rfl) (by rfl) (fun KK hKK => ?_)
            refine want_yes (by rfl) ?_
            go_simp
            have HCC := Lib.hid (HOB.out HY.out _ HSc24.out.tl.tl.tl.hd)
            go_at_call 17
            with_reducible refine HCC.out.mono ?_
            rintro e wc25 ⟨rfl, hg⟩
            have HSc25 := Lib.hid (HSc24.out.grown hg)
            clear hg
            refine hKK.out _ _ (by exact HBM.out _ _ HSc25.out (by simp) (by simp)) (by exact fun _ => trivial) ?_
            clear hKK KK HCC
            try simp only [Act.put, List.setIfInBounds_toArray, List.set_cons_zero, List.set_cons_succ]
            refine AnyL.take (i := 29) (v := ?vx111) (by rfl) (by kernel_rfl) (by kernel_rfl) (by kernel_rfl) rfl (by exact fun _ _ _ h => h) (by rfl) ?hyx111 (by exact ⟨HBM.out _ _ HSc25.out (by simp) (by simp), fun _ => trivial⟩) ?restx111
            case hyx111 => intro W hSW; (try dsimp only at hSW); first | (go_simp; done) | (go_simp; with_reducible rfl)
            try simp only [Act.put, List.setIfInBounds_toArray, List.set_cons_zero, List.set_cons_succ]
            refine AnyL.take (i := 30) (v := ?vx112) (by rfl) (by kernel_rfl) (by kernel_rfl) (by kernel_rfl) rfl (by exact fun _ _ _ h => h) (by rfl) ?hyx112 (by exact ⟨HBM.out _ _ HSc25.out (by simp) (by simp), fun _ => trivial⟩) ?restx112
            case hyx112 => intro W hSW; (try dsimp only at hSW); first | (go_simp; done) | (go_simp; with_reducible rfl)
            try simp only [Act.put, List.setIfInBounds_toArray, List.set_cons_zero, List.set_cons_succ]
            refine AnyL.done (by kernel_rfl) ?_ _
            clear HGA HGB HFT HIA HIB HOA HOB HBM
            have HMC := Lib.hid (HMA.out HX.out _ HSc25.out.tl.tl.tl.hd)
            have x0 := bs1 HSc25.out.tl.tl.hd
            go_upto_region 4 with (
              go_at_call 18
              with_reducible refine HMC.out.mono ?_
              rintro e w3 hmd
              obtain ⟨G1, a1, b1, c1, s1, t1, u1, xs, hG1, rfl, hxs, hsg⟩ := made_parts hmd
              have HG1 := Lib.hid hG1; have HXS := Lib.hid hxs
              have HS3 := Lib.hid ((HSc25.out.graft1 hsg OX3_own).boxAt w3.heap.size rfl #[.int .i64 G1.n, .slice a1 G1.es.length s1, .slice b1 G1.i.length t1, .slice c1 G1.o.length u1] 30)
              clear hmd hG1 hxs hsg x0)
            generalize w3.alloc (.cells #[.int .i64 G1.n, .slice a1 G1.es.length s1, .slice b1 G1.i.length t1, .slice c1 G1.o.length u1] 30) = w4 at *
            generalize w3.heap.size = gb at *
            have HMD := Lib.hid (HMB.out HY.out _ HS3.out.tl.tl.tl.tl.tl.hd)
            have x0 := bs1 HS3.out.tl.tl.tl.hd
            go_upto_region 5 with (
              go_at_call 18
              with_reducible refine HMD.out.mono ?_
              rintro e w5 hmd
              obtain ⟨G2, d1, e1, f1, v1, q1, r1, ys, hG2, rfl, hys, hsg⟩ := made_parts hmd
              have HG2 := Lib.hid hG2; have HYS := Lib.hid hys
              have HS5 := Lib.hid ((HS3.out.graft1 hsg OX3_own).boxAt w5.heap.size rfl #[.int .i64 G2.n, .slice d1 G2.es.length v1, .slice e1 G2.i.length q1, .slice f1 G2.o.length r1] 30)
              clear hmd hG2 hys hsg x0)
            generalize w5.alloc (.cells #[.int .i64 G2.n, .slice d1 G2.es.length v1, .slice e1 G2.i.length q1, .slice f1 G2.o.length r1] 30) = w6 at *
            generalize w5.heap.size = hb at *
            have HSR := Lib.hid (Sep.blk (A := [_, _, _, _]) (B := [_]) HS5.out)
            obtain ⟨o1, ho1⟩ : ∃ o, okT x = o := ⟨_, rfl⟩
            obtain ⟨o2, ho2⟩ : ∃ o, okT y = o := ⟨_, rfl⟩
            rw [ho1] at HG1 ⊢
            rw [ho2] at HG2 ⊢
            have HBB := Lib.hid (show b = (o1 && o2) from by rw [HBO.out, ho1, ho2])
            clear ho1 ho2 HMA HMB HMC HMD
            cases o1
            · obtain rfl : b = false := HBB.out
              obtain rfl : R = sn0 := HR.out.symm.trans (sn_no HB.out)
              have hz0 := HSR.out
              obtain ⟨y0_, y1_, y2_, y3_, y4_, y5_, y6_, y7_, y8_, y9_, y10_, y11_, y12_⟩ := cq13 hz0.hd
              obtain ⟨f0_, f1_, f2_, f3_, f4_, f5_, f6_, f7_, f8_, f9_, f10_, f11_, f12_⟩ := cf13 hz0.hd
              have hz := (((((((((((((hz0.q13_0 (u := .int .i64 0)).q13_1 (u := .int .i64 0)).q13_2 (u := .int .i64 0)).q13_3 (u := .slice none 0 0)).q13_4 (u := .int .i64 0)).q13_5 (u := .slice none 0 0)).q13_6 (u := .slice none 0 0)).q13_7 (u := .slice none 0 0)).q13_8 (u := .slice none 0 0)).q13_9 (u := .int .i64 0)).q13_10 (u := .slice none 0 0)).q13_11 (u := .slice none 0 0)).q13_12 (u := .slice none 0 0))
              have HZC := Lib.hid (cq13 hz.hd)
              have HKF := Lib.hid (show w.grownBy _ none from Sep.all hz (KeepA w) (by simp))
              clear hz hz0
              go_wp2_with fail
              obtain ⟨z0_, z1_, z2_, z3_, z4_, z5_, z6_, z7_, z8_, z9_, z10_, z11_, z12_⟩ := HZC.out
              refine bodyPost_ret_by (v := .tuple #[.agg #[.int .i64 0, .int .i64 0, .int .i64 0, .slice none 0 0, .int .i64 0, .slice none 0 0, .slice none 0 0, .slice none 0 0, .slice none 0 0, .int .i64 0, .slice none 0 0, .slice none 0 0, .slice none 0 0], .bool false]) ?_ rfl (GivesN.zero HKF.out)
              simp [results, go_sem, *]
            · cases o2
              · obtain rfl : b = false := HBB.out
                obtain rfl : R = sn0 := HR.out.symm.trans (sn_no HB.out)
                have hz0 := HSR.out
                obtain ⟨y0_, y1_, y2_, y3_, y4_, y5_, y6_, y7_, y8_, y9_, y10_, y11_, y12_⟩ := cq13 hz0.hd
                obtain ⟨f0_, f1_, f2_, f3_, f4_, f5_, f6_, f7_, f8_, f9_, f10_, f11_, f12_⟩ := cf13 hz0.hd
                have hz := (((((((((((((hz0.q13_0 (u := .int .i64 0)).q13_1 (u := .int .i64 0)).q13_2 (u := .int .i64 0)).q13_3 (u := .slice none 0 0)).q13_4 (u := .int .i64 0)).q13_5 (u := .slice none 0 0)).q13_6 (u := .slice none 0 0)).q13_7 (u := .slice none 0 0)).q13_8 (u := .slice none 0 0)).q13_9 (u := .int .i64 0)).q13_10 (u := .slice none 0 0)).q13_11 (u := .slice none 0 0)).q13_12 (u := .slice none 0 0))
                have HZC := Lib.hid (cq13 hz.hd)
                have HKF := Lib.hid (show w.grownBy _ none from Sep.all hz (KeepA w) (by simp))
                clear hz hz0
                go_wp2_with fail
                obtain ⟨z0_, z1_, z2_, z3_, z4_, z5_, z6_, z7_, z8_, z9_, z10_, z11_, z12_⟩ := HZC.out
                refine bodyPost_ret_by (v := .tuple #[.agg #[.int .i64 0, .int .i64 0, .int .i64 0, .slice none 0 0, .int .i64 0, .slice none 0 0, .slice none 0 0, .slice none 0 0, .slice none 0 0, .int .i64 0, .slice none 0 0, .slice none 0 0, .slice none 0 0], .bool false]) ?_ rfl (GivesN.zero HKF.out)
                simp [results, go_sem, *]
              · obtain rfl : b = true := HBB.out
                have hR2 := HR.out.symm.trans (sn_yes HB.out)
                have g1 : G1 = grT x := HG1.out
                have g2 : G2 = grT y := HG2.out
                rw [← g1, ← g2] at hR2
                subst hR2
                clear g1 g2
                obtain ⟨y0_, y1_, y2_, y3_, y4_, y5_, y6_, y7_, y8_, y9_, y10_, y11_, y12_⟩ := cq13 HSR.out.hd
                obtain ⟨f0_, f1_, f2_, f3_, f4_, f5_, f6_, f7_, f8_, f9_, f10_, f11_, f12_⟩ := cf13 HSR.out.hd
                obtain ⟨k0, k1, k2, k3, _⟩ := gq4 HSR.out.tl.hd
                obtain ⟨j0, j1, j2, j3, _⟩ := gq4 HSR.out.tl.tl.tl.hd
                have hz := (((((((((((((HSR.out.q13_0 (u := .int .i64 p)).q13_1 (u := .int .i64 k)).q13_2 (u := .int .i64 l)).q13_3 (u := .slice none 0 0)).q13_4 (u := .int .i64 G1.n)).q13_5 (u := .slice a1 G1.es.length s1)).q13_6 (u := .slice b1 G1.i.length t1)).q13_7 (u := .slice c1 G1.o.length u1)).q13_8 (u := .slice none 0 0)).q13_9 (u := .int .i64 G2.n)).q13_10 (u := .slice d1 G2.es.length v1)).q13_11 (u := .slice e1 G2.i.length q1)).q13_12 (u := .slice f1 G2.o.length r1))
                have HZC := Lib.hid (cq13 hz.hd)
                have HSF := Lib.hid (Sep.bag (l := [_, _]) (Sep.blk (A := [_]) (B := [_]) (Sep.cutA (X := [_, _]) (A := [_, _]) (Sep.cutA (X := [_]) (A := [_]) (Sep.cutA (X := []) (A := [_]) hz.tl)))))
                clear hz
                go_wp2_with fail
                obtain ⟨z0_, z1_, z2_, z3_, z4_, z5_, z6_, z7_, z8_, z9_, z10_, z11_, z12_⟩ := HZC.out
                refine bodyPost_ret_by (v := .tuple #[.agg #[.int .i64 p, .int .i64 k, .int .i64 l, .slice none 0 0, .int .i64 G1.n, .slice a1 G1.es.length s1, .slice b1 G1.i.length t1, .slice c1 G1.o.length u1, .slice none 0 0, .int .i64 G2.n, .slice d1 G2.es.length v1, .slice e1 G2.i.length q1, .slice f1 G2.o.length r1], .bool true]) ?_ rfl ⟨a1, b1, c1, d1, e1, f1, s1, t1, u1, v1, q1, r1, xs, ys, rfl, ⟨HXS.out, HYS.out⟩, HSF.out⟩
                simp [results, go_sem, *]
end Go.Proofs.YtjagjhchnpmngaaGreatDoor

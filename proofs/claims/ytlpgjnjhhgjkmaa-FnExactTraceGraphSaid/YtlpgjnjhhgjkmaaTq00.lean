/-
  What the frames of the plain exact laws share. Conditions: none.
-/
import Derived.Test.YtlpgjnjhhgjkmaaRows
import Derived.WalkKit
import Derived.ProofKit
import Derived.OpenShut
import Derived.ShutString
import Derived.ChangeOld
import Derived.OpenVars
import Derived.Below
import Derived.Deep.DeepHandedRow
import Derived.Lib.LaidTab
import Derived.Test.YtlpgjnjhhgjkmaaBa00
import Derived.Deep.RegionHeld
import Derived.Test.YtlpgjnjhhgjkmaaBa05
import Derived.Test.YtlpgjnjhhgjkmaaBa02
import Derived.Test.YtlpgjnjhhgjkmaaBa06
namespace Go.Proofs.Ytlpgjnjhhgjkmaa
open Go.ChangeShapes Go.WideShapes Go.ChangeAt Go.RowKit

theorem own : ownKnob Try.prog.godebug = none := by kernel_rfl
theorem laidOut : laidOutB Try.prog = true := by kernel_rfl
theorem below_of_grown {w w' : World} (h : w.grownBy w' none) : Below w.heap.size w w' := ⟨h.os, h.tape, h.output, h.size, fun k hk => h.block k hk (by simp)⟩
end Go.Proofs.Ytlpgjnjhhgjkmaa

/-
  A region that draws its order, walked in one order: an operation may be taken first where what it reads is kept till it has come up. Conditions: as each says.
-/
namespace Go.Proofs.Ytlpgjnjhhgjkmaa
open Go.RowKit
set_option linter.unusedVariables false
set_option maxRecDepth 100000

section
variable {P : Program} {ops : Array Oper} {Q : Exit → Act → World → Prop} {md : Region.Mode} {Se Sa : World → Prop} {ap : Nat}
/-- Whatever order is picked: Se holds behind every operation, Sa till operation ap has come up. -/
def AnyL (P : Program) (md : Region.Mode) (ops : Array Oper) (Q : Exit → Act → World → Prop) (Se Sa : World → Prop) (ap : Nat) : Nat → Array Bool → Act → World → Prop
  | 0, listed, a, w => Region.ready md ops listed = [] ∧ Q .normal a w
  | fuel + 1, listed, a, w =>
    (Region.ready md ops listed = [] → Q .normal a w) ∧
    ∀ i ∈ Region.ready md ops listed, wpOp P ops Q i (fun a' w' => (Se w' ∧ ((listed.setIfInBounds i true).getD ap true = false → Sa w')) ∧ AnyL P md ops Q Se Sa ap fuel (listed.setIfInBounds i true) a' w') a w
theorem noTF {b : Bool} {p : Prop} (h1 : b = true) (h : b = false) : p := by rw [h1] at h; cases h
theorem op_at {ops : Array Oper} {i : Nat} {oi : Oper} {r : List Oper} (h : ops.toList.drop i = oi :: r) : ops[i]? = some oi := by
  have h1 : (ops.toList.drop i)[0]? = some oi := by rw [h]; rfl
  rw [List.getElem?_drop] at h1
  simpa using h1
theorem any_of_L : ∀ (fuel : Nat) (listed : Array Bool) (a : Act) (w : World), AnyL P md ops Q Se Sa ap fuel listed a w → wpAny P md ops Q fuel listed a w
  | 0, _, _, _, h => h
  | fuel + 1, _, _, _, h => ⟨h.1, fun i hi => wpOp_mono (fun a' w' h' => any_of_L fuel _ a' w' h'.2) (h.2 i hi)⟩
theorem AnyL.first {i : Nat} {oi : Oper} {v : Value} {C : World → Prop} (hi : ops[i]? = some oi) (hsel : ∀ (j : Nat) (o : Oper) cs b, ops[j]? = some o → o.op ≠ .select cs b)
    (hQ : ∀ c a w, Q (.panic c) (a.put oi.dst v) w → Q (.panic c) a w) (G : Array Bool → Prop)
    (hG : ∀ listed j, G listed → listed.getD i true = false → j ∈ Region.ready md ops listed → j ≠ i → G (listed.setIfInBounds j true))
    (hC : ∀ listed w, G listed → Se w → (listed.getD ap true = false → Sa w) → C w) (hia : i ≠ ap) :
    ∀ (fuel : Nat) (listed : Array Bool) (a : Act) (w : World), G listed →
      (∀ j oj, ops[j]? = some oj → j ≠ i → listed.getD j true = false → (∀ e ∈ oj.after, Region.binds md e = true → e.on ≠ i) → oi.apart ops oj = true) →
      i ∈ Region.ready md ops listed → YieldsIf P ops C oi v a → Se w → (listed.getD ap true = false → Sa w) →
      AnyL P md ops Q Se Sa ap fuel (listed.setIfInBounds i true) (a.put oi.dst v) w → AnyL P md ops Q Se Sa ap (fuel + 1) listed a w := by
  intro fuel
  induction fuel with
  | zero =>
    intro listed a w hg _ hr hy hS hA H
    refine ⟨fun h => (by rw [h] at hr; cases hr), fun j hj => ?_⟩
    by_cases hji : j = i
    · subst hji; exact hy.wpOp hi (hC _ _ hg hS hA) ⟨⟨hS, by rw [getD_set_ne true hia]; exact hA⟩, H⟩
    · have := ready_mono hj hji
      rw [H.1] at this
      cases this
  | succ fuel ih =>
    intro listed a w hg hfree hr hy hS hA H
    refine ⟨fun h => (by rw [h] at hr; cases hr), fun j hj => ?_⟩
    by_cases hji : j = i
    · subst hji; exact hy.wpOp hi (hC _ _ hg hS hA) ⟨⟨hS, by rw [getD_set_ne true hia]; exact hA⟩, H⟩
    · have h1 := H.2 j (ready_mono hj hji)
      have hun := (mem_ready.1 hr).1
      obtain ⟨hjun, oj, hoj, hall⟩ := mem_ready.1 hj
      have hnot : ∀ e ∈ oj.after, Region.binds md e = true → e.on ≠ i := fun e he hb heq => by
        have h1 := hall e he hb
        have h0 := hun
        rw [heq] at h1
        rcases Nat.lt_or_ge i listed.size with h' | h'
        · simp [h'] at h0 h1; rw [h0] at h1; cases h1
        · simp [Array.getElem?_eq_none h'] at h1
      have h2 := wpOp_putIf hoj (hfree j oj hoj hji hjun hnot) (fun cs b => hsel i oi cs b hi) (fun cs b => hsel j oj cs b hoj) hQ hy h1
      have hfree' : ∀ k ok, ops[k]? = some ok → k ≠ i → (listed.setIfInBounds j true).getD k true = false →
          (∀ e ∈ ok.after, Region.binds md e = true → e.on ≠ i) → oi.apart ops ok = true := fun k ok hk hki hun hno => by
        refine hfree k ok hk hki ?_ hno
        by_cases hjk : j = k
        · subst hjk; exact hjun
        · rw [getD_set_ne true hjk] at hun; exact hun
      refine wpOp_mono (fun a' w' h3 => ?_) h2
      have hA' : (listed.setIfInBounds j true).getD ap true = false → Sa w' := fun h => h3.2.1.2 (by
        rw [Array.setIfInBounds_comm _ _ (Ne.symm hji), getD_set_ne true hia]; exact h)
      refine ⟨⟨h3.2.1.1, hA'⟩, ih (listed.setIfInBounds j true) a' w' (hG listed j hg hun hj hji) hfree' (ready_mono hr (Ne.symm hji)) h3.1 h3.2.1.1 hA' ?_⟩
      rw [Array.setIfInBounds_comm _ _ hji]
      exact h3.2.2
/-- Take number i first: what it reads holds throughout. -/
theorem AnyL.take {i : Nat} {oi : Oper} {v : Value} {fuel : Nat} {listed : Array Bool} {a : Act} {w : World} {r : List Oper} (hi' : ops.toList.drop i = oi :: r)
    (hs : Region.noSelect ops = true) (hf : Region.free md ops listed i = true) (hr : (Region.ready md ops listed).contains i = true) (hia : (i == ap) = false)
    (hQ : ∀ c a w, Q (.panic c) (a.put oi.dst v) w → Q (.panic c) a w) (hw : Region.wanted oi (yielded ops a.tmps) = true) (hy : ∀ w, Se w → (execOp a.eval oi).run P w = .ok (.value v) w) (hS : Se w ∧ (listed.getD ap true = false → Sa w))
    (h : AnyL P md ops Q Se Sa ap fuel (listed.setIfInBounds i true) (a.put oi.dst v) w) : AnyL P md ops Q Se Sa ap (fuel + 1) listed a w :=
  have hi := op_at hi'
  AnyL.first (C := Se) hi (Region.noSelect_spec hs) hQ (fun _ => True) (fun _ _ _ _ _ _ => trivial) (fun _ _ _ h _ => h) (by simpa using hia) fuel listed a w trivial (Region.free_spec hi hf) (by simpa using hr) (Or.inl ⟨hw, hy⟩) hS.1 hS.2 h
/-- Take number i first: what it reads holds till ap has come up, and ap waits for it. -/
theorem AnyL.takeA {i : Nat} {oi oa : Oper} {v : Value} {fuel : Nat} {listed : Array Bool} {a : Act} {w : World} {r : List Oper} (hi' : ops.toList.drop i = oi :: r)
    (hs : Region.noSelect ops = true) (hf : Region.free md ops listed i = true) (hr : (Region.ready md ops listed).contains i = true) (hia : (i == ap) = false)
    {r2 : List Oper} (ha' : ops.toList.drop ap = oa :: r2) (hed : (oa.after.any fun e => Region.binds md e && e.on == i) = true) (hun : listed.getD ap true = false)
    (hQ : ∀ c a w, Q (.panic c) (a.put oi.dst v) w → Q (.panic c) a w) (hw : Region.wanted oi (yielded ops a.tmps) = true) (hy : ∀ w, Sa w → (execOp a.eval oi).run P w = .ok (.value v) w) (hS : Se w ∧ (listed.getD ap true = false → Sa w))
    (h : AnyL P md ops Q Se Sa ap fuel (listed.setIfInBounds i true) (a.put oi.dst v) w) : AnyL P md ops Q Se Sa ap (fuel + 1) listed a w := by
  have hi := op_at hi'
  refine AnyL.first (C := Sa) hi (Region.noSelect_spec hs) hQ (fun l => l.getD ap true = false) (fun l j hg hu hj hji => ?_) (fun _ _ hg _ h => h hg) (by simpa using hia) fuel listed a w hun (Region.free_spec hi hf) (by simpa using hr) (Or.inl ⟨hw, hy⟩) hS.1 hS.2 h
  by_cases hja : j = ap
  · exfalso
    subst hja
    obtain ⟨_, o, ho, hall⟩ := mem_ready.1 hj
    rw [op_at ha'] at ho
    cases ho
    obtain ⟨e, he, hb⟩ := Array.any_eq_true'.1 hed
    simp only [Bool.and_eq_true, beq_iff_eq] at hb
    have h1 := hall e he hb.1
    rw [hb.2] at h1
    rcases Nat.lt_or_ge i l.size with h' | h'
    · simp [h'] at hu h1; rw [hu] at h1; cases h1
    · simp [Array.getElem?_eq_none h'] at h1
  · show (l.setIfInBounds j true).getD ap true = false
    rw [getD_set_ne true hja]
    exact hg
/-- The one operation that may come up now is carried out. -/
theorem AnyL.step {i : Nat} {oi : Oper} {fuel : Nat} {listed : Array Bool} {a : Act} {w : World} {r : List Oper} (hr : Region.ready md ops listed = [i]) (hi' : ops.toList.drop i = oi :: r)
    (h : ∀ K' : Act → World → Prop, Shut (∀ a' w', Se w' → ((listed.setIfInBounds i true).getD ap true = false → Sa w') → AnyL P md ops Q Se Sa ap fuel (listed.setIfInBounds i true) a' w' → K' a' w') → if Region.wanted oi (yielded ops a.tmps) = true then Oper.wp P oi a w K' Q else K' (a.put oi.dst undef) w) :
    AnyL P md ops Q Se Sa ap (fuel + 1) listed a w := by
  refine ⟨fun h0 => (by rw [hr] at h0; cases h0), fun j hj => ?_⟩
  rw [hr] at hj
  have hji : j = i := by simpa using hj
  subst hji
  exact wpOp_step (op_at hi') fun K' hK => h K' fun a w h1 h2 h3 => hK a w ⟨⟨h1, h2⟩, h3⟩
theorem AnyL.done {listed : Array Bool} {a : Act} {w : World} (hr : Region.ready md ops listed = []) (h : Q .normal a w) : ∀ fuel, AnyL P md ops Q Se Sa ap fuel listed a w
  | 0 => ⟨hr, h⟩
  | _ + 1 => ⟨fun _ => h, by rw [hr]; simp⟩
theorem AnyL.start {id : Nat} {a : Act} {w : World} (Se Sa : World → Prop) (ap : Nat) (hm : P.follows .mixedOrders = true) (h : AnyL P .any ops Q Se Sa ap ops.size (Array.replicate ops.size false) a w.drew) : (Code.region id ops true).wp P Q a w :=
  wp_region_any hm (any_of_L _ _ _ _ h)
end
end Go.Proofs.Ytlpgjnjhhgjkmaa

/-
  A graph with other wires, in the reference and in the program. Conditions: wires are in range; lengths are small.
-/
namespace Go.Proofs.Ytlpgjnjhhgjkmaa
open Go.RowKit
set_option linter.unusedVariables false
set_option maxRecDepth 100000

/-- A graph with other wires. -/
def mapE (ts : List Int) (x : Ed) : Ed := ⟨x.k, x.v, x.i.map (ofL ts), x.o.map (ofL ts)⟩
def mapG (ts : List Int) (n : Int) (g : Gr) : Gr := ⟨n, g.es.map (mapE ts), g.i.map (ofL ts), g.o.map (ofL ts)⟩
theorem eds_snoc (xs : List XE) (x : XE) : eds (xs ++ [x]) = eds xs ++ [x.ed] := by simp [eds]
theorem map_take (ts : List Int) {es : List Ed} {k : Nat} (hk : k < es.length) : (es.take (k + 1)).map (mapE ts) = (es.take k).map (mapE ts) ++ [mapE ts (es.getD k e0)] := by
  rw [List.take_succ_eq_append_getElem hk, List.map_append, List.getD_eq_getElem?_getD, List.getElem?_eq_getElem hk]
  rfl
theorem wires_edge {gn : Int} {es : List Ed} {is os : List Int} {y : Ed} (hy : y ∈ es) {x : Int} : (x ∈ y.i → x ∈ wiresL ⟨gn, es, is, os⟩) ∧ (x ∈ y.o → x ∈ wiresL ⟨gn, es, is, os⟩) := by
  unfold wiresL wiresE
  simp only [List.mem_append, List.mem_flatMap]
  exact ⟨fun h => Or.inr (Or.inr ⟨y, hy, Or.inl h⟩), fun h => Or.inr (Or.inr ⟨y, hy, Or.inr h⟩)⟩
theorem Sep.edgeIn {w : World} {X A B Q O : Asrt} {L r : List Asrt} (h : Sep w (X :: A :: B :: Q :: O :: Bag L :: r)) : Sep w (O :: X :: Bag (L ++ [B, A]) :: r) := by
  have h1 : Sep w (X :: B :: A :: Bag L :: O :: r) := by
    refine h.under (fun k => ?_) (by simp +contextual)
    have k1 : Sep w (B :: A :: O :: Bag L :: r) := k.s3.tl.s2
    exact k1.under (fun k2 => k2.under (fun k3 => k3.s2) (by simp +contextual)) (by simp +contextual)
  exact h1.bagTwo.s3
theorem edge_one (e : Ed) (a1 : Option Addr) (n1 c1 : Nat) (a2 : Option Addr) (n2 c2 : Nat) : ∀ u ∈ edgeE.cs ⟨e, .slice a1 n1 c1, .slice a2 n2 c2⟩, u.oneCell' = true := by
  intro u hu
  simp only [edgeE, edgeC, List.mem_cons, List.not_mem_nil, or_false] at hu
  rcases hu with rfl | rfl | rfl | rfl <;> rfl
set_option maxHeartbeats 4000000 in
theorem hgMap_any (ev iv ov tv : Value) (g : Gr) (n : Int) (ts : List Int) (w : World) (he : RdE edgeE w ev g.es) (hi : IntsV w iv g.i) (ho : IntsV w ov g.o) (ht : IntsV w tv ts) (l0 : g.es.length ≤ 1000) (l1 : g.i.length ≤ 1000000) (l2 : g.o.length ≤ 1000000) (hle : ∀ e ∈ g.es, e.i.length ≤ 1000000 ∧ e.o.length ≤ 1000000) (hr : ∀ x ∈ wiresL g, 0 ≤ x ∧ x < (ts.length : Int)) :
    Calls Try.prog 78 #[grV g.n ev iv ov, tv, .int .i64 n] w fun e w' => ∃ u0 xs u1 u2, e = .returned (grV n u0 u1 u2) ∧ eds xs = g.es.map (mapE ts) ∧ Sep w' [OE u0 xs, OI u1 (g.i.map (ofL ts)), OI u2 (g.o.map (ofL ts)), KeepA w] := by
  have HMI := Lib.hid fun W (h : w.grownBy W none) => hgList_any iv tv g.i ts W (hi.carry h) (ht.carry h) l1 (fun x hx => hr x (by unfold wiresL; simp [hx]))
  have HMO := Lib.hid fun W (h : w.grownBy W none) => hgList_any ov tv g.o ts W (ho.carry h) (ht.carry h) l2 (fun x hx => hr x (by unfold wiresL; simp [hx]))
  have HE := Lib.hid he; have HT := Lib.hid ht; have HR := Lib.hid hr; have HLE := Lib.hid hle
  unfold grV
  obtain ⟨a0, c0, rfl⟩ := he.shape
  obtain ⟨a1, c1, rfl⟩ := hi.shape
  obtain ⟨a2, c2, rfl⟩ := ho.shape
  obtain ⟨ta, tc, rfl⟩ := ht.shape
  clear he hi ho ht hr hle
  obtain ⟨gn, es, is, os⟩ := g
  simp only at HMI HMO HE HR HLE l0 l1 l2 ⊢
  generalize hm : es.length = m at *
  generalize is.length = m1 at *
  generalize os.length = m2 at *
  generalize hm3 : ts.length = m3 at *
  have HM := Lib.hid hm; have HM3 := Lib.hid hm3
  clear hm hm3 l1 l2
  have hs0 := ((Sep.start w).box #[.int .i64 gn, .slice a0 m c0, .slice a1 m1 c1, .slice a2 m2 c2] 29).box #[.int .i64 0, .slice none 0 0, .slice none 0 0, .slice none 0 0] 29
  have e1 : (w.alloc (.cells #[.int .i64 gn, .slice a0 m c0, .slice a1 m1 c1, .slice a2 m2 c2] 29)).heap.size = w.heap.size + 1 := by simp
  rw [e1] at hs0
  have HS0 := Lib.hid hs0
  clear hs0 e1
  go_enter Try.func78, Try.ntmps78
  go_upto_region 1 with fail
  go_cut [7] from 10 to 20 (fun t7 wx => ∃ (ob : Nat) (b1 : Option Addr) (d1 : Nat) (b2 : Option Addr) (d2 : Nat), t7 = .pointer (some ⟨ob, 0, none⟩) ∧ Sep wx [BxA ob #[.int .i64 n, .slice none 0 0, .slice b1 m1 d1, .slice b2 m2 d2] 29, OI (.slice b1 m1 d1) (is.map (ofL ts)), OI (.slice b2 m2 d2) (os.map (ofL ts)), BxA (w.heap.size + 1) #[.int .i64 0, .slice none 0 0, .slice none 0 0, .slice none 0 0] 29, BxA w.heap.size #[.int .i64 gn, .slice a0 m c0, .slice a1 m1 c1, .slice a2 m2 c2] 29, KeepA w])
  case first =>
    have hs1 := HS0.out.dr
    have HS1 := Lib.hid hs1
    have hs1a := (HS0.out.box #[.int .i64 0, .slice none 0 0, .slice none 0 0, .slice none 0 0] 29).dr
    rw [show ((w.alloc (.cells #[.int .i64 gn, .slice a0 m c0, .slice a1 m1 c1, .slice a2 m2 c2] 29)).alloc (.cells #[.int .i64 0, .slice none 0 0, .slice none 0 0, .slice none 0 0] 29)).heap.size = w.heap.size + 1 + 1 by simp] at hs1a
    have HS1a := Lib.hid hs1a
    have HK1 := Lib.hid (show w.grownBy _ none from hs1.tl.tl.hd)
    have HK1a := Lib.hid (show w.grownBy _ none from hs1a.tl.tl.tl.hd)
    obtain ⟨x0, x1, x2, x3, _⟩ := bq4 hs1.tl.hd
    obtain ⟨y0, y1, y2, y3, _⟩ := bq4 hs1a.tl.tl.hd
    clear hs1 hs1a
    go_region_law (first
      | (try go_simp
         go_at_call 98
         with_reducible refine (HMI.out _ HK1.out).mono ?_
         rintro e w2 ⟨b1, d1, rfl, hsg⟩
         have HS2 := Lib.hid (HS1.out.graft1 hsg OI_own)
         have HK2 := Lib.hid (show w.grownBy _ none from HS2.out.tl.tl.tl.hd)
         obtain ⟨p0, p1, p2, p3, _⟩ := bq4 HS2.out.tl.tl.hd
         have hs2b := HS2.out.box #[.int .i64 0, .slice none 0 0, .slice none 0 0, .slice none 0 0] 29
         have HS2b := Lib.hid hs2b
         have HK2b := Lib.hid (show w.grownBy _ none from hs2b.tl.tl.tl.tl.hd)
         obtain ⟨r0, r1, r2, r3, _⟩ := bq4 hs2b.tl.tl.tl.hd
         clear hsg hs2b)
      | (try go_simp
         go_at_call 98
         with_reducible refine (HMI.out _ HK1a.out).mono ?_
         rintro e w2 ⟨b1, d1, rfl, hsg⟩
         have HS2a := Lib.hid (HS1a.out.graft1 hsg OI_own)
         have HK2a := Lib.hid (show w.grownBy _ none from HS2a.out.tl.tl.tl.tl.hd)
         obtain ⟨p0, p1, p2, p3, _⟩ := bq4 HS2a.out.tl.tl.tl.hd
         clear hsg)
      | (try go_simp
         go_at_call 98
         with_reducible refine (HMO.out _ HK2.out).mono ?_
         rintro e w3 ⟨b2, d2, rfl, hsg⟩
         have HS3 := Lib.hid (HS2.out.graft1 hsg OI_own)
         have hs3 := (HS3.out).box #[.int .i64 n, .slice none 0 0, .slice b1 m1 d1, .slice b2 m2 d2] 29
         have HSF := Lib.hid (hs3.under (fun h => h.s2) (by simp +contextual [or_assoc, or_comm, or_left_comm]))
         clear hsg hs3)
      | (try go_simp
         go_at_call 98
         with_reducible refine (HMO.out _ HK2a.out).mono ?_
         rintro e w3 ⟨b2, d2, rfl, hsg⟩
         have hs3 := (HS2a.out.graft1 hsg OI_own).s3
         obtain ⟨q0, q1, q2, q3, q4, q5⟩ := bq4 hs3.hd
         have hs4 := (((hs3.setB 0 (.int .i64 n)).setB 1 (.slice none 0 0)).setB 2 (.slice b1 m1 d1)).setB 3 (.slice b2 m2 d2)
         have HSF := Lib.hid (hs4.under (fun h => h.s2) (by simp +contextual [or_assoc, or_comm, or_left_comm]))
         clear hsg hs3 hs4)
      | (try go_simp
         go_at_call 98
         with_reducible refine (HMO.out _ HK2b.out).mono ?_
         rintro e w3 ⟨b2, d2, rfl, hsg⟩
         have hs3 := (HS2b.out.graft1 hsg OI_own).s2
         obtain ⟨q0, q1, q2, q3, q4, q5⟩ := bq4 hs3.hd
         have hs4 := (((hs3.setB 0 (.int .i64 n)).setB 1 (.slice none 0 0)).setB 2 (.slice b1 m1 d1)).setB 3 (.slice b2 m2 d2)
         have HSF := Lib.hid (hs4.under (fun h => h.s2) (by simp +contextual [or_assoc, or_comm, or_left_comm]))
         clear hsg hs3 hs4))
    all_goals
      go_wp2_with fail
      go_meet
      exact ⟨_, b1, d1, b2, d2, rfl, HSF.out⟩
  case rest =>
    obtain ⟨ob, b1, d1, b2, d2, rfl, hs⟩ := hcut
    have HS := Lib.hid hs
    obtain ⟨x0, x1, x2, x3, _⟩ := bq4 hs.hd
    obtain ⟨y0, y1, y2, y3, _⟩ := bq4 hs.tl.tl.tl.tl.hd
    clear hs HS0 HMI HMO
    go_wp2_with fail
    go_loopw [9, 23] (fun _ i wr => ∃ (k : Nat) (e1 : Option Addr) (f1 : Nat) (xs : List XE), k ≤ m ∧ i = .int .i64 k ∧ xs.length = k ∧ eds xs = (es.take k).map (mapE ts) ∧ Sep wr [BxA ob #[.int .i64 n, .slice e1 k f1, .slice b1 m1 d1, .slice b2 m2 d2] 29, OR edgeE (.slice e1 k f1) xs, Bag (rowsE xs), OI (.slice b1 m1 d1) (is.map (ofL ts)), OI (.slice b2 m2 d2) (os.map (ofL ts)), BxA (w.heap.size + 1) #[.int .i64 0, .slice none 0 0, .slice none 0 0, .slice none 0 0] 29, KeepA w]) (fun _ i _ => m - (intOf i).toNat)
    case atStart => exact ⟨0, none, 0, [], by omega, rfl, rfl, rfl, ((HS.out.under (fun h => h.under (fun h => h.under (fun h => h.drop2) (by simp +contextual)) (by simp +contextual)) (by simp +contextual)).noBag.nilR edgeE).s3⟩
    case round =>
      obtain ⟨k, e1, f1, xs, hk, rfl, hxl, hxe, hs⟩ := hrel
      have HSX := Lib.hid hs; have HXL := Lib.hid hxl; have HXE := Lib.hid hxe
      have HKX := Lib.hid (show w.grownBy wr none from hs.tl.tl.tl.tl.tl.tl.hd)
      obtain ⟨x0, x1, x2, x3, _⟩ := bq4 hs.hd
      clear hs hxl hxe HS
      by_cases hlt : k < m
      · have hke : k < es.length := by rw [HM.out]; exact hlt
        have hye : es.getD k e0 ∈ es := by rw [List.getD_eq_getElem?_getD, List.getElem?_eq_getElem hke]; exact List.getElem_mem _
        obtain ⟨eb, eo, iv, ov, rfl, _, q0, q1, q2, q3, hiv, hov⟩ := (HE.out.carry HKX.out).at rfl rfl hke
        have hlm := HLE.out _ hye
        have HMI := Lib.hid fun W (h : wr.grownBy W none) => hgList_any iv _ (es.getD k e0).i ts W (hiv.carry h) (HT.out.carry (grownBy_trans HKX.out h)) hlm.1 (fun x hx => by rw [HM3.out]; exact HR.out x ((wires_edge hye).1 hx))
        have HMO := Lib.hid fun W (h : wr.grownBy W none) => hgList_any ov _ (es.getD k e0).o ts W (hov.carry h) (HT.out.carry (grownBy_trans HKX.out h)) hlm.2 (fun x hx => by rw [HM3.out]; exact HR.out x ((wires_edge hye).2 hx))
        have HTK := Lib.hid (map_take ts hke)
        have HXN := Lib.hid (show ∀ x : XE, x.ed = mapE ts (es.getD k e0) → eds (xs ++ [x]) = (es.take (k + 1)).map (mapE ts) from fun x hx => by rw [eds_snoc, hx, HTK.out, HXE.out])
        generalize es.getD k e0 = y at *
        obtain ⟨yk, yv, yi, yo⟩ := y
        simp only at q0 q1 HMI HMO
        obtain ⟨s1, r1, rfl⟩ := hiv.shape
        obtain ⟨s2, r2, rfl⟩ := hov.shape
        simp only at q2 q3
        clear hke hye hiv hov hlm
        generalize yi.length = n1 at *
        generalize yo.length = n2 at *
        have hsb := (HSX.out.box #[.int .i64 yk, .int .i64 yv, .slice s1 n1 r1, .slice s2 n2 r2] 69)
        have HSD := Lib.hid hsb.dr
        have HKD := Lib.hid (show wr.grownBy (wr.alloc (.cells #[.int .i64 yk, .int .i64 yv, .slice s1 n1 r1, .slice s2 n2 r2] 69)).drew none from grownBy_trans (gr1 wr _) ⟨rfl, rfl, rfl, Nat.le_refl _, fun _ _ _ => rfl⟩)
        have t1 := (bq4 hsb.tl.hd).2.1
        have t1d := (bq4 hsb.dr.tl.hd).2.1
        clear hsb
        go_upto_region 5 with fail
        have hxb : ∃ xb, xb = wr.heap.size := ⟨_, rfl⟩
        obtain ⟨xb, hxb⟩ := hxb
        have SX := Lib.hid fun (W : World) (l : List Asrt) (h : Sep W (BxA wr.heap.size #[.int .i64 yk, .int .i64 yv, .slice s1 n1 r1, .slice s2 n2 r2] 69 :: l)) => And.intro (bq4 h.hd).1 (And.intro (bq4 h.hd).2.1 (And.intro (bq4 h.hd).2.2.1 (bq4 h.hd).2.2.2.1))
        have X0 := Lib.hid (SX.out _ _ HSD.out)
        rw [← hxb] at SX X0 HSD
        clear q0 q1 q2 q3 x0 x1 x2 x3
        simp only [← hxb]
        clear hxb
        generalize wr.alloc (.cells #[.int .i64 yk, .int .i64 yv, .slice s1 n1 r1, .slice s2 n2 r2] 69) = wx at *
        refine AnyL.start (fun w' => w'.cell? ⟨xb, 0, none⟩ = some (.int .i64 yk) ∧ w'.cell? ⟨xb, 1, none⟩ = some (.int .i64 yv) ∧ w'.cell? ⟨xb, 2, none⟩ = some (.slice s1 n1 r1) ∧ w'.cell? ⟨xb, 3, none⟩ = some (.slice s2 n2 r2)) (fun w' => w'.cell? ⟨ob, 1, none⟩ = some (.slice e1 k f1)) 16 (by kernel_rfl) ?_
        refine AnyL.take (i := 0) (v := ?vx1) (by rfl) (by kernel_rfl) (by kernel_rfl) (by kernel_rfl) rfl (by exact fun _ _ _ h => h) (by rfl) ?hyx1 (by exact ⟨X0.out, fun _ => t1d⟩) ?restx1
        case hyx1 => intro W hSW; (try dsimp only at hSW); first | (go_simp; done) | (go_simp; with_reducible rfl)
        try simp only [Act.put, List.setIfInBounds_toArray, List.set_cons_zero, List.set_cons_succ]
        refine AnyL.takeA (i := 1) (v := ?vx2) (by rfl) (by kernel_rfl) (by kernel_rfl) (by kernel_rfl) rfl (by rfl) (by kernel_rfl) (by kernel_rfl) (by exact fun _ _ _ h => h) (by rfl) ?hyx2 (by exact ⟨X0.out, fun _ => t1d⟩) ?restx2
        case hyx2 => intro W hSW; (try dsimp only at hSW); first | (go_simp; done) | (go_simp; with_reducible rfl)
        try simp only [Act.put, List.setIfInBounds_toArray, List.set_cons_zero, List.set_cons_succ]
        refine AnyL.take (i := 2) (v := ?vx3) (by rfl) (by kernel_rfl) (by kernel_rfl) (by kernel_rfl) rfl (by exact fun _ _ _ h => h) (by rfl) ?hyx3 (by exact ⟨X0.out, fun _ => t1d⟩) ?restx3
        case hyx3 => intro W hSW; (try dsimp only at hSW); first | (go_simp; done) | (go_simp; with_reducible rfl)
        try simp only [Act.put, List.setIfInBounds_toArray, List.set_cons_zero, List.set_cons_succ]
        refine AnyL.take (i := 3) (v := ?vx4) (by rfl) (by kernel_rfl) (by kernel_rfl) (by kernel_rfl) rfl (by exact fun _ _ _ h => h) (by rfl) ?hyx4 (by exact ⟨X0.out, fun _ => t1d⟩) ?restx4
        case hyx4 => intro W hSW; (try dsimp only at hSW); first | (go_simp; done) | (go_simp; with_reducible rfl)
        try simp only [Act.put, List.setIfInBounds_toArray, List.set_cons_zero, List.set_cons_succ]
        refine AnyL.take (i := 4) (v := ?vx5) (by rfl) (by kernel_rfl) (by kernel_rfl) (by kernel_rfl) rfl (by exact fun _ _ _ h => h) (by rfl) ?hyx5 (by exact ⟨X0.out, fun _ => t1d⟩) ?restx5
        case hyx5 => intro W hSW; (try dsimp only at hSW); first | (go_simp; done) | (go_simp; with_reducible rfl)
        try simp only [Act.put, List.setIfInBounds_toArray, List.set_cons_zero, List.set_cons_succ]
        refine AnyL.take (i := 5) (v := ?vx6) (by rfl) (by kernel_rfl) (by kernel_rfl) (by kernel_rfl) rfl (by exact fun _ _ _ h => h) (by rfl) ?hyx6 (by exact ⟨X0.out, fun _ => t1d⟩) ?restx6
        case hyx6 => intro W hSW; (try dsimp only at hSW); first | (go_simp; done) | (go_simp; with_reducible rfl)
        try simp only [Act.put, List.setIfInBounds_toArray, List.set_cons_zero, List.set_cons_succ]
        refine AnyL.take (i := 6) (v := ?vx7) (by rfl) (by kernel_rfl) (by kernel_rfl) (by kernel_rfl) rfl (by exact fun _ _ _ h => h) (by rfl) ?hyx7 (by exact ⟨X0.out, fun _ => t1d⟩) ?restx7
        case hyx7 => intro W hSW; (try dsimp only at hSW); first | (go_simp; done) | (go_simp; with_reducible rfl)
        try simp only [Act.put, List.setIfInBounds_toArray, List.set_cons_zero, List.set_cons_succ]
        refine AnyL.take (i := 7) (v := ?vx8) (by rfl) (by kernel_rfl) (by kernel_rfl) (by kernel_rfl) rfl (by exact fun _ _ _ h => h) (by rfl) ?hyx8 (by exact ⟨X0.out, fun _ => t1d⟩) ?restx8
        case hyx8 => intro W hSW; (try dsimp only at hSW); first | (go_simp; done) | (go_simp; with_reducible rfl)
        try simp only [Act.put, List.setIfInBounds_toArray, List.set_cons_zero, List.set_cons_succ]
        refine AnyL.take (i := 8) (v := ?vx9) (by rfl) (by kernel_rfl) (by kernel_rfl) (by kernel_rfl) rfl (by exact fun _ _ _ h => h) (by rfl) ?hyx9 (by exact ⟨X0.out, fun _ => t1d⟩) ?restx9
        case hyx9 => intro W hSW; (try dsimp only at hSW); first | (go_simp; done) | (go_simp; with_reducible rfl)
        try simp only [Act.put, List.setIfInBounds_toArray, List.set_cons_zero, List.set_cons_succ]
        refine AnyL.take (i := 10) (v := ?vx10) (by rfl) (by kernel_rfl) (by kernel_rfl) (by kernel_rfl) rfl (by exact fun _ _ _ h => h) (by rfl) ?hyx10 (by exact ⟨X0.out, fun _ => t1d⟩) ?restx10
        case hyx10 => intro W hSW; (try dsimp only at hSW); first | (go_simp; done) | (go_simp; with_reducible rfl)
        try simp only [Act.put, List.setIfInBounds_toArray, List.set_cons_zero, List.set_cons_succ]
        refine AnyL.take (i := 11) (v := ?vx11) (by rfl) (by kernel_rfl) (by kernel_rfl) (by kernel_rfl) rfl (by exact fun _ _ _ h => h) (by rfl) ?hyx11 (by exact ⟨X0.out, fun _ => t1d⟩) ?restx11
        case hyx11 => intro W hSW; (try dsimp only at hSW); first | (go_simp; done) | (go_simp; with_reducible rfl)
        try simp only [Act.put, List.setIfInBounds_toArray, List.set_cons_zero, List.set_cons_succ]
        refine AnyL.take (i := 12) (v := ?vx12) (by rfl) (by kernel_rfl) (by kernel_rfl) (by kernel_rfl) rfl (by exact fun _ _ _ h => h) (by rfl) ?hyx12 (by exact ⟨X0.out, fun _ => t1d⟩) ?restx12
        case hyx12 => intro W hSW; (try dsimp only at hSW); first | (go_simp; done) | (go_simp; with_reducible rfl)
        try simp only [Act.put, List.setIfInBounds_toArray, List.set_cons_zero, List.set_cons_succ]
        refine AnyL.step (i := 9) (by kernel_rfl) (by rfl) (fun K hK => ?_)
        go_simp
        go_at_call 98
        with_reducible refine (HMI.out _ HKD.out).mono ?_
        rintro e w2 ⟨b3, d3, rfl, hsg⟩
        have HS2 := Lib.hid (HSD.out.graft1 hsg OI_own)
        have X2 := Lib.hid (SX.out _ _ HS2.out.tl)
        have HK2 := Lib.hid (show wr.grownBy w2 none from grownBy_trans HKD.out hsg.tl.hd)
        have t1a := (bq4 HS2.out.tl.tl.hd).2.1
        clear hsg
        refine hK.out _ _ (by exact X2.out) (by exact fun _ => t1a) ?_
        clear hK K
        try simp only [Act.put, List.setIfInBounds_toArray, List.set_cons_zero, List.set_cons_succ]
        refine AnyL.step (i := 13) (by kernel_rfl) (by rfl) (fun K hK => ?_)
        go_simp
        go_at_call 98
        with_reducible refine (HMO.out _ HK2.out).mono ?_
        rintro e w3 ⟨b4, d4, rfl, hsg⟩
        have HS3 := Lib.hid (HS2.out.graft1 hsg OI_own)
        have X3 := Lib.hid (SX.out _ _ HS3.out.tl.tl)
        have Y3 := Lib.hid fun ob' => SX.out _ _ (HS3.out.al ob').tl.tl
        have t1b := (bq4 HS3.out.tl.tl.tl.hd).2.1
        have t1c := fun ob' => (bq4 (HS3.out.al ob').tl.tl.tl.hd).2.1
        clear hsg
        refine hK.out _ _ (by exact X3.out) (by exact fun _ => t1b) ?_
        clear hK K
        try simp only [Act.put, List.setIfInBounds_toArray, List.set_cons_zero, List.set_cons_succ]
        refine AnyL.take (i := 14) (v := ?vx13) (by rfl) (by kernel_rfl) (by kernel_rfl) (by kernel_rfl) rfl (by exact fun _ _ _ h => h) (by rfl) ?hyx13 (by exact ⟨X3.out, fun _ => t1b⟩) ?restx13
        case hyx13 => intro W hSW; (try dsimp only at hSW); first | (go_simp; done) | (go_simp; with_reducible rfl)
        try simp only [Act.put, List.setIfInBounds_toArray, List.set_cons_zero, List.set_cons_succ]
        refine AnyL.step (i := 15) (by kernel_rfl) (by rfl) (fun K hK => ?_)
        go_simp
        refine hK.out _ _ (by exact Y3.out _) (by exact fun _ => t1c _) ?_
        clear hK K
        try simp only [Act.put, List.setIfInBounds_toArray, List.set_cons_zero, List.set_cons_succ]
        refine AnyL.step (i := 16) (by kernel_rfl) (by rfl) (fun K hK => ?_)
        refine step_app_RG (E := edgeE) (y := ⟨⟨yk, yv, yi.map (ofL ts), yo.map (ofL ts)⟩, .slice b3 n1 d3, .slice b4 n2 d4⟩) info_edge rfl (by decide) Try.underlying27 (edge_one _ _ _ _ _ _ _) rfl (.tmp 28) (.tmp 42) rfl rfl rfl (by simp) rfl (HS3.out.s5) (by rw [HXL.out]; omega) ?_
        intro g c w4 h4
        rw [HXL.out] at h4 ⊢
        have X4 := Lib.hid (SX.out _ _ h4.tl.tl.tl)
        have X5 := Lib.hid (SX.out _ _ (h4.s5.setB 1 (.slice (some ⟨g, 0, none⟩) (k + 1) c)).tl.tl.tl.tl)
        have h5 := h4.edgeIn
        rw [← rowsE_snoc xs ⟨⟨yk, yv, yi.map (ofL ts), yo.map (ofL ts)⟩, .slice b3 n1 d3, .slice b4 n2 d4⟩] at h5
        obtain ⟨u0, u1, u2, u3, u4, u5, _⟩ := bq4 h5.hd
        have HS5 := Lib.hid (h5.setB 1 (.slice (some ⟨g, 0, none⟩) (k + 1) c))
        clear h4 h5
        refine hK.out _ _ (by exact X4.out) (by exact fun h => noTF (by kernel_rfl) h) ?_
        clear hK K
        try simp only [Act.put, List.setIfInBounds_toArray, List.set_cons_zero, List.set_cons_succ]
        refine AnyL.take (i := 17) (v := ?vx14) (by rfl) (by kernel_rfl) (by kernel_rfl) (by kernel_rfl) rfl (by exact fun _ _ _ h => h) (by rfl) ?hyx14 (by exact ⟨X4.out, fun h => noTF (by kernel_rfl) h⟩) ?restx14
        case hyx14 => intro W hSW; (try dsimp only at hSW); first | (go_simp; done) | (go_simp; with_reducible rfl)
        try simp only [Act.put, List.setIfInBounds_toArray, List.set_cons_zero, List.set_cons_succ]
        refine AnyL.step (i := 18) (by kernel_rfl) (by rfl) (fun K hK => ?_)
        go_simp
        refine hK.out _ _ (by exact X5.out) (by exact fun h => noTF (by kernel_rfl) h) ?_
        clear hK K
        try simp only [Act.put, List.setIfInBounds_toArray, List.set_cons_zero, List.set_cons_succ]
        refine AnyL.done (by kernel_rfl) ?_ _
        all_goals
          go_wp2_with fail
          go_roundw
          case rel => exact ⟨k + 1, some ⟨g, 0, none⟩, c, xs ++ [(⟨⟨yk, yv, yi.map (ofL ts), yo.map (ofL ts)⟩, .slice b3 n1 d3, .slice b4 n2 d4⟩ : XE)], by omega, by go_num, by rw [List.length_append, HXL.out]; rfl, HXN.out ⟨⟨yk, yv, yi.map (ofL ts), yo.map (ofL ts)⟩, .slice b3 n1 d3, .slice b4 n2 d4⟩ rfl, HS5.out⟩
          case measure => simp [intOf]; omega
      · have hkm : k = m := by omega
        subst hkm
        have hxe := HXE.out
        rw [List.take_of_length_le (by rw [HM.out]; exact Nat.le_refl _)] at hxe
        have HXF := Lib.hid hxe
        have hs1 := HSX.out.tl.s5
        obtain ⟨r0, r1, r2, r3, r4, r5⟩ := bq4 hs1.hd
        have hs2 := (((hs1.setB 0 (.int .i64 n)).setB 1 (.slice e1 k f1)).setB 2 (.slice b1 m1 d1)).setB 3 (.slice b2 m2 d2)
        obtain ⟨k0, k1, k2, k3, _⟩ := bq4 hs2.hd
        have HF := Lib.hid hs2.tl.intoBag
        clear hs1 hs2 hxe hlt
        go_wp2_with fail
        refine bodyPost_ret_by (v := .agg #[.int .i64 n, .slice e1 k f1, .slice b1 m1 d1, .slice b2 m2 d2]) ?_ rfl ⟨_, xs, _, _, rfl, HXF.out, HF.out⟩
        simp [results, go_sem, *]
end Go.Proofs.Ytlpgjnjhhgjkmaa

/-
  Wires made one, in plain Lean: classes, their least wires, the new numbers. Conditions: as each says.
-/
namespace Go.Proofs.Ytlpgjnjhhgjkmaa
open Go.RowKit
set_option linter.unusedVariables false
set_option maxRecDepth 100000

theorem ofL_nat (l : List Int) (k : Nat) : ofL l (k : Int) = l.getD k 0 := by unfold ofL; rw [Int.toNat_natCast]
theorem ofL_mapF {l : List Int} {f : Int → Int} {w : Int} (h0 : 0 ≤ w) (h1 : w < l.length) : ofL (l.map f) w = f (ofL l w) := by
  obtain ⟨k, rfl⟩ := Int.eq_ofNat_of_zero_le h0
  rw [ofL_nat, ofL_nat, List.getD_eq_getElem?_getD, List.getElem?_map, List.getD_eq_getElem?_getD, List.getElem?_eq_getElem (by omega)]
  rfl
theorem ofL_set {l : List Int} {j w m : Int} (h0 : 0 ≤ w) (h1 : w < l.length) (hj : 0 ≤ j) : ofL (l.set j.toNat m) w = if w = j then m else ofL l w := by
  obtain ⟨k, rfl⟩ := Int.eq_ofNat_of_zero_le h0
  obtain ⟨i, rfl⟩ := Int.eq_ofNat_of_zero_le hj
  rw [ofL_nat, ofL_nat, Int.toNat_natCast, List.getD_eq_getElem?_getD, List.getElem?_set, List.getD_eq_getElem?_getD]
  by_cases h : i = k
  · subst h
    rw [if_pos rfl, if_pos (by omega), if_pos rfl]
    rfl
  · rw [if_neg h, if_neg (by omega)]
theorem ofL_up' {n : Nat} {x : Int} (h0 : 0 ≤ x) (h1 : x < n) : ofL (upL n) x = x := by
  obtain ⟨k, rfl⟩ := Int.eq_ofNat_of_zero_le h0
  unfold ofL upL
  rw [Int.toNat_natCast, List.getD_eq_getElem?_getD, List.getElem?_map, List.getElem?_range (by omega)]
  rfl
/-- Two wires made one: each class by its least wire. -/
def joinC (C : List Int) (a b : Int) : List Int := C.map fun c => if c = max (ofL C a) (ofL C b) then min (ofL C a) (ofL C b) else c
/-- F leads from each wire to one of its class that is not greater; C is the least wire. -/
structure Rep (n : Nat) (F C : List Int) : Prop where
  fl : F.length = n
  cl : C.length = n
  f0 : ∀ w : Int, 0 ≤ w → w < n → 0 ≤ ofL F w ∧ ofL F w ≤ w
  c0 : ∀ w : Int, 0 ≤ w → w < n → 0 ≤ ofL C w ∧ ofL C w ≤ w
  cf : ∀ w : Int, 0 ≤ w → w < n → ofL C (ofL F w) = ofL C w
  fx : ∀ w : Int, 0 ≤ w → w < n → ofL F w = w → ofL C w = w
  cc : ∀ w : Int, 0 ≤ w → w < n → ofL C (ofL C w) = ofL C w
  fc : ∀ w : Int, 0 ≤ w → w < n → ofL F (ofL C w) = ofL C w
theorem Rep.start (n : Nat) : Rep n (upL n) (upL n) := by
  refine ⟨upL_len n, upL_len n, ?_, ?_, ?_, ?_, ?_, ?_⟩ <;> intro w h0 h1
  · rw [ofL_up' h0 h1]; omega
  · rw [ofL_up' h0 h1]; omega
  · rw [ofL_up' h0 h1]; exact ofL_up' h0 h1
  · intro _; exact ofL_up' h0 h1
  · rw [ofL_up' h0 h1]; exact ofL_up' h0 h1
  · rw [ofL_up' h0 h1]; exact ofL_up' h0 h1
theorem Rep.join {n : Nat} {F C : List Int} (h : Rep n F C) {a b : Int} (ha0 : 0 ≤ a) (ha1 : a < n) (hb0 : 0 ≤ b) (hb1 : b < n) :
    Rep n (F.set (max (ofL C a) (ofL C b)).toNat (min (ofL C a) (ofL C b))) (joinC C a b) := by
  have xa := h.c0 a ha0 ha1
  have xb := h.c0 b hb0 hb1
  have ca := h.cc a ha0 ha1
  have cb := h.cc b hb0 hb1
  have fa := h.fc a ha0 ha1
  have fb := h.fc b hb0 hb1
  have hM : 0 ≤ max (ofL C a) (ofL C b) ∧ max (ofL C a) (ofL C b) < n := by omega
  have hm : 0 ≤ min (ofL C a) (ofL C b) ∧ min (ofL C a) (ofL C b) ≤ max (ofL C a) (ofL C b) := by omega
  have cM : ofL C (max (ofL C a) (ofL C b)) = max (ofL C a) (ofL C b) := by
    rcases Int.le_total (ofL C a) (ofL C b) with g | g
    · rw [Int.max_eq_right g]; exact cb
    · rw [Int.max_eq_left g]; exact ca
  have cm : ofL C (min (ofL C a) (ofL C b)) = min (ofL C a) (ofL C b) := by
    rcases Int.le_total (ofL C a) (ofL C b) with g | g
    · rw [Int.min_eq_left g]; exact ca
    · rw [Int.min_eq_right g]; exact cb
  have fm : ofL F (min (ofL C a) (ofL C b)) = min (ofL C a) (ofL C b) := by
    rcases Int.le_total (ofL C a) (ofL C b) with g | g
    · rw [Int.min_eq_left g]; exact fa
    · rw [Int.min_eq_right g]; exact fb
  have fM : ofL F (max (ofL C a) (ofL C b)) = max (ofL C a) (ofL C b) := by
    rcases Int.le_total (ofL C a) (ofL C b) with g | g
    · rw [Int.max_eq_right g]; exact fb
    · rw [Int.max_eq_left g]; exact fa
  unfold joinC
  generalize max (ofL C a) (ofL C b) = M at *
  generalize min (ofL C a) (ofL C b) = m at *
  clear xa xb ca cb fa fb ha0 ha1 hb0 hb1
  have hC : ∀ w : Int, 0 ≤ w → w < n → ofL (C.map fun c => if c = M then m else c) w = if ofL C w = M then m else ofL C w := fun w h0 h1 => ofL_mapF h0 (by rw [h.cl]; exact h1)
  have hF : ∀ w : Int, 0 ≤ w → w < n → ofL (F.set M.toNat m) w = if w = M then m else ofL F w := fun w h0 h1 => ofL_set h0 (by rw [h.fl]; exact h1) hM.1
  have cm' : (if ofL C m = M then m else ofL C m) = m := by rw [cm]; split <;> rfl
  have fm' : (if m = M then m else ofL F m) = m := by rw [fm]; split <;> rfl
  refine ⟨by rw [List.length_set]; exact h.fl, by rw [List.length_map]; exact h.cl, ?_, ?_, ?_, ?_, ?_, ?_⟩ <;> intro w h0 h1
  · rw [hF w h0 h1]
    have := h.f0 w h0 h1
    split <;> omega
  · rw [hC w h0 h1]
    have := h.c0 w h0 h1
    split <;> omega
  · have hf := h.f0 w h0 h1
    rw [hF w h0 h1]
    by_cases hw : w = M
    · subst hw
      rw [if_pos rfl, hC m hm.1 (by omega), cm', hC w h0 h1, if_pos cM]
    · rw [if_neg hw, hC _ hf.1 (by omega), hC w h0 h1, h.cf w h0 h1]
  · intro hx
    rw [hF w h0 h1] at hx
    rw [hC w h0 h1]
    by_cases hw : w = M
    · subst hw
      rw [if_pos rfl] at hx
      rw [cM, if_pos rfl, hx]
    · rw [if_neg hw] at hx
      rw [h.fx w h0 h1 hx, if_neg hw]
  · have hc := h.c0 w h0 h1
    rw [hC w h0 h1]
    by_cases hw : ofL C w = M
    · rw [if_pos hw, hC m hm.1 (by omega)]
      exact cm'
    · rw [if_neg hw, hC _ hc.1 (by omega), h.cc w h0 h1, if_neg hw]
  · have hc := h.c0 w h0 h1
    rw [hC w h0 h1]
    by_cases hw : ofL C w = M
    · rw [if_pos hw, hF m hm.1 (by omega)]
      exact fm'
    · rw [if_neg hw, hF _ hc.1 (by omega), if_neg hw, h.fc w h0 h1]
/-- All pairs made one. -/
def classOf (n : Nat) (ps : List (Int × Int)) : List Int := ps.foldl (fun C p => joinC C p.1 p.2) (upL n)
theorem classOf_snoc (n : Nat) (ps : List (Int × Int)) (p : Int × Int) : classOf n (ps ++ [p]) = joinC (classOf n ps) p.1 p.2 := by unfold classOf; rw [List.foldl_append]; rfl
/-- The classes alone: least wires. -/
structure Cls (n : Nat) (C : List Int) : Prop where
  cl : C.length = n
  c0 : ∀ w : Int, 0 ≤ w → w < n → 0 ≤ ofL C w ∧ ofL C w ≤ w
  cc : ∀ w : Int, 0 ≤ w → w < n → ofL C (ofL C w) = ofL C w
theorem Rep.cls {n : Nat} {F C : List Int} (h : Rep n F C) : Cls n C := ⟨h.cl, h.c0, h.cc⟩
/-! ### which classes are used, and their new numbers -/
def usedB (C ws : List Int) (r : Int) : Bool := ws.any fun w => decide (ofL C w = r)
def cntR (C ws : List Int) (k : Nat) : Nat := (List.range k).countP fun w : Nat => decide (ofL C (w : Int) = w) && usedB C ws w
def numX (C ws : List Int) (x : Int) : Int := if usedB C ws (ofL C x) = true then (cntR C ws (ofL C x).toNat : Int) else -1
def numL (C ws : List Int) (n : Nat) : List Int := (List.range n).map fun w : Nat => numX C ws w
theorem numL_len (C ws : List Int) (n : Nat) : (numL C ws n).length = n := by simp [numL]
theorem num_at {C ws : List Int} {n : Nat} {x : Int} (h0 : 0 ≤ x) (h1 : x < n) : ofL (numL C ws n) x = numX C ws x := by
  obtain ⟨k, rfl⟩ := Int.eq_ofNat_of_zero_le h0
  rw [ofL_nat]
  unfold numL
  rw [List.getD_eq_getElem?_getD, List.getElem?_map, List.getElem?_range (by omega)]
  rfl
theorem cntR_succ (C ws : List Int) (k : Nat) : cntR C ws (k + 1) = cntR C ws k + if (decide (ofL C (k : Int) = k) && usedB C ws k) = true then 1 else 0 := by
  unfold cntR
  rw [List.range_succ, List.countP_append, List.countP_singleton]
theorem cntR_mono (C ws : List Int) {a b : Nat} (h : a ≤ b) : cntR C ws a ≤ cntR C ws b := by
  induction h with
  | refl => exact Nat.le_refl _
  | step _ ih => rw [cntR_succ]; omega
theorem cntR_le (C ws : List Int) (k : Nat) : cntR C ws k ≤ k := by
  unfold cntR
  have := List.countP_le_length (l := List.range k) (p := fun w : Nat => decide (ofL C (w : Int) = w) && usedB C ws w)
  simpa using this
theorem used_of {C ws : List Int} {x : Int} (h : x ∈ ws) : usedB C ws (ofL C x) = true := List.any_eq_true.2 ⟨x, h, by simp⟩
theorem num_used {C ws : List Int} {n : Nat} (hc : Cls n C) {x : Int} (h : x ∈ ws) (h0 : 0 ≤ x) (h1 : x < n) : numX C ws x = (cntR C ws (ofL C x).toNat : Int) ∧ 0 ≤ numX C ws x ∧ numX C ws x < cntR C ws n := by
  have hu := used_of (C := C) h
  have hx := hc.c0 x h0 h1
  have hcc := hc.cc x h0 h1
  unfold numX
  rw [if_pos hu]
  obtain ⟨r, hr⟩ := Int.eq_ofNat_of_zero_le hx.1
  rw [hr] at hu hcc ⊢
  rw [Int.toNat_natCast]
  have h2 := cntR_succ C ws r
  rw [decide_eq_true hcc, hu] at h2
  have h3 := cntR_mono C ws (show r + 1 ≤ n by omega)
  simp at h2
  omega
theorem num_sur {C ws : List Int} : ∀ (n k : Nat), k < cntR C ws n → ∃ r : Nat, r < n ∧ ofL C (r : Int) = r ∧ usedB C ws r = true ∧ cntR C ws r = k
  | 0, k, h => by simp [cntR] at h
  | n + 1, k, h => by
    rw [cntR_succ] at h
    by_cases hk : k < cntR C ws n
    · obtain ⟨r, h1, h2⟩ := num_sur n k hk
      exact ⟨r, by omega, h2⟩
    · split at h
      · rename_i hb
        simp only [Bool.and_eq_true, decide_eq_true_iff] at hb
        exact ⟨n, by omega, hb.1, hb.2, by omega⟩
      · omega
/-- A graph whose wires are made one. -/
def glueG (C : List Int) (g : Gr) : Gr := mapG (numL C (wiresL g) g.n.toNat) (cntR C (wiresL g) g.n.toNat) g
theorem wires_map (ts : List Int) (n : Int) (g : Gr) : wiresL (mapG ts n g) = (wiresL g).map (ofL ts) := by
  unfold wiresL mapG wiresE mapE
  simp only [List.map_append, List.flatMap_map, List.map_flatMap]
theorem glue_valid {C : List Int} {g : Gr} {n : Nat} (hn : g.n = n) (hn1 : n ≤ 100) (hc : Cls n C) (hw : ∀ x ∈ wiresL g, 0 ≤ x ∧ x < (n : Int)) (h1 : g.es.length ≤ 60) (h2 : g.i.length ≤ 12) (h3 : g.o.length ≤ 12) (h4 : g.es.all edB = true) : grB (glueG C g) = true := by
  have hle := cntR_le C (wiresL g) n
  unfold grB
  simp only [Bool.and_eq_true]
  refine ⟨⟨⟨⟨?_, ?_⟩, ?_⟩, ?_⟩, ?_⟩
  · rw [inB_iff]
    unfold glueG mapG
    rw [hn]
    simp only [Int.toNat_natCast]
    omega
  · unfold glueG mapG
    simp [h1, h2, h3]
  · unfold glueG mapG
    simp only [List.all_map]
    refine List.all_eq_true.2 fun e he => ?_
    have := List.all_eq_true.1 h4 e he
    unfold edB at this ⊢
    simpa [mapE] using this
  · rw [rngB_iff]
    intro x hx
    unfold glueG at hx ⊢
    rw [wires_map] at hx
    obtain ⟨y, hy, rfl⟩ := List.mem_map.1 hx
    have hyr := hw y hy
    rw [hn, Int.toNat_natCast, num_at hyr.1 hyr.2]
    have := num_used hc hy hyr.1 hyr.2
    show _ ∧ _ < ((cntR C (wiresL g) n : Nat) : Int)
    omega
  · refine List.all_eq_true.2 fun k hk => decide_eq_true ?_
    have hk' : k < cntR C (wiresL g) n := by
      have := List.mem_range.1 hk
      unfold glueG mapG at this
      rw [hn] at this
      simpa using this
    obtain ⟨r, h5, h6, h7, h8⟩ := num_sur n k hk'
    obtain ⟨x, hx, hxr⟩ := List.any_eq_true.1 h7
    have hxr' : ofL C x = (r : Int) := by simpa using hxr
    have hxx := hw x hx
    unfold glueG
    rw [wires_map]
    refine List.mem_map.2 ⟨x, hx, ?_⟩
    rw [hn, Int.toNat_natCast, num_at hxx.1 hxx.2, (num_used hc hx hxx.1 hxx.2).1, hxr', Int.toNat_natCast, h8]
end Go.Proofs.Ytlpgjnjhhgjkmaa

/-
  Classes of wires: the least wire of a class, two classes made one. Conditions: wires are in range; lengths are small.
-/
namespace Go.Proofs.Ytlpgjnjhhgjkmaa
open Go.RowKit
set_option linter.unusedVariables false
set_option maxRecDepth 100000

theorem cell_of_ints {w : World} {b o n c : Nat} {zs : List Int} (h : IntsV w (.slice (some ⟨b, o, none⟩) n c) zs) {k : Nat} (hk : k < zs.length) : w.cell? ⟨b, o + k, none⟩ = some (.int .i64 (ofL zs (k : Int))) := by
  rw [ofL_nat]
  exact h.cellN hk
set_option maxHeartbeats 1000000 in
theorem root_any (v : Value) (F C : List Int) (n k : Nat) (w : World) (hv : IntsV w v F) (hr : Rep n F C) (hk : k < n) (hn : n ≤ 1000) :
    Calls Try.prog 87 #[v, .int .i64 k] w fun e w' => e = .returned (.int .i64 (ofL C (k : Int))) ∧ w' = w := by
  have HV := Lib.hid hv; have HR := Lib.hid hr
  obtain ⟨a, c, rfl⟩ := hv.shape
  obtain ⟨b, o, rfl⟩ := IntsV.addr hv (by rw [hr.fl]; omega)
  rw [hr.fl] at *
  clear hv hr
  go_enter Try.func87, Try.ntmps87
  go_wp2_with fail
  go_loopw [1] (fun wv wr => ∃ u : Nat, wv = .int .i64 u ∧ u < n ∧ ofL C (u : Int) = ofL C (k : Int) ∧ wr = w) (fun wv _ => (intOf wv).toNat)
  case atStart => exact ⟨k, rfl, hk, rfl, rfl⟩
  case round =>
    obtain ⟨u, rfl, hu, hc, hw⟩ := hrel
    subst hw
    have hcell := cell_of_ints HV.out (show u < F.length by rw [HR.out.fl]; exact hu)
    have hf := HR.out.f0 (u : Int) (by omega) (by omega)
    have hcf := HR.out.cf (u : Int) (by omega) (by omega)
    have hfx := HR.out.fx (u : Int) (by omega) (by omega)
    obtain ⟨f, hf'⟩ := Int.eq_ofNat_of_zero_le hf.1
    rw [hf'] at hcell hf hcf hfx
    have HC := Lib.hid hc
    by_cases h : f = u
    · subst h
      have hne : ((f : Int) != (f : Int)) = false := by simp
      have HE := Lib.hid (show (f : Int) = ofL C (k : Int) by rw [← HC.out, hfx rfl])
      clear hf hcf hfx hf' hc
      go_wp2
      go_ret
      exact ⟨by rw [← HE.out]; rfl, rfl⟩
    · have hne : ((f : Int) != (u : Int)) = true := by simp; omega
      have hfu : f < u := by omega
      have HC2 := Lib.hid (show ofL C (f : Int) = ofL C (k : Int) by rw [hcf]; exact HC.out)
      clear hf hcf hfx hf' hc h
      go_wp2
      go_roundw
      case rel => exact ⟨f, rfl, by omega, HC2.out, by trivial⟩
      case measure => simp [intOf]; omega
set_option maxHeartbeats 1000000 in
theorem join_any (g n c : Nat) (F C : List Int) (a b : Nat) (w : World) (l : List Asrt) (hs : Sep w (OI (.slice (some ⟨g, 0, none⟩) n c) F :: l)) (hr : Rep n F C) (ha : a < n) (hb : b < n) (hn : n ≤ 1000) :
    Calls Try.prog 85 #[.slice (some ⟨g, 0, none⟩) n c, .int .i64 a, .int .i64 b] w fun e w' => e = .returned (.tuple #[]) ∧ Sep w' (OI (.slice (some ⟨g, 0, none⟩) n c) (F.set (max (ofL C (a : Int)) (ofL C (b : Int))).toNat (min (ofL C (a : Int)) (ofL C (b : Int)))) :: l) := by
  have HA := Lib.hid (root_any _ F C n a w (OwnInts.read (show OwnInts 0 w _ F from hs.hd)) hr ha hn)
  have HB := Lib.hid (root_any _ F C n b w (OwnInts.read (show OwnInts 0 w _ F from hs.hd)) hr hb hn)
  have xa := hr.c0 (a : Int) (by omega) (by omega)
  have xb := hr.c0 (b : Int) (by omega) (by omega)
  obtain ⟨x, hx⟩ := Int.eq_ofNat_of_zero_le xa.1
  obtain ⟨y, hy⟩ := Int.eq_ofNat_of_zero_le xb.1
  have hxn : x < n := by omega
  have hyn : y < n := by omega
  rw [hx] at HA
  rw [hy] at HB
  rw [hx, hy]
  have HS := Lib.hid hs
  have HL := Lib.hid hr.fl
  clear hx hy xa xb hr hs
  rcases Nat.lt_trichotomy x y with hxy | hxy | hxy
  · have e1 : max (x : Int) (y : Int) = (y : Int) := Int.max_eq_right (by omega)
    have e2 : min (x : Int) (y : Int) = (x : Int) := Int.min_eq_left (by omega)
    rw [e1, e2, Int.toNat_natCast]
    have hset := HS.out.setI HL.out.symm y (x : Int)
    obtain ⟨q, hc0⟩ := HS.out.hd.cellQ HL.out.symm (j := y) (by omega)
    have hf := HS.out.hd.free HL.out.symm y
    have HF := Lib.hid hset
    have g1 : (x : Int) < (y : Int) := by omega
    have g2 : ¬ (y : Int) < (x : Int) := by omega
    have g3 : (x : Int) ≤ (y : Int) := by omega
    have g4 : ¬ (y : Int) ≤ (x : Int) := by omega
    clear hset e1 e2
    go_enter Try.func85, Try.ntmps85
    go_wp2_with (first
      | (go_at_call 87; with_reducible refine HA.out.mono ?_; rintro e w3 ⟨rfl, rfl⟩)
      | (go_at_call 87; with_reducible refine HB.out.mono ?_; rintro e w4 ⟨rfl, rfl⟩))
    refine bodyPost_end (results_none rfl _ _ _) rfl ?_
    exact ⟨rfl, HF.out⟩
  · subst hxy
    have e1 : max (x : Int) (x : Int) = (x : Int) := Int.max_eq_right (by omega)
    have e2 : min (x : Int) (x : Int) = (x : Int) := Int.min_eq_left (by omega)
    rw [e1, e2, Int.toNat_natCast]
    have hset := HS.out.setI HL.out.symm x (x : Int)
    obtain ⟨q, hc0⟩ := HS.out.hd.cellQ HL.out.symm (j := x) (by omega)
    have hf := HS.out.hd.free HL.out.symm x
    have HF := Lib.hid hset
    have g1 : ¬ (x : Int) < (x : Int) := by omega
    have g3 : (x : Int) ≤ (x : Int) := by omega
    clear hset e1 e2
    go_enter Try.func85, Try.ntmps85
    go_wp2_with (first
      | (go_at_call 87; with_reducible refine HA.out.mono ?_; rintro e w3 ⟨rfl, rfl⟩)
      | (go_at_call 87; with_reducible refine HB.out.mono ?_; rintro e w4 ⟨rfl, rfl⟩))
    refine bodyPost_end (results_none rfl _ _ _) rfl ?_
    exact ⟨rfl, HF.out⟩
  · have e1 : max (x : Int) (y : Int) = (x : Int) := Int.max_eq_left (by omega)
    have e2 : min (x : Int) (y : Int) = (y : Int) := Int.min_eq_right (by omega)
    rw [e1, e2, Int.toNat_natCast]
    have hset := HS.out.setI HL.out.symm x (y : Int)
    obtain ⟨q, hc0⟩ := HS.out.hd.cellQ HL.out.symm (j := x) (by omega)
    have hf := HS.out.hd.free HL.out.symm x
    have HF := Lib.hid hset
    have g1 : ¬ (x : Int) < (y : Int) := by omega
    have g2 : (y : Int) < (x : Int) := by omega
    have g3 : ¬ (x : Int) ≤ (y : Int) := by omega
    have g4 : (y : Int) ≤ (x : Int) := by omega
    clear hset e1 e2
    go_enter Try.func85, Try.ntmps85
    go_wp2_with (first
      | (go_at_call 87; with_reducible refine HA.out.mono ?_; rintro e w3 ⟨rfl, rfl⟩)
      | (go_at_call 87; with_reducible refine HB.out.mono ?_; rintro e w4 ⟨rfl, rfl⟩))
    refine bodyPost_end (results_none rfl _ _ _) rfl ?_
    exact ⟨rfl, HF.out⟩
end Go.Proofs.Ytlpgjnjhhgjkmaa

/-
  All lists of wires of a graph visited by a function that wants them in range; which classes are used. Conditions: wires are in range; lengths are small.
-/
namespace Go.Proofs.Ytlpgjnjhhgjkmaa
open Go.RowKit
set_option linter.unusedVariables false
set_option maxRecDepth 100000

/-- A function value that takes list after list of wires of a kind. -/
def VisFnR (R : Int → Prop) (g : FuncId) (lb : Array Value) (A : List Int → Asrt) : Prop :=
  ∀ (P x : List Int) (v : Value) (w0 W : World) (l : List Asrt), Sep W (A P :: KeepA w0 :: l) → IntsV w0 v x → x.length ≤ 1000000 → (∀ y ∈ x, R y) → Calls Try.prog g (#[v] ++ lb) W fun e w' => e = .returned (.tuple #[]) ∧ Sep w' (A (P ++ x) :: KeepA w0 :: l)
set_option maxHeartbeats 2000000 in
theorem lists_anyR (g : FuncId) (lb : Array Value) (eg : ∀ args w, (callFunc g args).run Try.prog w = .ok (.enter g args) w) (A : List Int → Asrt) (R : Int → Prop) (hV : VisFnR R g lb A) (n : Int) (ev iv ov : Value) (G : Gr) (w0 w : World) (l : List Asrt)
    (he : RdE edgeE w0 ev G.es) (hi : IntsV w0 iv G.i) (ho : IntsV w0 ov G.o) (hl : G.es.length ≤ 1000000) (hli : G.i.length ≤ 1000000) (hlo : G.o.length ≤ 1000000) (hle : ∀ e ∈ G.es, e.i.length ≤ 1000000 ∧ e.o.length ≤ 1000000) (hR : ∀ y ∈ wiresL G, R y) (hs : Sep w (A [] :: KeepA w0 :: l)) :
    Calls Try.prog 59 #[grV n ev iv ov, .func (.func g) #[] lb] w fun e w' => e = .returned (.tuple #[]) ∧ Sep w' (A (wiresL G) :: KeepA w0 :: l) := by
  have HE := Lib.hid he; have HI := Lib.hid hi; have HO := Lib.hid ho; have HV := Lib.hid hV
  obtain ⟨ea, ec, rfl⟩ := he.shape
  obtain ⟨ia, ic, rfl⟩ := hi.shape
  obtain ⟨oa, oc, rfl⟩ := ho.shape
  unfold wiresL wiresE at hR
  unfold grV wiresL
  obtain ⟨_, es, is, os⟩ := G
  simp only at HE HI HO hl hli hlo hle hR ⊢
  have hRI : ∀ y ∈ is, R y := fun y hy => hR y (by simp [hy])
  have HRO := Lib.hid (show ∀ y ∈ os, R y from fun y hy => hR y (by simp [hy]))
  have HRE := Lib.hid (show ∀ e ∈ es, (∀ y ∈ e.i, R y) ∧ ∀ y ∈ e.o, R y from fun e he => ⟨fun y hy => hR y (by simp only [List.mem_append, List.mem_flatMap]; exact Or.inr (Or.inr ⟨e, he, Or.inl hy⟩)), fun y hy => hR y (by simp only [List.mem_append, List.mem_flatMap]; exact Or.inr (Or.inr ⟨e, he, Or.inr hy⟩))⟩)
  have HLE := Lib.hid hle; have HLO := Lib.hid (show ∀ y : List Int, y = os → y.length ≤ 1000000 from fun y e => by rw [e]; exact hlo)
  clear he hi ho hV
  have hs0 := (hs.box #[.int .i64 n, .slice ea es.length ec, .slice ia is.length ic, .slice oa os.length oc] 29).s2.under Sep.s2 (by simp +contextual)
  have HS0 := Lib.hid hs0
  have HA := Lib.hid (HV.out [] is _ w0 _ _ hs0 HI.out hli hRI)
  clear hs hs0 hli hlo hle hR hRI
  generalize hm : es.length = m at *
  have HM := Lib.hid hm
  clear hm
  generalize is.length = n1 at *
  generalize os.length = n2 at *
  have HIV := Lib.hid HI.out; have HOV := Lib.hid HO.out
  go_enter Try.func59, Try.ntmps59
  go_wp2_with (first
    | (go_at_fn g
       with_reducible refine HA.out.mono ?_
       rintro e w2 ⟨rfl, hs2⟩
       obtain ⟨x0, x1, x2, x3, _⟩ := bq4 hs2.tl.tl.hd
       have HS2 := Lib.hid hs2
       have HB := Lib.hid (HV.out _ os _ w0 _ _ hs2 HO.out (HLO.out _ rfl) HRO.out)
       clear hs2)
    | (go_at_fn g
       with_reducible refine HB.out.mono ?_
       rintro e w3 ⟨rfl, hs3⟩
       obtain ⟨y0, y1, y2, y3, _⟩ := bq4 hs3.tl.tl.hd
       have HS3 := Lib.hid hs3
       clear hs3))
  rw [List.nil_append] at HS3
  have HS3' := Lib.hid (show Sep w3 (A (is ++ (os ++ wiresE (es.take 0))) :: _) from by have := HS3.out; simpa [wiresE] using this)
  clear HS2 HS3 HA HB y0 y1 y2 y3 x0 x1 x2 x3
  go_loopw [5, 17] (fun _ i wr => ∃ k : Nat, k ≤ m ∧ i = .int .i64 k ∧ Sep wr (A (is ++ (os ++ wiresE (es.take k))) :: KeepA w0 :: BxA w.heap.size #[.int .i64 n, .slice ea m ec, .slice ia n1 ic, .slice oa n2 oc] 29 :: l)) (fun _ i _ => m - (intOf i).toNat)
  case atStart => exact ⟨0, by omega, rfl, HS3'.out⟩
  case round =>
    obtain ⟨k, hk, rfl, hs⟩ := hrel
    have HSX := Lib.hid hs
    clear hs HS3'
    by_cases hlt : k < m
    · have hke : k < es.length := by rw [HM.out]; exact hlt
      obtain ⟨b, o, u1, u2, rfl, hat⟩ := HE.out.atK rfl rfl hke
      have HT := Lib.hid (wiresE_take es k hke)
      have hlm := HLE.out _ (show es.getD k e0 ∈ es by rw [List.getD_eq_getElem?_getD, List.getElem?_eq_getElem hke]; exact List.getElem_mem _)
      have hre := HRE.out _ (show es.getD k e0 ∈ es by rw [List.getD_eq_getElem?_getD, List.getElem?_eq_getElem hke]; exact List.getElem_mem _)
      generalize es.getD k e0 = e at *
      obtain ⟨ek, ev, ei, eo⟩ := e
      simp only at hat HT hlm hre
      have HRX := Lib.hid hre.2
      have HLM := Lib.hid (show ∀ y : List Int, y = eo → y.length ≤ 1000000 from fun y e => by rw [e]; exact hlm.2)
      obtain ⟨⟨q0, q1, q2, q3⟩, hi, ho⟩ := hat wr HSX.out.tl.hd
      obtain ⟨a1, c1, rfl⟩ := hi.shape
      obtain ⟨a2, c2, rfl⟩ := ho.shape
      have HAT := Lib.hid hat
      obtain ⟨⟨_, _, _, _⟩, hi0, ho0⟩ := hat w0 (grownBy_refl _ _)
      have hb := (HSX.out.box #[.int .i64 ek, .int .i64 ev, .slice a1 ei.length c1, .slice a2 eo.length c2] 69).s2.under Sep.s2 (by simp +contextual)
      have HA := Lib.hid (HV.out _ ei _ w0 _ _ hb hi0 hlm.1 hre.1)
      have HO0 := Lib.hid ho0
      clear hb hke hi ho hat hlm hi0 ho0 HAT hre
      generalize ei.length = m1 at *
      generalize eo.length = m2 at *
      go_wp2_with (first
        | (go_at_fn g
           with_reducible refine HA.out.mono ?_
           rintro e w5 ⟨rfl, hs5⟩
           obtain ⟨y0, y1, y2, y3, _⟩ := bq4 hs5.tl.tl.hd
           have HB := Lib.hid (HV.out _ eo _ w0 _ _ hs5 HO0.out (HLM.out _ rfl) HRX.out)
           clear hs5)
        | (go_at_fn g
           with_reducible refine HB.out.mono ?_
           rintro e w6 ⟨rfl, hs6⟩
           have hs7 := hs6.under Sep.drop2 (by simp +contextual)
           rw [show is ++ (os ++ wiresE (es.take k)) ++ ei ++ eo = is ++ (os ++ wiresE (es.take (k + 1))) by rw [HT.out]; simp] at hs7
           have HS7 := Lib.hid hs7
           clear hs6 hs7))
      go_roundw
      case rel => exact ⟨k + 1, by omega, by go_num, HS7.out⟩
      case measure => simp [intOf]; omega
    · have hkm : k = m := by omega
      subst hkm
      have hs := HSX.out
      rw [List.take_of_length_le (by rw [HM.out]; exact Nat.le_refl _)] at hs
      have HF := Lib.hid (hs.under Sep.drop2 (by simp +contextual))
      clear hs hlt HSX
      go_wp2
      refine bodyPost_end (results_none rfl _ _ _) rfl ?_
      exact ⟨rfl, HF.out⟩
/-- Which classes are used behind the wires P. -/
def usedL (n : Nat) (C P : List Int) : List Bool := (List.range n).map fun r : Nat => usedB C P r
theorem usedL_len (n : Nat) (C P : List Int) : (usedL n C P).length = n := by simp [usedL]
theorem usedL_nil (n : Nat) (C : List Int) : usedL n C [] = List.replicate n false := by
  unfold usedL
  rw [show (fun r : Nat => usedB C [] r) = fun _ => false from rfl, List.map_const', List.length_range]
theorem usedL_at {n : Nat} {C P : List Int} {r : Nat} (h : r < n) : (usedL n C P).getD r false = usedB C P r := by
  unfold usedL
  rw [List.getD_eq_getElem?_getD, List.getElem?_map, List.getElem?_range h]
  rfl
theorem usedB_snoc {C P : List Int} {x r : Int} : usedB C (P ++ [x]) r = (usedB C P r || decide (ofL C x = r)) := by unfold usedB; simp
theorem usedL_snoc {n : Nat} {C P : List Int} {x : Int} {r : Nat} (hr : ofL C x = r) (h : r < n) : usedL n C (P ++ [x]) = (usedL n C P).set r true := by
  apply List.ext_getElem (by simp [usedL])
  intro i h1 h2
  rw [List.getElem_set]
  have e1 : (usedL n C (P ++ [x]))[i] = usedB C (P ++ [x]) i := by simp [usedL]
  rw [e1, usedB_snoc, hr]
  by_cases e : r = i
  · subst e
    rw [if_pos rfl]
    simp
  · rw [if_neg e]
    have e2 : (usedL n C P)[i]'(by simpa [usedL] using h2) = usedB C P i := by simp [usedL]
    have : ¬ (r : Int) = i := by omega
    rw [e2, decide_eq_false this, Bool.or_false]
/-- What the marking of used classes holds. -/
def UseA (m ub us cb tb tc : Nat) (F C P : List Int) : List Asrt :=
  [BxA ub #[.slice (some ⟨us, 0, none⟩) m m] 76, OR boolE (.slice (some ⟨us, 0, none⟩) m m) (usedL m C P), BxA cb #[.slice (some ⟨tb, 0, none⟩) m tc] 113, OI (.slice (some ⟨tb, 0, none⟩) m tc) F]
set_option maxHeartbeats 4000000 in
theorem glue1_fn (m ub us cb tb tc : Nat) (F C : List Int) (hr : Rep m F C) (hm : m ≤ 1000) :
    VisFnR (fun y => 0 ≤ y ∧ y < (m : Int)) 86 #[.pointer (some ⟨ub, 0, none⟩), .pointer (some ⟨cb, 0, none⟩)] (fun P => Bag (UseA m ub us cb tb tc F C P)) := by
  intro P xs v w0 W l hs hv hl hR
  have hs0 := Sep.unbag hs
  have HS0 := Lib.hid hs0
  have HV := Lib.hid hv; have HR := Lib.hid hR; have HREP := Lib.hid hr
  obtain ⟨a, c, rfl⟩ := hv.shape
  clear hs hs0 hv hR hr
  generalize hlen : xs.length = n at *
  have HN := Lib.hid hlen
  clear hlen
  go_enter Try.func86, Try.ntmps86
  go_wp2_with fail
  go_loopw [5, 8] (fun _ i wr => ∃ k : Nat, k ≤ n ∧ i = .int .i64 k ∧ Sep wr (UseA m ub us cb tb tc F C (P ++ xs.take k) ++ KeepA w0 :: l)) (fun _ i _ => n - (intOf i).toNat)
  case atStart => exact ⟨0, by omega, rfl, by simpa using HS0.out⟩
  case round =>
    obtain ⟨k, hk, rfl, hs⟩ := hrel
    have HSX := Lib.hid hs
    clear hs HS0
    by_cases hlt : k < n
    · have hkx : k < xs.length := by rw [HN.out]; exact hlt
      obtain ⟨b, o, rfl⟩ := IntsV.addr HV.out (by omega)
      have hkeep : w0.grownBy wr none := HSX.out.tl.tl.tl.tl.hd
      have hc0 := (HV.out.carry hkeep).cellN hkx
      have hrx := HR.out (xs.getD k 0) (by rw [List.getD_eq_getElem?_getD, List.getElem?_eq_getElem hkx]; exact List.getElem_mem _)
      have htk : xs.take (k + 1) = xs.take k ++ [xs.getD k 0] := by rw [List.take_succ_eq_append_getElem hkx, List.getD_eq_getElem?_getD, List.getElem?_eq_getElem hkx]; rfl
      have HTK := Lib.hid (show P ++ xs.take (k + 1) = (P ++ xs.take k) ++ [xs.getD k 0] by rw [htk, List.append_assoc])
      generalize xs.getD k 0 = x at *
      obtain ⟨j, rfl⟩ := Int.eq_ofNat_of_zero_le hrx.1
      have hjm : j < m := by omega
      have hS : Sep wr (BxA ub #[.slice (some ⟨us, 0, none⟩) m m] 76 :: OR boolE (.slice (some ⟨us, 0, none⟩) m m) (usedL m C (P ++ xs.take k)) :: BxA cb #[.slice (some ⟨tb, 0, none⟩) m tc] 113 :: OI (.slice (some ⟨tb, 0, none⟩) m tc) F :: KeepA w0 :: l) := HSX.out
      have HSD := Lib.hid hS.dr
      have hc := HREP.out.c0 (j : Int) (by omega) (by omega)
      obtain ⟨r, hr⟩ := Int.eq_ofNat_of_zero_le hc.1
      have hrm : r < m := by omega
      have HRT := Lib.hid fun W (h : IntsV W (.slice (some ⟨tb, 0, none⟩) m tc) F) => root_any _ F C m j W h HREP.out hjm hm
      rw [hr] at HRT
      have hset := (hS.dr.s2.setBo (usedL_len m C _).symm hrm true).s2
      rw [← usedL_snoc hr hrm, ← HTK.out] at hset
      have HF := Lib.hid (show Sep _ (UseA m ub us cb tb tc F C (P ++ xs.take (k + 1)) ++ KeepA w0 :: l) from hset)
      have hsc := bool_cell hS.dr.tl.hd (usedL_len m C _).symm hrm
      have hsf := bool_free hS.dr.tl.hd (usedL_len m C _).symm r
      have X0 := Lib.hid (And.intro (bx1' HSD.out.hd).1 (bx1' HSD.out.tl.tl.hd).1)
      have X1 := Lib.hid (And.intro (bx1' hset.hd).1 (bx1' hset.tl.tl.hd).1)
      have HRQ := Lib.hid (HRT.out _ (OwnInts.read (show OwnInts 0 wr.drew (.slice (some ⟨tb, 0, none⟩) m tc) F from HSD.out.tl.tl.tl.hd)))
      clear hkx hkeep htk hrx hS hset hc hr
      go_upto_region 3 with fail
      refine AnyL.start (fun w' => w'.cell? ⟨ub, 0, none⟩ = some (.slice (some ⟨us, 0, none⟩) m m) ∧ w'.cell? ⟨cb, 0, none⟩ = some (.slice (some ⟨tb, 0, none⟩) m tc)) (fun _ => True) 99 (by kernel_rfl) ?_
      refine AnyL.take (i := 0) (v := ?vx1) (by rfl) (by kernel_rfl) (by kernel_rfl) (by kernel_rfl) rfl (by exact fun _ _ _ h => h) (by rfl) ?hyx1 (by exact ⟨X0.out, fun _ => trivial⟩) ?restx1
      case hyx1 => intro W hSW; (try dsimp only at hSW); first | (go_simp; done) | (go_simp; with_reducible rfl)
      try simp only [Act.put, List.setIfInBounds_toArray, List.set_cons_zero, List.set_cons_succ]
      refine AnyL.take (i := 1) (v := ?vx2) (by rfl) (by kernel_rfl) (by kernel_rfl) (by kernel_rfl) rfl (by exact fun _ _ _ h => h) (by rfl) ?hyx2 (by exact ⟨X0.out, fun _ => trivial⟩) ?restx2
      case hyx2 => intro W hSW; (try dsimp only at hSW); first | (go_simp; done) | (go_simp; with_reducible rfl)
      try simp only [Act.put, List.setIfInBounds_toArray, List.set_cons_zero, List.set_cons_succ]
      refine AnyL.take (i := 2) (v := ?vx3) (by rfl) (by kernel_rfl) (by kernel_rfl) (by kernel_rfl) rfl (by exact fun _ _ _ h => h) (by rfl) ?hyx3 (by exact ⟨X0.out, fun _ => trivial⟩) ?restx3
      case hyx3 => intro W hSW; (try dsimp only at hSW); first | (go_simp; done) | (go_simp; with_reducible rfl)
      try simp only [Act.put, List.setIfInBounds_toArray, List.set_cons_zero, List.set_cons_succ]
      refine AnyL.step (i := 3) (by kernel_rfl) (by rfl) (fun K hK => ?_)
      go_simp
      go_at_call 87
      with_reducible refine HRQ.out.mono ?_
      rintro e w3 ⟨rfl, rfl⟩
      refine hK.out _ _ (by exact X0.out) (by exact fun _ => trivial) ?_
      clear hK K
      try simp only [Act.put, List.setIfInBounds_toArray, List.set_cons_zero, List.set_cons_succ]
      refine AnyL.take (i := 4) (v := ?vx4) (by rfl) (by kernel_rfl) (by kernel_rfl) (by kernel_rfl) rfl (by exact fun _ _ _ h => h) (by rfl) ?hyx4 (by exact ⟨X0.out, fun _ => trivial⟩) ?restx4
      case hyx4 => intro W hSW; (try dsimp only at hSW); first | (go_simp; done) | (go_simp; with_reducible rfl)
      try simp only [Act.put, List.setIfInBounds_toArray, List.set_cons_zero, List.set_cons_succ]
      refine AnyL.step (i := 5) (by kernel_rfl) (by rfl) (fun K hK => ?_)
      go_simp
      refine hK.out _ _ (by exact X1.out) (by exact fun _ => trivial) ?_
      clear hK K
      try simp only [Act.put, List.setIfInBounds_toArray, List.set_cons_zero, List.set_cons_succ]
      refine AnyL.done (by kernel_rfl) ?_ _
      go_wp2_with fail
      go_roundw
      case rel => exact ⟨k + 1, by omega, by go_num, HF.out⟩
      case measure => simp [intOf]; omega
    · have hkn : k = n := by omega
      subst hkn
      have hs := HSX.out
      rw [List.take_of_length_le (by rw [HN.out]; exact Nat.le_refl _)] at hs
      have HF := Lib.hid (Sep.bag hs)
      clear hs hlt HSX
      go_wp2
      refine bodyPost_end (results_none rfl _ _ _) rfl ?_
      exact ⟨rfl, HF.out⟩
end Go.Proofs.Ytlpgjnjhhgjkmaa

/-
  A graph with other wires, in the program. Conditions: wires are in range; lengths are small.
-/
namespace Go.Proofs.Ytlpgjnjhhgjkmaa
open Go.RowKit
set_option linter.unusedVariables false
set_option maxRecDepth 100000

set_option maxHeartbeats 4000000 in
theorem moved_any (ev iv ov tv : Value) (g : Gr) (n : Int) (ts : List Int) (w : World) (he : RdE edgeE w ev g.es) (hi : IntsV w iv g.i) (ho : IntsV w ov g.o) (ht : IntsV w tv ts) (l0 : g.es.length ≤ 1000) (l1 : g.i.length ≤ 1000000) (l2 : g.o.length ≤ 1000000) (hle : ∀ e ∈ g.es, e.i.length ≤ 1000000 ∧ e.o.length ≤ 1000000) (hr : ∀ x ∈ wiresL g, 0 ≤ x ∧ x < (ts.length : Int)) :
    Calls Try.prog 83 #[grV g.n ev iv ov, .int .i64 n, tv] w fun e w' => ∃ u0 xs u1 u2, e = .returned (grV n u0 u1 u2) ∧ eds xs = g.es.map (mapE ts) ∧ Sep w' [OE u0 xs, OI u1 (g.i.map (ofL ts)), OI u2 (g.o.map (ofL ts)), KeepA w] := by
  have HMI := Lib.hid fun W (h : w.grownBy W none) => mapped_any tv iv ts g.i W (ht.carry h) (hi.carry h) l1 (fun x hx => hr x (by unfold wiresL; simp [hx]))
  have HMO := Lib.hid fun W (h : w.grownBy W none) => mapped_any tv ov ts g.o W (ht.carry h) (ho.carry h) l2 (fun x hx => hr x (by unfold wiresL; simp [hx]))
  have HE := Lib.hid he; have HT := Lib.hid ht; have HR := Lib.hid hr; have HLE := Lib.hid hle
  unfold grV
  obtain ⟨a0, c0, rfl⟩ := he.shape
  obtain ⟨a1, c1, rfl⟩ := hi.shape
  obtain ⟨a2, c2, rfl⟩ := ho.shape
  obtain ⟨ta, tc, rfl⟩ := ht.shape
  clear he hi ho ht hr hle
  obtain ⟨gn, es, is, os⟩ := g
  simp only at HMI HMO HE HR HLE l0 l1 l2 ⊢
  generalize hm : es.length = m at *
  generalize is.length = m1 at *
  generalize os.length = m2 at *
  generalize hm3 : ts.length = m3 at *
  have HM := Lib.hid hm; have HM3 := Lib.hid hm3
  clear hm hm3 l1 l2
  have hs0 := ((Sep.start w).box #[.int .i64 gn, .slice a0 m c0, .slice a1 m1 c1, .slice a2 m2 c2] 29).box #[.int .i64 0, .slice none 0 0, .slice none 0 0, .slice none 0 0] 29
  have e1 : (w.alloc (.cells #[.int .i64 gn, .slice a0 m c0, .slice a1 m1 c1, .slice a2 m2 c2] 29)).heap.size = w.heap.size + 1 := by simp
  rw [e1] at hs0
  have HS0 := Lib.hid hs0
  clear hs0 e1
  go_enter Try.func83, Try.ntmps83
  go_upto_region 1 with fail
  go_cut [7] from 10 to 20 (fun t7 wx => ∃ (ob : Nat) (b1 : Option Addr) (d1 : Nat) (b2 : Option Addr) (d2 : Nat), t7 = .pointer (some ⟨ob, 0, none⟩) ∧ Sep wx [BxA ob #[.int .i64 n, .slice none 0 0, .slice b1 m1 d1, .slice b2 m2 d2] 29, OI (.slice b1 m1 d1) (is.map (ofL ts)), OI (.slice b2 m2 d2) (os.map (ofL ts)), BxA (w.heap.size + 1) #[.int .i64 0, .slice none 0 0, .slice none 0 0, .slice none 0 0] 29, BxA w.heap.size #[.int .i64 gn, .slice a0 m c0, .slice a1 m1 c1, .slice a2 m2 c2] 29, KeepA w])
  case first =>
    have hs1 := HS0.out.dr
    have HS1 := Lib.hid hs1
    have hs1a := (HS0.out.box #[.int .i64 0, .slice none 0 0, .slice none 0 0, .slice none 0 0] 29).dr
    rw [show ((w.alloc (.cells #[.int .i64 gn, .slice a0 m c0, .slice a1 m1 c1, .slice a2 m2 c2] 29)).alloc (.cells #[.int .i64 0, .slice none 0 0, .slice none 0 0, .slice none 0 0] 29)).heap.size = w.heap.size + 1 + 1 by simp] at hs1a
    have HS1a := Lib.hid hs1a
    have HK1 := Lib.hid (show w.grownBy _ none from hs1.tl.tl.hd)
    have HK1a := Lib.hid (show w.grownBy _ none from hs1a.tl.tl.tl.hd)
    obtain ⟨x0, x1, x2, x3, _⟩ := bq4 hs1.tl.hd
    obtain ⟨y0, y1, y2, y3, _⟩ := bq4 hs1a.tl.tl.hd
    clear hs1 hs1a
    go_region_law (first
      | (try go_simp
         go_at_call 101
         with_reducible refine (HMI.out _ HK1.out).mono ?_
         rintro e w2 ⟨b1, d1, rfl, hsg⟩
         have HS2 := Lib.hid (HS1.out.graft1 hsg OI_own)
         have HK2 := Lib.hid (show w.grownBy _ none from HS2.out.tl.tl.tl.hd)
         obtain ⟨p0, p1, p2, p3, _⟩ := bq4 HS2.out.tl.tl.hd
         have hs2b := HS2.out.box #[.int .i64 0, .slice none 0 0, .slice none 0 0, .slice none 0 0] 29
         have HS2b := Lib.hid hs2b
         have HK2b := Lib.hid (show w.grownBy _ none from hs2b.tl.tl.tl.tl.hd)
         obtain ⟨r0, r1, r2, r3, _⟩ := bq4 hs2b.tl.tl.tl.hd
         clear hsg hs2b)
      | (try go_simp
         go_at_call 101
         with_reducible refine (HMI.out _ HK1a.out).mono ?_
         rintro e w2 ⟨b1, d1, rfl, hsg⟩
         have HS2a := Lib.hid (HS1a.out.graft1 hsg OI_own)
         have HK2a := Lib.hid (show w.grownBy _ none from HS2a.out.tl.tl.tl.tl.hd)
         obtain ⟨p0, p1, p2, p3, _⟩ := bq4 HS2a.out.tl.tl.tl.hd
         clear hsg)
      | (try go_simp
         go_at_call 101
         with_reducible refine (HMO.out _ HK2.out).mono ?_
         rintro e w3 ⟨b2, d2, rfl, hsg⟩
         have HS3 := Lib.hid (HS2.out.graft1 hsg OI_own)
         have hs3 := (HS3.out).box #[.int .i64 n, .slice none 0 0, .slice b1 m1 d1, .slice b2 m2 d2] 29
         have HSF := Lib.hid (hs3.under (fun h => h.s2) (by simp +contextual [or_assoc, or_comm, or_left_comm]))
         clear hsg hs3)
      | (try go_simp
         go_at_call 101
         with_reducible refine (HMO.out _ HK2a.out).mono ?_
         rintro e w3 ⟨b2, d2, rfl, hsg⟩
         have hs3 := (HS2a.out.graft1 hsg OI_own).s3
         obtain ⟨q0, q1, q2, q3, q4, q5⟩ := bq4 hs3.hd
         have hs4 := (((hs3.setB 0 (.int .i64 n)).setB 1 (.slice none 0 0)).setB 2 (.slice b1 m1 d1)).setB 3 (.slice b2 m2 d2)
         have HSF := Lib.hid (hs4.under (fun h => h.s2) (by simp +contextual [or_assoc, or_comm, or_left_comm]))
         clear hsg hs3 hs4)
      | (try go_simp
         go_at_call 101
         with_reducible refine (HMO.out _ HK2b.out).mono ?_
         rintro e w3 ⟨b2, d2, rfl, hsg⟩
         have hs3 := (HS2b.out.graft1 hsg OI_own).s2
         obtain ⟨q0, q1, q2, q3, q4, q5⟩ := bq4 hs3.hd
         have hs4 := (((hs3.setB 0 (.int .i64 n)).setB 1 (.slice none 0 0)).setB 2 (.slice b1 m1 d1)).setB 3 (.slice b2 m2 d2)
         have HSF := Lib.hid (hs4.under (fun h => h.s2) (by simp +contextual [or_assoc, or_comm, or_left_comm]))
         clear hsg hs3 hs4))
    all_goals
      go_wp2_with fail
      go_meet
      exact ⟨_, b1, d1, b2, d2, rfl, HSF.out⟩
  case rest =>
    obtain ⟨ob, b1, d1, b2, d2, rfl, hs⟩ := hcut
    have HS := Lib.hid hs
    obtain ⟨x0, x1, x2, x3, _⟩ := bq4 hs.hd
    obtain ⟨y0, y1, y2, y3, _⟩ := bq4 hs.tl.tl.tl.tl.hd
    clear hs HS0 HMI HMO
    go_wp2_with fail
    go_loopw [9, 23] (fun _ i wr => ∃ (k : Nat) (e1 : Option Addr) (f1 : Nat) (xs : List XE), k ≤ m ∧ i = .int .i64 k ∧ xs.length = k ∧ eds xs = (es.take k).map (mapE ts) ∧ Sep wr [BxA ob #[.int .i64 n, .slice e1 k f1, .slice b1 m1 d1, .slice b2 m2 d2] 29, OR edgeE (.slice e1 k f1) xs, Bag (rowsE xs), OI (.slice b1 m1 d1) (is.map (ofL ts)), OI (.slice b2 m2 d2) (os.map (ofL ts)), BxA (w.heap.size + 1) #[.int .i64 0, .slice none 0 0, .slice none 0 0, .slice none 0 0] 29, KeepA w]) (fun _ i _ => m - (intOf i).toNat)
    case atStart => exact ⟨0, none, 0, [], by omega, rfl, rfl, rfl, ((HS.out.under (fun h => h.under (fun h => h.under (fun h => h.drop2) (by simp +contextual)) (by simp +contextual)) (by simp +contextual)).noBag.nilR edgeE).s3⟩
    case round =>
      obtain ⟨k, e1, f1, xs, hk, rfl, hxl, hxe, hs⟩ := hrel
      have HSX := Lib.hid hs; have HXL := Lib.hid hxl; have HXE := Lib.hid hxe
      have HKX := Lib.hid (show w.grownBy wr none from hs.tl.tl.tl.tl.tl.tl.hd)
      obtain ⟨x0, x1, x2, x3, _⟩ := bq4 hs.hd
      clear hs hxl hxe HS
      by_cases hlt : k < m
      · have hke : k < es.length := by rw [HM.out]; exact hlt
        have hye : es.getD k e0 ∈ es := by rw [List.getD_eq_getElem?_getD, List.getElem?_eq_getElem hke]; exact List.getElem_mem _
        obtain ⟨eb, eo, iv, ov, rfl, _, q0, q1, q2, q3, hiv, hov⟩ := (HE.out.carry HKX.out).at rfl rfl hke
        have hlm := HLE.out _ hye
        have HMI := Lib.hid fun W (h : wr.grownBy W none) => mapped_any _ iv ts (es.getD k e0).i W (HT.out.carry (grownBy_trans HKX.out h)) (hiv.carry h) hlm.1 (fun x hx => by rw [HM3.out]; exact HR.out x ((wires_edge hye).1 hx))
        have HMO := Lib.hid fun W (h : wr.grownBy W none) => mapped_any _ ov ts (es.getD k e0).o W (HT.out.carry (grownBy_trans HKX.out h)) (hov.carry h) hlm.2 (fun x hx => by rw [HM3.out]; exact HR.out x ((wires_edge hye).2 hx))
        have HTK := Lib.hid (map_take ts hke)
        have HXN := Lib.hid (show ∀ x : XE, x.ed = mapE ts (es.getD k e0) → eds (xs ++ [x]) = (es.take (k + 1)).map (mapE ts) from fun x hx => by rw [eds_snoc, hx, HTK.out, HXE.out])
        generalize es.getD k e0 = y at *
        obtain ⟨yk, yv, yi, yo⟩ := y
        simp only at q0 q1 HMI HMO
        obtain ⟨s1, r1, rfl⟩ := hiv.shape
        obtain ⟨s2, r2, rfl⟩ := hov.shape
        simp only at q2 q3
        clear hke hye hiv hov hlm
        generalize yi.length = n1 at *
        generalize yo.length = n2 at *
        have hsb := (HSX.out.box #[.int .i64 yk, .int .i64 yv, .slice s1 n1 r1, .slice s2 n2 r2] 69)
        have HSD := Lib.hid hsb.dr
        have HKD := Lib.hid (show wr.grownBy (wr.alloc (.cells #[.int .i64 yk, .int .i64 yv, .slice s1 n1 r1, .slice s2 n2 r2] 69)).drew none from grownBy_trans (gr1 wr _) ⟨rfl, rfl, rfl, Nat.le_refl _, fun _ _ _ => rfl⟩)
        have t1 := (bq4 hsb.tl.hd).2.1
        have t1d := (bq4 hsb.dr.tl.hd).2.1
        clear hsb
        go_upto_region 5 with fail
        have hxb : ∃ xb, xb = wr.heap.size := ⟨_, rfl⟩
        obtain ⟨xb, hxb⟩ := hxb
        have SX := Lib.hid fun (W : World) (l : List Asrt) (h : Sep W (BxA wr.heap.size #[.int .i64 yk, .int .i64 yv, .slice s1 n1 r1, .slice s2 n2 r2] 69 :: l)) => And.intro (bq4 h.hd).1 (And.intro (bq4 h.hd).2.1 (And.intro (bq4 h.hd).2.2.1 (bq4 h.hd).2.2.2.1))
        have X0 := Lib.hid (SX.out _ _ HSD.out)
        rw [← hxb] at SX X0 HSD
        clear q0 q1 q2 q3 x0 x1 x2 x3
        simp only [← hxb]
        clear hxb
        generalize wr.alloc (.cells #[.int .i64 yk, .int .i64 yv, .slice s1 n1 r1, .slice s2 n2 r2] 69) = wx at *
        refine AnyL.start (fun w' => w'.cell? ⟨xb, 0, none⟩ = some (.int .i64 yk) ∧ w'.cell? ⟨xb, 1, none⟩ = some (.int .i64 yv) ∧ w'.cell? ⟨xb, 2, none⟩ = some (.slice s1 n1 r1) ∧ w'.cell? ⟨xb, 3, none⟩ = some (.slice s2 n2 r2)) (fun w' => w'.cell? ⟨ob, 1, none⟩ = some (.slice e1 k f1)) 16 (by kernel_rfl) ?_
        refine AnyL.take (i := 0) (v := ?vx1) (by rfl) (by kernel_rfl) (by kernel_rfl) (by kernel_rfl) rfl (by exact fun _ _ _ h => h) (by rfl) ?hyx1 (by exact ⟨X0.out, fun _ => t1d⟩) ?restx1
        case hyx1 => intro W hSW; (try dsimp only at hSW); first | (go_simp; done) | (go_simp; with_reducible rfl)
        try simp only [Act.put, List.setIfInBounds_toArray, List.set_cons_zero, List.set_cons_succ]
        refine AnyL.takeA (i := 1) (v := ?vx2) (by rfl) (by kernel_rfl) (by kernel_rfl) (by kernel_rfl) rfl (by rfl) (by kernel_rfl) (by kernel_rfl) (by exact fun _ _ _ h => h) (by rfl) ?hyx2 (by exact ⟨X0.out, fun _ => t1d⟩) ?restx2
        case hyx2 => intro W hSW; (try dsimp only at hSW); first | (go_simp; done) | (go_simp; with_reducible rfl)
        try simp only [Act.put, List.setIfInBounds_toArray, List.set_cons_zero, List.set_cons_succ]
        refine AnyL.take (i := 2) (v := ?vx3) (by rfl) (by kernel_rfl) (by kernel_rfl) (by kernel_rfl) rfl (by exact fun _ _ _ h => h) (by rfl) ?hyx3 (by exact ⟨X0.out, fun _ => t1d⟩) ?restx3
        case hyx3 => intro W hSW; (try dsimp only at hSW); first | (go_simp; done) | (go_simp; with_reducible rfl)
        try simp only [Act.put, List.setIfInBounds_toArray, List.set_cons_zero, List.set_cons_succ]
        refine AnyL.take (i := 3) (v := ?vx4) (by rfl) (by kernel_rfl) (by kernel_rfl) (by kernel_rfl) rfl (by exact fun _ _ _ h => h) (by rfl) ?hyx4 (by exact ⟨X0.out, fun _ => t1d⟩) ?restx4
        case hyx4 => intro W hSW; (try dsimp only at hSW); first | (go_simp; done) | (go_simp; with_reducible rfl)
        try simp only [Act.put, List.setIfInBounds_toArray, List.set_cons_zero, List.set_cons_succ]
        refine AnyL.take (i := 4) (v := ?vx5) (by rfl) (by kernel_rfl) (by kernel_rfl) (by kernel_rfl) rfl (by exact fun _ _ _ h => h) (by rfl) ?hyx5 (by exact ⟨X0.out, fun _ => t1d⟩) ?restx5
        case hyx5 => intro W hSW; (try dsimp only at hSW); first | (go_simp; done) | (go_simp; with_reducible rfl)
        try simp only [Act.put, List.setIfInBounds_toArray, List.set_cons_zero, List.set_cons_succ]
        refine AnyL.take (i := 5) (v := ?vx6) (by rfl) (by kernel_rfl) (by kernel_rfl) (by kernel_rfl) rfl (by exact fun _ _ _ h => h) (by rfl) ?hyx6 (by exact ⟨X0.out, fun _ => t1d⟩) ?restx6
        case hyx6 => intro W hSW; (try dsimp only at hSW); first | (go_simp; done) | (go_simp; with_reducible rfl)
        try simp only [Act.put, List.setIfInBounds_toArray, List.set_cons_zero, List.set_cons_succ]
        refine AnyL.take (i := 6) (v := ?vx7) (by rfl) (by kernel_rfl) (by kernel_rfl) (by kernel_rfl) rfl (by exact fun _ _ _ h => h) (by rfl) ?hyx7 (by exact ⟨X0.out, fun _ => t1d⟩) ?restx7
        case hyx7 => intro W hSW; (try dsimp only at hSW); first | (go_simp; done) | (go_simp; with_reducible rfl)
        try simp only [Act.put, List.setIfInBounds_toArray, List.set_cons_zero, List.set_cons_succ]
        refine AnyL.take (i := 7) (v := ?vx8) (by rfl) (by kernel_rfl) (by kernel_rfl) (by kernel_rfl) rfl (by exact fun _ _ _ h => h) (by rfl) ?hyx8 (by exact ⟨X0.out, fun _ => t1d⟩) ?restx8
        case hyx8 => intro W hSW; (try dsimp only at hSW); first | (go_simp; done) | (go_simp; with_reducible rfl)
        try simp only [Act.put, List.setIfInBounds_toArray, List.set_cons_zero, List.set_cons_succ]
        refine AnyL.take (i := 8) (v := ?vx9) (by rfl) (by kernel_rfl) (by kernel_rfl) (by kernel_rfl) rfl (by exact fun _ _ _ h => h) (by rfl) ?hyx9 (by exact ⟨X0.out, fun _ => t1d⟩) ?restx9
        case hyx9 => intro W hSW; (try dsimp only at hSW); first | (go_simp; done) | (go_simp; with_reducible rfl)
        try simp only [Act.put, List.setIfInBounds_toArray, List.set_cons_zero, List.set_cons_succ]
        refine AnyL.take (i := 10) (v := ?vx10) (by rfl) (by kernel_rfl) (by kernel_rfl) (by kernel_rfl) rfl (by exact fun _ _ _ h => h) (by rfl) ?hyx10 (by exact ⟨X0.out, fun _ => t1d⟩) ?restx10
        case hyx10 => intro W hSW; (try dsimp only at hSW); first | (go_simp; done) | (go_simp; with_reducible rfl)
        try simp only [Act.put, List.setIfInBounds_toArray, List.set_cons_zero, List.set_cons_succ]
        refine AnyL.take (i := 11) (v := ?vx11) (by rfl) (by kernel_rfl) (by kernel_rfl) (by kernel_rfl) rfl (by exact fun _ _ _ h => h) (by rfl) ?hyx11 (by exact ⟨X0.out, fun _ => t1d⟩) ?restx11
        case hyx11 => intro W hSW; (try dsimp only at hSW); first | (go_simp; done) | (go_simp; with_reducible rfl)
        try simp only [Act.put, List.setIfInBounds_toArray, List.set_cons_zero, List.set_cons_succ]
        refine AnyL.take (i := 12) (v := ?vx12) (by rfl) (by kernel_rfl) (by kernel_rfl) (by kernel_rfl) rfl (by exact fun _ _ _ h => h) (by rfl) ?hyx12 (by exact ⟨X0.out, fun _ => t1d⟩) ?restx12
        case hyx12 => intro W hSW; (try dsimp only at hSW); first | (go_simp; done) | (go_simp; with_reducible rfl)
        try simp only [Act.put, List.setIfInBounds_toArray, List.set_cons_zero, List.set_cons_succ]
        refine AnyL.step (i := 9) (by kernel_rfl) (by rfl) (fun K hK => ?_)
        go_simp
        go_at_call 101
        with_reducible refine (HMI.out _ HKD.out).mono ?_
        rintro e w2 ⟨b3, d3, rfl, hsg⟩
        have HS2 := Lib.hid (HSD.out.graft1 hsg OI_own)
        have X2 := Lib.hid (SX.out _ _ HS2.out.tl)
        have HK2 := Lib.hid (show wr.grownBy w2 none from grownBy_trans HKD.out hsg.tl.hd)
        have t1a := (bq4 HS2.out.tl.tl.hd).2.1
        clear hsg
        refine hK.out _ _ (by exact X2.out) (by exact fun _ => t1a) ?_
        clear hK K
        try simp only [Act.put, List.setIfInBounds_toArray, List.set_cons_zero, List.set_cons_succ]
        refine AnyL.step (i := 13) (by kernel_rfl) (by rfl) (fun K hK => ?_)
        go_simp
        go_at_call 101
        with_reducible refine (HMO.out _ HK2.out).mono ?_
        rintro e w3 ⟨b4, d4, rfl, hsg⟩
        have HS3 := Lib.hid (HS2.out.graft1 hsg OI_own)
        have X3 := Lib.hid (SX.out _ _ HS3.out.tl.tl)
        have Y3 := Lib.hid fun ob' => SX.out _ _ (HS3.out.al ob').tl.tl
        have t1b := (bq4 HS3.out.tl.tl.tl.hd).2.1
        have t1c := fun ob' => (bq4 (HS3.out.al ob').tl.tl.tl.hd).2.1
        clear hsg
        refine hK.out _ _ (by exact X3.out) (by exact fun _ => t1b) ?_
        clear hK K
        try simp only [Act.put, List.setIfInBounds_toArray, List.set_cons_zero, List.set_cons_succ]
        refine AnyL.take (i := 14) (v := ?vx13) (by rfl) (by kernel_rfl) (by kernel_rfl) (by kernel_rfl) rfl (by exact fun _ _ _ h => h) (by rfl) ?hyx13 (by exact ⟨X3.out, fun _ => t1b⟩) ?restx13
        case hyx13 => intro W hSW; (try dsimp only at hSW); first | (go_simp; done) | (go_simp; with_reducible rfl)
        try simp only [Act.put, List.setIfInBounds_toArray, List.set_cons_zero, List.set_cons_succ]
        refine AnyL.step (i := 15) (by kernel_rfl) (by rfl) (fun K hK => ?_)
        go_simp
        refine hK.out _ _ (by exact Y3.out _) (by exact fun _ => t1c _) ?_
        clear hK K
        try simp only [Act.put, List.setIfInBounds_toArray, List.set_cons_zero, List.set_cons_succ]
        refine AnyL.step (i := 16) (by kernel_rfl) (by rfl) (fun K hK => ?_)
        refine step_app_RG (E := edgeE) (y := ⟨⟨yk, yv, yi.map (ofL ts), yo.map (ofL ts)⟩, .slice b3 n1 d3, .slice b4 n2 d4⟩) info_edge rfl (by decide) Try.underlying27 (edge_one _ _ _ _ _ _ _) rfl (.tmp 28) (.tmp 42) rfl rfl rfl (by simp) rfl (HS3.out.s5) (by rw [HXL.out]; omega) ?_
        intro g c w4 h4
        rw [HXL.out] at h4 ⊢
        have X4 := Lib.hid (SX.out _ _ h4.tl.tl.tl)
        have X5 := Lib.hid (SX.out _ _ (h4.s5.setB 1 (.slice (some ⟨g, 0, none⟩) (k + 1) c)).tl.tl.tl.tl)
        have h5 := h4.edgeIn
        rw [← rowsE_snoc xs ⟨⟨yk, yv, yi.map (ofL ts), yo.map (ofL ts)⟩, .slice b3 n1 d3, .slice b4 n2 d4⟩] at h5
        obtain ⟨u0, u1, u2, u3, u4, u5, _⟩ := bq4 h5.hd
        have HS5 := Lib.hid (h5.setB 1 (.slice (some ⟨g, 0, none⟩) (k + 1) c))
        clear h4 h5
        refine hK.out _ _ (by exact X4.out) (by exact fun h => noTF (by kernel_rfl) h) ?_
        clear hK K
        try simp only [Act.put, List.setIfInBounds_toArray, List.set_cons_zero, List.set_cons_succ]
        refine AnyL.take (i := 17) (v := ?vx14) (by rfl) (by kernel_rfl) (by kernel_rfl) (by kernel_rfl) rfl (by exact fun _ _ _ h => h) (by rfl) ?hyx14 (by exact ⟨X4.out, fun h => noTF (by kernel_rfl) h⟩) ?restx14
        case hyx14 => intro W hSW; (try dsimp only at hSW); first | (go_simp; done) | (go_simp; with_reducible rfl)
        try simp only [Act.put, List.setIfInBounds_toArray, List.set_cons_zero, List.set_cons_succ]
        refine AnyL.step (i := 18) (by kernel_rfl) (by rfl) (fun K hK => ?_)
        go_simp
        refine hK.out _ _ (by exact X5.out) (by exact fun h => noTF (by kernel_rfl) h) ?_
        clear hK K
        try simp only [Act.put, List.setIfInBounds_toArray, List.set_cons_zero, List.set_cons_succ]
        refine AnyL.done (by kernel_rfl) ?_ _
        all_goals
          go_wp2_with fail
          go_roundw
          case rel => exact ⟨k + 1, some ⟨g, 0, none⟩, c, xs ++ [(⟨⟨yk, yv, yi.map (ofL ts), yo.map (ofL ts)⟩, .slice b3 n1 d3, .slice b4 n2 d4⟩ : XE)], by omega, by go_num, by rw [List.length_append, HXL.out]; rfl, HXN.out ⟨⟨yk, yv, yi.map (ofL ts), yo.map (ofL ts)⟩, .slice b3 n1 d3, .slice b4 n2 d4⟩ rfl, HS5.out⟩
          case measure => simp [intOf]; omega
      · have hkm : k = m := by omega
        subst hkm
        have hxe := HXE.out
        rw [List.take_of_length_le (by rw [HM.out]; exact Nat.le_refl _)] at hxe
        have HXF := Lib.hid hxe
        have hs1 := HSX.out.tl.s5
        obtain ⟨r0, r1, r2, r3, r4, r5⟩ := bq4 hs1.hd
        have hs2 := (((hs1.setB 0 (.int .i64 n)).setB 1 (.slice e1 k f1)).setB 2 (.slice b1 m1 d1)).setB 3 (.slice b2 m2 d2)
        obtain ⟨k0, k1, k2, k3, _⟩ := bq4 hs2.hd
        have HF := Lib.hid hs2.tl.intoBag
        clear hs1 hs2 hxe hlt
        go_wp2_with fail
        refine bodyPost_ret_by (v := .agg #[.int .i64 n, .slice e1 k f1, .slice b1 m1 d1, .slice b2 m2 d2]) ?_ rfl ⟨_, xs, _, _, rfl, HXF.out, HF.out⟩
        simp [results, go_sem, *]
end Go.Proofs.Ytlpgjnjhhgjkmaa

/-
  What the frames of the exact laws share. Conditions: none.
-/
import Derived.Test.YtlpgjnjhhgjkmaaDoorCards
import Derived.Test.YtlpgjnjhhgjkmaaDoorTie
import Derived.Test.YtlpgjnjhhgjkmaaDoorBa01
import Derived.WalkKit
import Derived.ProofKit
import Derived.OpenShut
import Derived.ShutString
import Derived.ChangeOld
import Derived.OpenVars
import Derived.Below
import Derived.Deep.DeepHandedRow
import Derived.Lib.LaidTab
import Derived.Test.YtlpgjnjhhgjkmaaDoorBa00
import Derived.Deep.RegionHeld
import Derived.Test.YtlpgjnjhhgjkmaaDoorBa05
import Derived.Test.YtlpgjnjhhgjkmaaDoorBa02
import Derived.Test.YtlpgjnjhhgjkmaaDoorBa06
namespace Go.Proofs.YtlpgjnjhhgjkmaaDoor
open Go.ChangeShapes Go.WideShapes Go.ChangeAt Go.RowKit

theorem own : ownKnob Tryd.prog.godebug = none := by kernel_rfl
theorem laidOut : laidOutB Tryd.prog = true := by kernel_rfl
theorem gTab : Tryd.prog.globalNamed "loop.example/g01073/impl.smallPrimes" = some 0 := by kernel_rfl
theorem gTabType : (Tryd.prog.globals[0]?).map (·.type) = some 86 := by kernel_rfl
theorem cellsTab : Tryd.prog.cellsOf 86 = 4 := by kernel_rfl
theorem cellsInt : Tryd.prog.cellsOf 3 = 1 := by kernel_rfl
theorem below_of_grown {w w' : World} (h : w.grownBy w' none) : Below w.heap.size w w' := ⟨h.os, h.tape, h.output, h.size, fun k hk => h.block k hk (by simp)⟩
end Go.Proofs.YtlpgjnjhhgjkmaaDoor

/-
  A region that draws its order, walked in one order: an operation may be taken first where what it reads is kept till it has come up. Conditions: as each says.
-/
namespace Go.Proofs.YtlpgjnjhhgjkmaaDoor
open Go.RowKit
set_option linter.unusedVariables false
set_option maxRecDepth 100000

section
variable {P : Program} {ops : Array Oper} {Q : Exit → Act → World → Prop} {md : Region.Mode} {Se Sa : World → Prop} {ap : Nat}
/-- Whatever order is picked: Se holds behind every operation, Sa till operation ap has come up. -/
def AnyL (P : Program) (md : Region.Mode) (ops : Array Oper) (Q : Exit → Act → World → Prop) (Se Sa : World → Prop) (ap : Nat) : Nat → Array Bool → Act → World → Prop
  | 0, listed, a, w => Region.ready md ops listed = [] ∧ Q .normal a w
  | fuel + 1, listed, a, w =>
    (Region.ready md ops listed = [] → Q .normal a w) ∧
    ∀ i ∈ Region.ready md ops listed, wpOp P ops Q i (fun a' w' => (Se w' ∧ ((listed.setIfInBounds i true).getD ap true = false → Sa w')) ∧ AnyL P md ops Q Se Sa ap fuel (listed.setIfInBounds i true) a' w') a w
theorem noTF {b : Bool} {p : Prop} (h1 : b = true) (h : b = false) : p := by rw [h1] at h; cases h
theorem op_at {ops : Array Oper} {i : Nat} {oi : Oper} {r : List Oper} (h : ops.toList.drop i = oi :: r) : ops[i]? = some oi := by
  have h1 : (ops.toList.drop i)[0]? = some oi := by rw [h]; rfl
  rw [List.getElem?_drop] at h1
  simpa using h1
theorem any_of_L : ∀ (fuel : Nat) (listed : Array Bool) (a : Act) (w : World), AnyL P md ops Q Se Sa ap fuel listed a w → wpAny P md ops Q fuel listed a w
  | 0, _, _, _, h => h
  | fuel + 1, _, _, _, h => ⟨h.1, fun i hi => wpOp_mono (fun a' w' h' => any_of_L fuel _ a' w' h'.2) (h.2 i hi)⟩
theorem AnyL.first {i : Nat} {oi : Oper} {v : Value} {C : World → Prop} (hi : ops[i]? = some oi) (hsel : ∀ (j : Nat) (o : Oper) cs b, ops[j]? = some o → o.op ≠ .select cs b)
    (hQ : ∀ c a w, Q (.panic c) (a.put oi.dst v) w → Q (.panic c) a w) (G : Array Bool → Prop)
    (hG : ∀ listed j, G listed → listed.getD i true = false → j ∈ Region.ready md ops listed → j ≠ i → G (listed.setIfInBounds j true))
    (hC : ∀ listed w, G listed → Se w → (listed.getD ap true = false → Sa w) → C w) (hia : i ≠ ap) :
    ∀ (fuel : Nat) (listed : Array Bool) (a : Act) (w : World), G listed →
      (∀ j oj, ops[j]? = some oj → j ≠ i → listed.getD j true = false → (∀ e ∈ oj.after, Region.binds md e = true → e.on ≠ i) → oi.apart ops oj = true) →
      i ∈ Region.ready md ops listed → YieldsIf P ops C oi v a → Se w → (listed.getD ap true = false → Sa w) →
      AnyL P md ops Q Se Sa ap fuel (listed.setIfInBounds i true) (a.put oi.dst v) w → AnyL P md ops Q Se Sa ap (fuel + 1) listed a w := by
  intro fuel
  induction fuel with
  | zero =>
    intro listed a w hg _ hr hy hS hA H
    refine ⟨fun h => (by rw [h] at hr; cases hr), fun j hj => ?_⟩
    by_cases hji : j = i
    · subst hji; exact hy.wpOp hi (hC _ _ hg hS hA) ⟨⟨hS, by rw [getD_set_ne true hia]; exact hA⟩, H⟩
    · have := ready_mono hj hji
      rw [H.1] at this
      cases this
  | succ fuel ih =>
    intro listed a w hg hfree hr hy hS hA H
    refine ⟨fun h => (by rw [h] at hr; cases hr), fun j hj => ?_⟩
    by_cases hji : j = i
    · subst hji; exact hy.wpOp hi (hC _ _ hg hS hA) ⟨⟨hS, by rw [getD_set_ne true hia]; exact hA⟩, H⟩
    · have h1 := H.2 j (ready_mono hj hji)
      have hun := (mem_ready.1 hr).1
      obtain ⟨hjun, oj, hoj, hall⟩ := mem_ready.1 hj
      have hnot : ∀ e ∈ oj.after, Region.binds md e = true → e.on ≠ i := fun e he hb heq => by
        have h1 := hall e he hb
        have h0 := hun
        rw [heq] at h1
        rcases Nat.lt_or_ge i listed.size with h' | h'
        · simp [h'] at h0 h1; rw [h0] at h1; cases h1
        · simp [Array.getElem?_eq_none h'] at h1
      have h2 := wpOp_putIf hoj (hfree j oj hoj hji hjun hnot) (fun cs b => hsel i oi cs b hi) (fun cs b => hsel j oj cs b hoj) hQ hy h1
      have hfree' : ∀ k ok, ops[k]? = some ok → k ≠ i → (listed.setIfInBounds j true).getD k true = false →
          (∀ e ∈ ok.after, Region.binds md e = true → e.on ≠ i) → oi.apart ops ok = true := fun k ok hk hki hun hno => by
        refine hfree k ok hk hki ?_ hno
        by_cases hjk : j = k
        · subst hjk; exact hjun
        · rw [getD_set_ne true hjk] at hun; exact hun
      refine wpOp_mono (fun a' w' h3 => ?_) h2
      have hA' : (listed.setIfInBounds j true).getD ap true = false → Sa w' := fun h => h3.2.1.2 (by
        rw [Array.setIfInBounds_comm _ _ (Ne.symm hji), getD_set_ne true hia]; exact h)
      refine ⟨⟨h3.2.1.1, hA'⟩, ih (listed.setIfInBounds j true) a' w' (hG listed j hg hun hj hji) hfree' (ready_mono hr (Ne.symm hji)) h3.1 h3.2.1.1 hA' ?_⟩
      rw [Array.setIfInBounds_comm _ _ hji]
      exact h3.2.2
/-- Take number i first: what it reads holds throughout. -/
theorem AnyL.take {i : Nat} {oi : Oper} {v : Value} {fuel : Nat} {listed : Array Bool} {a : Act} {w : World} {r : List Oper} (hi' : ops.toList.drop i = oi :: r)
    (hs : Region.noSelect ops = true) (hf : Region.free md ops listed i = true) (hr : (Region.ready md ops listed).contains i = true) (hia : (i == ap) = false)
    (hQ : ∀ c a w, Q (.panic c) (a.put oi.dst v) w → Q (.panic c) a w) (hw : Region.wanted oi (yielded ops a.tmps) = true) (hy : ∀ w, Se w → (execOp a.eval oi).run P w = .ok (.value v) w) (hS : Se w ∧ (listed.getD ap true = false → Sa w))
    (h : AnyL P md ops Q Se Sa ap fuel (listed.setIfInBounds i true) (a.put oi.dst v) w) : AnyL P md ops Q Se Sa ap (fuel + 1) listed a w :=
  have hi := op_at hi'
  AnyL.first (C := Se) hi (Region.noSelect_spec hs) hQ (fun _ => True) (fun _ _ _ _ _ _ => trivial) (fun _ _ _ h _ => h) (by simpa using hia) fuel listed a w trivial (Region.free_spec hi hf) (by simpa using hr) (Or.inl ⟨hw, hy⟩) hS.1 hS.2 h
/-- Take number i first: what it reads holds till ap has come up, and ap waits for it. -/
theorem AnyL.takeA {i : Nat} {oi oa : Oper} {v : Value} {fuel : Nat} {listed : Array Bool} {a : Act} {w : World} {r : List Oper} (hi' : ops.toList.drop i = oi :: r)
    (hs : Region.noSelect ops = true) (hf : Region.free md ops listed i = true) (hr : (Region.ready md ops listed).contains i = true) (hia : (i == ap) = false)
    {r2 : List Oper} (ha' : ops.toList.drop ap = oa :: r2) (hed : (oa.after.any fun e => Region.binds md e && e.on == i) = true) (hun : listed.getD ap true = false)
    (hQ : ∀ c a w, Q (.panic c) (a.put oi.dst v) w → Q (.panic c) a w) (hw : Region.wanted oi (yielded ops a.tmps) = true) (hy : ∀ w, Sa w → (execOp a.eval oi).run P w = .ok (.value v) w) (hS : Se w ∧ (listed.getD ap true = false → Sa w))
    (h : AnyL P md ops Q Se Sa ap fuel (listed.setIfInBounds i true) (a.put oi.dst v) w) : AnyL P md ops Q Se Sa ap (fuel + 1) listed a w := by
  have hi := op_at hi'
  refine AnyL.first (C := Sa) hi (Region.noSelect_spec hs) hQ (fun l => l.getD ap true = false) (fun l j hg hu hj hji => ?_) (fun _ _ hg _ h => h hg) (by simpa using hia) fuel listed a w hun (Region.free_spec hi hf) (by simpa using hr) (Or.inl ⟨hw, hy⟩) hS.1 hS.2 h
  by_cases hja : j = ap
  · exfalso
    subst hja
    obtain ⟨_, o, ho, hall⟩ := mem_ready.1 hj
    rw [op_at ha'] at ho
    cases ho
    obtain ⟨e, he, hb⟩ := Array.any_eq_true'.1 hed
    simp only [Bool.and_eq_true, beq_iff_eq] at hb
    have h1 := hall e he hb.1
    rw [hb.2] at h1
    rcases Nat.lt_or_ge i l.size with h' | h'
    · simp [h'] at hu h1; rw [hu] at h1; cases h1
    · simp [Array.getElem?_eq_none h'] at h1
  · show (l.setIfInBounds j true).getD ap true = false
    rw [getD_set_ne true hja]
    exact hg
/-- The one operation that may come up now is carried out. -/
theorem AnyL.step {i : Nat} {oi : Oper} {fuel : Nat} {listed : Array Bool} {a : Act} {w : World} {r : List Oper} (hr : Region.ready md ops listed = [i]) (hi' : ops.toList.drop i = oi :: r)
    (h : ∀ K' : Act → World → Prop, Shut (∀ a' w', Se w' → ((listed.setIfInBounds i true).getD ap true = false → Sa w') → AnyL P md ops Q Se Sa ap fuel (listed.setIfInBounds i true) a' w' → K' a' w') → if Region.wanted oi (yielded ops a.tmps) = true then Oper.wp P oi a w K' Q else K' (a.put oi.dst undef) w) :
    AnyL P md ops Q Se Sa ap (fuel + 1) listed a w := by
  refine ⟨fun h0 => (by rw [hr] at h0; cases h0), fun j hj => ?_⟩
  rw [hr] at hj
  have hji : j = i := by simpa using hj
  subst hji
  exact wpOp_step (op_at hi') fun K' hK => h K' fun a w h1 h2 h3 => hK a w ⟨⟨h1, h2⟩, h3⟩
theorem AnyL.done {listed : Array Bool} {a : Act} {w : World} (hr : Region.ready md ops listed = []) (h : Q .normal a w) : ∀ fuel, AnyL P md ops Q Se Sa ap fuel listed a w
  | 0 => ⟨hr, h⟩
  | _ + 1 => ⟨fun _ => h, by rw [hr]; simp⟩
theorem AnyL.start {id : Nat} {a : Act} {w : World} (Se Sa : World → Prop) (ap : Nat) (hm : P.follows .mixedOrders = true) (h : AnyL P .any ops Q Se Sa ap ops.size (Array.replicate ops.size false) a w.drew) : (Code.region id ops true).wp P Q a w :=
  wp_region_any hm (any_of_L _ _ _ _ h)
end
end Go.Proofs.YtlpgjnjhhgjkmaaDoor

/-
  A graph with other wires, in the reference and in the program. Conditions: wires are in range; lengths are small.
-/
namespace Go.Proofs.YtlpgjnjhhgjkmaaDoor
open Go.RowKit
set_option linter.unusedVariables false
set_option maxRecDepth 100000

/-- A graph with other wires. -/
def mapE (ts : List Int) (x : Ed) : Ed := ⟨x.k, x.v, x.i.map (ofL ts), x.o.map (ofL ts)⟩
def mapG (ts : List Int) (n : Int) (g : Gr) : Gr := ⟨n, g.es.map (mapE ts), g.i.map (ofL ts), g.o.map (ofL ts)⟩
theorem eds_snoc (xs : List XE) (x : XE) : eds (xs ++ [x]) = eds xs ++ [x.ed] := by simp [eds]
theorem map_take (ts : List Int) {es : List Ed} {k : Nat} (hk : k < es.length) : (es.take (k + 1)).map (mapE ts) = (es.take k).map (mapE ts) ++ [mapE ts (es.getD k e0)] := by
  rw [List.take_succ_eq_append_getElem hk, List.map_append, List.getD_eq_getElem?_getD, List.getElem?_eq_getElem hk]
  rfl
theorem wires_edge {gn : Int} {es : List Ed} {is os : List Int} {y : Ed} (hy : y ∈ es) {x : Int} : (x ∈ y.i → x ∈ wiresL ⟨gn, es, is, os⟩) ∧ (x ∈ y.o → x ∈ wiresL ⟨gn, es, is, os⟩) := by
  unfold wiresL wiresE
  simp only [List.mem_append, List.mem_flatMap]
  exact ⟨fun h => Or.inr (Or.inr ⟨y, hy, Or.inl h⟩), fun h => Or.inr (Or.inr ⟨y, hy, Or.inr h⟩)⟩
theorem Sep.edgeIn {w : World} {X A B Q O : Asrt} {L r : List Asrt} (h : Sep w (X :: A :: B :: Q :: O :: Bag L :: r)) : Sep w (O :: X :: Bag (L ++ [B, A]) :: r) := by
  have h1 : Sep w (X :: B :: A :: Bag L :: O :: r) := by
    refine h.under (fun k => ?_) (by simp +contextual)
    have k1 : Sep w (B :: A :: O :: Bag L :: r) := k.s3.tl.s2
    exact k1.under (fun k2 => k2.under (fun k3 => k3.s2) (by simp +contextual)) (by simp +contextual)
  exact h1.bagTwo.s3
theorem edge_one (e : Ed) (a1 : Option Addr) (n1 c1 : Nat) (a2 : Option Addr) (n2 c2 : Nat) : ∀ u ∈ edgeE.cs ⟨e, .slice a1 n1 c1, .slice a2 n2 c2⟩, u.oneCell' = true := by
  intro u hu
  simp only [edgeE, edgeC, List.mem_cons, List.not_mem_nil, or_false] at hu
  rcases hu with rfl | rfl | rfl | rfl <;> rfl
set_option maxHeartbeats 4000000 in
theorem hgMap_any (ev iv ov tv : Value) (g : Gr) (n : Int) (ts : List Int) (w : World) (he : RdE edgeE w ev g.es) (hi : IntsV w iv g.i) (ho : IntsV w ov g.o) (ht : IntsV w tv ts) (l0 : g.es.length ≤ 1000) (l1 : g.i.length ≤ 1000000) (l2 : g.o.length ≤ 1000000) (hle : ∀ e ∈ g.es, e.i.length ≤ 1000000 ∧ e.o.length ≤ 1000000) (hr : ∀ x ∈ wiresL g, 0 ≤ x ∧ x < (ts.length : Int)) :
    Calls Tryd.prog 43 #[grV g.n ev iv ov, tv, .int .i64 n] w fun e w' => ∃ u0 xs u1 u2, e = .returned (grV n u0 u1 u2) ∧ eds xs = g.es.map (mapE ts) ∧ Sep w' [OE u0 xs, OI u1 (g.i.map (ofL ts)), OI u2 (g.o.map (ofL ts)), KeepA w] := by
  have HMI := Lib.hid fun W (h : w.grownBy W none) => hgList_any iv tv g.i ts W (hi.carry h) (ht.carry h) l1 (fun x hx => hr x (by unfold wiresL; simp [hx]))
  have HMO := Lib.hid fun W (h : w.grownBy W none) => hgList_any ov tv g.o ts W (ho.carry h) (ht.carry h) l2 (fun x hx => hr x (by unfold wiresL; simp [hx]))
  have HE := Lib.hid he; have HT := Lib.hid ht; have HR := Lib.hid hr; have HLE := Lib.hid hle
  unfold grV
  obtain ⟨a0, c0, rfl⟩ := he.shape
  obtain ⟨a1, c1, rfl⟩ := hi.shape
  obtain ⟨a2, c2, rfl⟩ := ho.shape
  obtain ⟨ta, tc, rfl⟩ := ht.shape
  clear he hi ho ht hr hle
  obtain ⟨gn, es, is, os⟩ := g
  simp only at HMI HMO HE HR HLE l0 l1 l2 ⊢
  generalize hm : es.length = m at *
  generalize is.length = m1 at *
  generalize os.length = m2 at *
  generalize hm3 : ts.length = m3 at *
  have HM := Lib.hid hm; have HM3 := Lib.hid hm3
  clear hm hm3 l1 l2
  have hs0 := ((Sep.start w).box #[.int .i64 gn, .slice a0 m c0, .slice a1 m1 c1, .slice a2 m2 c2] 34).box #[.int .i64 0, .slice none 0 0, .slice none 0 0, .slice none 0 0] 34
  have e1 : (w.alloc (.cells #[.int .i64 gn, .slice a0 m c0, .slice a1 m1 c1, .slice a2 m2 c2] 34)).heap.size = w.heap.size + 1 := by simp
  rw [e1] at hs0
  have HS0 := Lib.hid hs0
  clear hs0 e1
  go_enter Tryd.func43, Tryd.ntmps43
  go_upto_region 1 with fail
  go_cut [7] from 10 to 20 (fun t7 wx => ∃ (ob : Nat) (b1 : Option Addr) (d1 : Nat) (b2 : Option Addr) (d2 : Nat), t7 = .pointer (some ⟨ob, 0, none⟩) ∧ Sep wx [BxA ob #[.int .i64 n, .slice none 0 0, .slice b1 m1 d1, .slice b2 m2 d2] 34, OI (.slice b1 m1 d1) (is.map (ofL ts)), OI (.slice b2 m2 d2) (os.map (ofL ts)), BxA (w.heap.size + 1) #[.int .i64 0, .slice none 0 0, .slice none 0 0, .slice none 0 0] 34, BxA w.heap.size #[.int .i64 gn, .slice a0 m c0, .slice a1 m1 c1, .slice a2 m2 c2] 34, KeepA w])
  case first =>
    have hs1 := HS0.out.dr
    have HS1 := Lib.hid hs1
    have hs1a := (HS0.out.box #[.int .i64 0, .slice none 0 0, .slice none 0 0, .slice none 0 0] 34).dr
    rw [show ((w.alloc (.cells #[.int .i64 gn, .slice a0 m c0, .slice a1 m1 c1, .slice a2 m2 c2] 34)).alloc (.cells #[.int .i64 0, .slice none 0 0, .slice none 0 0, .slice none 0 0] 34)).heap.size = w.heap.size + 1 + 1 by simp] at hs1a
    have HS1a := Lib.hid hs1a
    have HK1 := Lib.hid (show w.grownBy _ none from hs1.tl.tl.hd)
    have HK1a := Lib.hid (show w.grownBy _ none from hs1a.tl.tl.tl.hd)
    obtain ⟨x0, x1, x2, x3, _⟩ := bq4 hs1.tl.hd
    obtain ⟨y0, y1, y2, y3, _⟩ := bq4 hs1a.tl.tl.hd
    clear hs1 hs1a
    go_region_law (first
      | (try go_simp
         go_at_call 58
         with_reducible refine (HMI.out _ HK1.out).mono ?_
         rintro e w2 ⟨b1, d1, rfl, hsg⟩
         have HS2 := Lib.hid (HS1.out.graft1 hsg OI_own)
         have HK2 := Lib.hid (show w.grownBy _ none from HS2.out.tl.tl.tl.hd)
         obtain ⟨p0, p1, p2, p3, _⟩ := bq4 HS2.out.tl.tl.hd
         have hs2b := HS2.out.box #[.int .i64 0, .slice none 0 0, .slice none 0 0, .slice none 0 0] 34
         have HS2b := Lib.hid hs2b
         have HK2b := Lib.hid (show w.grownBy _ none from hs2b.tl.tl.tl.tl.hd)
         obtain ⟨r0, r1, r2, r3, _⟩ := bq4 hs2b.tl.tl.tl.hd
         clear hsg hs2b)
      | (try go_simp
         go_at_call 58
         with_reducible refine (HMI.out _ HK1a.out).mono ?_
         rintro e w2 ⟨b1, d1, rfl, hsg⟩
         have HS2a := Lib.hid (HS1a.out.graft1 hsg OI_own)
         have HK2a := Lib.hid (show w.grownBy _ none from HS2a.out.tl.tl.tl.tl.hd)
         obtain ⟨p0, p1, p2, p3, _⟩ := bq4 HS2a.out.tl.tl.tl.hd
         clear hsg)
      | (try go_simp
         go_at_call 58
         with_reducible refine (HMO.out _ HK2.out).mono ?_
         rintro e w3 ⟨b2, d2, rfl, hsg⟩
         have HS3 := Lib.hid (HS2.out.graft1 hsg OI_own)
         have hs3 := (HS3.out).box #[.int .i64 n, .slice none 0 0, .slice b1 m1 d1, .slice b2 m2 d2] 34
         have HSF := Lib.hid (hs3.under (fun h => h.s2) (by simp +contextual [or_assoc, or_comm, or_left_comm]))
         clear hsg hs3)
      | (try go_simp
         go_at_call 58
         with_reducible refine (HMO.out _ HK2a.out).mono ?_
         rintro e w3 ⟨b2, d2, rfl, hsg⟩
         have hs3 := (HS2a.out.graft1 hsg OI_own).s3
         obtain ⟨q0, q1, q2, q3, q4, q5⟩ := bq4 hs3.hd
         have hs4 := (((hs3.setB 0 (.int .i64 n)).setB 1 (.slice none 0 0)).setB 2 (.slice b1 m1 d1)).setB 3 (.slice b2 m2 d2)
         have HSF := Lib.hid (hs4.under (fun h => h.s2) (by simp +contextual [or_assoc, or_comm, or_left_comm]))
         clear hsg hs3 hs4)
      | (try go_simp
         go_at_call 58
         with_reducible refine (HMO.out _ HK2b.out).mono ?_
         rintro e w3 ⟨b2, d2, rfl, hsg⟩
         have hs3 := (HS2b.out.graft1 hsg OI_own).s2
         obtain ⟨q0, q1, q2, q3, q4, q5⟩ := bq4 hs3.hd
         have hs4 := (((hs3.setB 0 (.int .i64 n)).setB 1 (.slice none 0 0)).setB 2 (.slice b1 m1 d1)).setB 3 (.slice b2 m2 d2)
         have HSF := Lib.hid (hs4.under (fun h => h.s2) (by simp +contextual [or_assoc, or_comm, or_left_comm]))
         clear hsg hs3 hs4))
    all_goals
      go_wp2_with fail
      go_meet
      exact ⟨_, b1, d1, b2, d2, rfl, HSF.out⟩
  case rest =>
    obtain ⟨ob, b1, d1, b2, d2, rfl, hs⟩ := hcut
    have HS := Lib.hid hs
    obtain ⟨x0, x1, x2, x3, _⟩ := bq4 hs.hd
    obtain ⟨y0, y1, y2, y3, _⟩ := bq4 hs.tl.tl.tl.tl.hd
    clear hs HS0 HMI HMO
    go_wp2_with fail
    go_loopw [9, 23] (fun _ i wr => ∃ (k : Nat) (e1 : Option Addr) (f1 : Nat) (xs : List XE), k ≤ m ∧ i = .int .i64 k ∧ xs.length = k ∧ eds xs = (es.take k).map (mapE ts) ∧ Sep wr [BxA ob #[.int .i64 n, .slice e1 k f1, .slice b1 m1 d1, .slice b2 m2 d2] 34, OR edgeE (.slice e1 k f1) xs, Bag (rowsE xs), OI (.slice b1 m1 d1) (is.map (ofL ts)), OI (.slice b2 m2 d2) (os.map (ofL ts)), BxA (w.heap.size + 1) #[.int .i64 0, .slice none 0 0, .slice none 0 0, .slice none 0 0] 34, KeepA w]) (fun _ i _ => m - (intOf i).toNat)
    case atStart => exact ⟨0, none, 0, [], by omega, rfl, rfl, rfl, ((HS.out.under (fun h => h.under (fun h => h.under (fun h => h.drop2) (by simp +contextual)) (by simp +contextual)) (by simp +contextual)).noBag.nilR edgeE).s3⟩
    case round =>
      obtain ⟨k, e1, f1, xs, hk, rfl, hxl, hxe, hs⟩ := hrel
      have HSX := Lib.hid hs; have HXL := Lib.hid hxl; have HXE := Lib.hid hxe
      have HKX := Lib.hid (show w.grownBy wr none from hs.tl.tl.tl.tl.tl.tl.hd)
      obtain ⟨x0, x1, x2, x3, _⟩ := bq4 hs.hd
      clear hs hxl hxe HS
      by_cases hlt : k < m
      · have hke : k < es.length := by rw [HM.out]; exact hlt
        have hye : es.getD k e0 ∈ es := by rw [List.getD_eq_getElem?_getD, List.getElem?_eq_getElem hke]; exact List.getElem_mem _
        obtain ⟨eb, eo, iv, ov, rfl, _, q0, q1, q2, q3, hiv, hov⟩ := (HE.out.carry HKX.out).at rfl rfl hke
        have hlm := HLE.out _ hye
        have HMI := Lib.hid fun W (h : wr.grownBy W none) => hgList_any iv _ (es.getD k e0).i ts W (hiv.carry h) (HT.out.carry (grownBy_trans HKX.out h)) hlm.1 (fun x hx => by rw [HM3.out]; exact HR.out x ((wires_edge hye).1 hx))
        have HMO := Lib.hid fun W (h : wr.grownBy W none) => hgList_any ov _ (es.getD k e0).o ts W (hov.carry h) (HT.out.carry (grownBy_trans HKX.out h)) hlm.2 (fun x hx => by rw [HM3.out]; exact HR.out x ((wires_edge hye).2 hx))
        have HTK := Lib.hid (map_take ts hke)
        have HXN := Lib.hid (show ∀ x : XE, x.ed = mapE ts (es.getD k e0) → eds (xs ++ [x]) = (es.take (k + 1)).map (mapE ts) from fun x hx => by rw [eds_snoc, hx, HTK.out, HXE.out])
        generalize es.getD k e0 = y at *
        obtain ⟨yk, yv, yi, yo⟩ := y
        simp only at q0 q1 HMI HMO
        obtain ⟨s1, r1, rfl⟩ := hiv.shape
        obtain ⟨s2, r2, rfl⟩ := hov.shape
        simp only at q2 q3
        clear hke hye hiv hov hlm
        generalize yi.length = n1 at *
        generalize yo.length = n2 at *
        have hsb := (HSX.out.box #[.int .i64 yk, .int .i64 yv, .slice s1 n1 r1, .slice s2 n2 r2] 70)
        have HSD := Lib.hid hsb.dr
        have HKD := Lib.hid (show wr.grownBy (wr.alloc (.cells #[.int .i64 yk, .int .i64 yv, .slice s1 n1 r1, .slice s2 n2 r2] 70)).drew none from grownBy_trans (gr1 wr _) ⟨rfl, rfl, rfl, Nat.le_refl _, fun _ _ _ => rfl⟩)
        have t1 := (bq4 hsb.tl.hd).2.1
        have t1d := (bq4 hsb.dr.tl.hd).2.1
        clear hsb
        go_upto_region 5 with fail
        have hxb : ∃ xb, xb = wr.heap.size := ⟨_, rfl⟩
        obtain ⟨xb, hxb⟩ := hxb
        have SX := Lib.hid fun (W : World) (l : List Asrt) (h : Sep W (BxA wr.heap.size #[.int .i64 yk, .int .i64 yv, .slice s1 n1 r1, .slice s2 n2 r2] 70 :: l)) => And.intro (bq4 h.hd).1 (And.intro (bq4 h.hd).2.1 (And.intro (bq4 h.hd).2.2.1 (bq4 h.hd).2.2.2.1))
        have X0 := Lib.hid (SX.out _ _ HSD.out)
        rw [← hxb] at SX X0 HSD
        clear q0 q1 q2 q3 x0 x1 x2 x3
        simp only [← hxb]
        clear hxb
        generalize wr.alloc (.cells #[.int .i64 yk, .int .i64 yv, .slice s1 n1 r1, .slice s2 n2 r2] 70) = wx at *
        refine AnyL.start (fun w' => w'.cell? ⟨xb, 0, none⟩ = some (.int .i64 yk) ∧ w'.cell? ⟨xb, 1, none⟩ = some (.int .i64 yv) ∧ w'.cell? ⟨xb, 2, none⟩ = some (.slice s1 n1 r1) ∧ w'.cell? ⟨xb, 3, none⟩ = some (.slice s2 n2 r2)) (fun w' => w'.cell? ⟨ob, 1, none⟩ = some (.slice e1 k f1)) 16 (by kernel_rfl) ?_
        refine AnyL.take (i := 0) (v := ?vx1) (by rfl) (by kernel_rfl) (by kernel_rfl) (by kernel_rfl) rfl (by exact fun _ _ _ h => h) (by rfl) ?hyx1 (by exact ⟨X0.out, fun _ => t1d⟩) ?restx1
        case hyx1 => intro W hSW; (try dsimp only at hSW); first | (go_simp; done) | (go_simp; with_reducible rfl)
        try simp only [Act.put, List.setIfInBounds_toArray, List.set_cons_zero, List.set_cons_succ]
        refine AnyL.takeA (i := 1) (v := ?vx2) (by rfl) (by kernel_rfl) (by kernel_rfl) (by kernel_rfl) rfl (by rfl) (by kernel_rfl) (by kernel_rfl) (by exact fun _ _ _ h => h) (by rfl) ?hyx2 (by exact ⟨X0.out, fun _ => t1d⟩) ?restx2
        case hyx2 => intro W hSW; (try dsimp only at hSW); first | (go_simp; done) | (go_simp; with_reducible rfl)
        try simp only [Act.put, List.setIfInBounds_toArray, List.set_cons_zero, List.set_cons_succ]
        refine AnyL.take (i := 2) (v := ?vx3) (by rfl) (by kernel_rfl) (by kernel_rfl) (by kernel_rfl) rfl (by exact fun _ _ _ h => h) (by rfl) ?hyx3 (by exact ⟨X0.out, fun _ => t1d⟩) ?restx3
        case hyx3 => intro W hSW; (try dsimp only at hSW); first | (go_simp; done) | (go_simp; with_reducible rfl)
        try simp only [Act.put, List.setIfInBounds_toArray, List.set_cons_zero, List.set_cons_succ]
        refine AnyL.take (i := 3) (v := ?vx4) (by rfl) (by kernel_rfl) (by kernel_rfl) (by kernel_rfl) rfl (by exact fun _ _ _ h => h) (by rfl) ?hyx4 (by exact ⟨X0.out, fun _ => t1d⟩) ?restx4
        case hyx4 => intro W hSW; (try dsimp only at hSW); first | (go_simp; done) | (go_simp; with_reducible rfl)
        try simp only [Act.put, List.setIfInBounds_toArray, List.set_cons_zero, List.set_cons_succ]
        refine AnyL.take (i := 4) (v := ?vx5) (by rfl) (by kernel_rfl) (by kernel_rfl) (by kernel_rfl) rfl (by exact fun _ _ _ h => h) (by rfl) ?hyx5 (by exact ⟨X0.out, fun _ => t1d⟩) ?restx5
        case hyx5 => intro W hSW; (try dsimp only at hSW); first | (go_simp; done) | (go_simp; with_reducible rfl)
        try simp only [Act.put, List.setIfInBounds_toArray, List.set_cons_zero, List.set_cons_succ]
        refine AnyL.take (i := 5) (v := ?vx6) (by rfl) (by kernel_rfl) (by kernel_rfl) (by kernel_rfl) rfl (by exact fun _ _ _ h => h) (by rfl) ?hyx6 (by exact ⟨X0.out, fun _ => t1d⟩) ?restx6
        case hyx6 => intro W hSW; (try dsimp only at hSW); first | (go_simp; done) | (go_simp; with_reducible rfl)
        try simp only [Act.put, List.setIfInBounds_toArray, List.set_cons_zero, List.set_cons_succ]
        refine AnyL.take (i := 6) (v := ?vx7) (by rfl) (by kernel_rfl) (by kernel_rfl) (by kernel_rfl) rfl (by exact fun _ _ _ h => h) (by rfl) ?hyx7 (by exact ⟨X0.out, fun _ => t1d⟩) ?restx7
        case hyx7 => intro W hSW; (try dsimp only at hSW); first | (go_simp; done) | (go_simp; with_reducible rfl)
        try simp only [Act.put, List.setIfInBounds_toArray, List.set_cons_zero, List.set_cons_succ]
        refine AnyL.take (i := 7) (v := ?vx8) (by rfl) (by kernel_rfl) (by kernel_rfl) (by kernel_rfl) rfl (by exact fun _ _ _ h => h) (by rfl) ?hyx8 (by exact ⟨X0.out, fun _ => t1d⟩) ?restx8
        case hyx8 => intro W hSW; (try dsimp only at hSW); first | (go_simp; done) | (go_simp; with_reducible rfl)
        try simp only [Act.put, List.setIfInBounds_toArray, List.set_cons_zero, List.set_cons_succ]
        refine AnyL.take (i := 8) (v := ?vx9) (by rfl) (by kernel_rfl) (by kernel_rfl) (by kernel_rfl) rfl (by exact fun _ _ _ h => h) (by rfl) ?hyx9 (by exact ⟨X0.out, fun _ => t1d⟩) ?restx9
        case hyx9 => intro W hSW; (try dsimp only at hSW); first | (go_simp; done) | (go_simp; with_reducible rfl)
        try simp only [Act.put, List.setIfInBounds_toArray, List.set_cons_zero, List.set_cons_succ]
        refine AnyL.take (i := 10) (v := ?vx10) (by rfl) (by kernel_rfl) (by kernel_rfl) (by kernel_rfl) rfl (by exact fun _ _ _ h => h) (by rfl) ?hyx10 (by exact ⟨X0.out, fun _ => t1d⟩) ?restx10
        case hyx10 => intro W hSW; (try dsimp only at hSW); first | (go_simp; done) | (go_simp; with_reducible rfl)
        try simp only [Act.put, List.setIfInBounds_toArray, List.set_cons_zero, List.set_cons_succ]
        refine AnyL.take (i := 11) (v := ?vx11) (by rfl) (by kernel_rfl) (by kernel_rfl) (by kernel_rfl) rfl (by exact fun _ _ _ h => h) (by rfl) ?hyx11 (by exact ⟨X0.out, fun _ => t1d⟩) ?restx11
        case hyx11 => intro W hSW; (try dsimp only at hSW); first | (go_simp; done) | (go_simp; with_reducible rfl)
        try simp only [Act.put, List.setIfInBounds_toArray, List.set_cons_zero, List.set_cons_succ]
        refine AnyL.take (i := 12) (v := ?vx12) (by rfl) (by kernel_rfl) (by kernel_rfl) (by kernel_rfl) rfl (by exact fun _ _ _ h => h) (by rfl) ?hyx12 (by exact ⟨X0.out, fun _ => t1d⟩) ?restx12
        case hyx12 => intro W hSW; (try dsimp only at hSW); first | (go_simp; done) | (go_simp; with_reducible rfl)
        try simp only [Act.put, List.setIfInBounds_toArray, List.set_cons_zero, List.set_cons_succ]
        refine AnyL.step (i := 9) (by kernel_rfl) (by rfl) (fun K hK => ?_)
        go_simp
        go_at_call 58
        with_reducible refine (HMI.out _ HKD.out).mono ?_
        rintro e w2 ⟨b3, d3, rfl, hsg⟩
        have HS2 := Lib.hid (HSD.out.graft1 hsg OI_own)
        have X2 := Lib.hid (SX.out _ _ HS2.out.tl)
        have HK2 := Lib.hid (show wr.grownBy w2 none from grownBy_trans HKD.out hsg.tl.hd)
        have t1a := (bq4 HS2.out.tl.tl.hd).2.1
        clear hsg
        refine hK.out _ _ (by exact X2.out) (by exact fun _ => t1a) ?_
        clear hK K
        try simp only [Act.put, List.setIfInBounds_toArray, List.set_cons_zero, List.set_cons_succ]
        refine AnyL.step (i := 13) (by kernel_rfl) (by rfl) (fun K hK => ?_)
        go_simp
        go_at_call 58
        with_reducible refine (HMO.out _ HK2.out).mono ?_
        rintro e w3 ⟨b4, d4, rfl, hsg⟩
        have HS3 := Lib.hid (HS2.out.graft1 hsg OI_own)
        have X3 := Lib.hid (SX.out _ _ HS3.out.tl.tl)
        have Y3 := Lib.hid fun ob' => SX.out _ _ (HS3.out.al ob').tl.tl
        have t1b := (bq4 HS3.out.tl.tl.tl.hd).2.1
        have t1c := fun ob' => (bq4 (HS3.out.al ob').tl.tl.tl.hd).2.1
        clear hsg
        refine hK.out _ _ (by exact X3.out) (by exact fun _ => t1b) ?_
        clear hK K
        try simp only [Act.put, List.setIfInBounds_toArray, List.set_cons_zero, List.set_cons_succ]
        refine AnyL.take (i := 14) (v := ?vx13) (by rfl) (by kernel_rfl) (by kernel_rfl) (by kernel_rfl) rfl (by exact fun _ _ _ h => h) (by rfl) ?hyx13 (by exact ⟨X3.out, fun _ => t1b⟩) ?restx13
        case hyx13 => intro W hSW; (try dsimp only at hSW); first | (go_simp; done) | (go_simp; with_reducible rfl)
        try simp only [Act.put, List.setIfInBounds_toArray, List.set_cons_zero, List.set_cons_succ]
        refine AnyL.step (i := 15) (by kernel_rfl) (by rfl) (fun K hK => ?_)
        go_simp
        refine hK.out _ _ (by exact Y3.out _) (by exact fun _ => t1c _) ?_
        clear hK K
        try simp only [Act.put, List.setIfInBounds_toArray, List.set_cons_zero, List.set_cons_succ]
        refine AnyL.step (i := 16) (by kernel_rfl) (by rfl) (fun K hK => ?_)
        refine step_app_RG (E := edgeE) (y := ⟨⟨yk, yv, yi.map (ofL ts), yo.map (ofL ts)⟩, .slice b3 n1 d3, .slice b4 n2 d4⟩) info_edge rfl (by decide) Tryd.underlying32 (edge_one _ _ _ _ _ _ _) rfl (.tmp 28) (.tmp 42) rfl rfl rfl (by simp) rfl (HS3.out.s5) (by rw [HXL.out]; omega) ?_
        intro g c w4 h4
        rw [HXL.out] at h4 ⊢
        have X4 := Lib.hid (SX.out _ _ h4.tl.tl.tl)
        have X5 := Lib.hid (SX.out _ _ (h4.s5.setB 1 (.slice (some ⟨g, 0, none⟩) (k + 1) c)).tl.tl.tl.tl)
        have h5 := h4.edgeIn
        rw [← rowsE_snoc xs ⟨⟨yk, yv, yi.map (ofL ts), yo.map (ofL ts)⟩, .slice b3 n1 d3, .slice b4 n2 d4⟩] at h5
        obtain ⟨u0, u1, u2, u3, u4, u5, _⟩ := bq4 h5.hd
        have HS5 := Lib.hid (h5.setB 1 (.slice (some ⟨g, 0, none⟩) (k + 1) c))
        clear h4 h5
        refine hK.out _ _ (by exact X4.out) (by exact fun h => noTF (by kernel_rfl) h) ?_
        clear hK K
        try simp only [Act.put, List.setIfInBounds_toArray, List.set_cons_zero, List.set_cons_succ]
        refine AnyL.take (i := 17) (v := ?vx14) (by rfl) (by kernel_rfl) (by kernel_rfl) (by kernel_rfl) rfl (by exact fun _ _ _ h => h) (by rfl) ?hyx14 (by exact ⟨X4.out, fun h => noTF (by kernel_rfl) h⟩) ?restx14
        case hyx14 => intro W hSW; (try dsimp only at hSW); first | (go_simp; done) | (go_simp; with_reducible rfl)
        try simp only [Act.put, List.setIfInBounds_toArray, List.set_cons_zero, List.set_cons_succ]
        refine AnyL.step (i := 18) (by kernel_rfl) (by rfl) (fun K hK => ?_)
        go_simp
        refine hK.out _ _ (by exact X5.out) (by exact fun h => noTF (by kernel_rfl) h) ?_
        clear hK K
        try simp only [Act.put, List.setIfInBounds_toArray, List.set_cons_zero, List.set_cons_succ]
        refine AnyL.done (by kernel_rfl) ?_ _
        all_goals
          go_wp2_with fail
          go_roundw
          case rel => exact ⟨k + 1, some ⟨g, 0, none⟩, c, xs ++ [(⟨⟨yk, yv, yi.map (ofL ts), yo.map (ofL ts)⟩, .slice b3 n1 d3, .slice b4 n2 d4⟩ : XE)], by omega, by go_num, by rw [List.length_append, HXL.out]; rfl, HXN.out ⟨⟨yk, yv, yi.map (ofL ts), yo.map (ofL ts)⟩, .slice b3 n1 d3, .slice b4 n2 d4⟩ rfl, HS5.out⟩
          case measure => simp [intOf]; omega
      · have hkm : k = m := by omega
        subst hkm
        have hxe := HXE.out
        rw [List.take_of_length_le (by rw [HM.out]; exact Nat.le_refl _)] at hxe
        have HXF := Lib.hid hxe
        have hs1 := HSX.out.tl.s5
        obtain ⟨r0, r1, r2, r3, r4, r5⟩ := bq4 hs1.hd
        have hs2 := (((hs1.setB 0 (.int .i64 n)).setB 1 (.slice e1 k f1)).setB 2 (.slice b1 m1 d1)).setB 3 (.slice b2 m2 d2)
        obtain ⟨k0, k1, k2, k3, _⟩ := bq4 hs2.hd
        have HF := Lib.hid hs2.tl.intoBag
        clear hs1 hs2 hxe hlt
        go_wp2_with fail
        refine bodyPost_ret_by (v := .agg #[.int .i64 n, .slice e1 k f1, .slice b1 m1 d1, .slice b2 m2 d2]) ?_ rfl ⟨_, xs, _, _, rfl, HXF.out, HF.out⟩
        simp [results, go_sem, *]
end Go.Proofs.YtlpgjnjhhgjkmaaDoor

/-
  A graph with other wires, in the program. Conditions: wires are in range; lengths are small.
-/
namespace Go.Proofs.YtlpgjnjhhgjkmaaDoor
open Go.RowKit
set_option linter.unusedVariables false
set_option maxRecDepth 100000

set_option maxHeartbeats 4000000 in
theorem moved_any (ev iv ov tv : Value) (g : Gr) (n : Int) (ts : List Int) (w : World) (he : RdE edgeE w ev g.es) (hi : IntsV w iv g.i) (ho : IntsV w ov g.o) (ht : IntsV w tv ts) (l0 : g.es.length ≤ 1000) (l1 : g.i.length ≤ 1000000) (l2 : g.o.length ≤ 1000000) (hle : ∀ e ∈ g.es, e.i.length ≤ 1000000 ∧ e.o.length ≤ 1000000) (hr : ∀ x ∈ wiresL g, 0 ≤ x ∧ x < (ts.length : Int)) :
    Calls Tryd.prog 59 #[grV g.n ev iv ov, .int .i64 n, tv] w fun e w' => ∃ u0 xs u1 u2, e = .returned (grV n u0 u1 u2) ∧ eds xs = g.es.map (mapE ts) ∧ Sep w' [OE u0 xs, OI u1 (g.i.map (ofL ts)), OI u2 (g.o.map (ofL ts)), KeepA w] := by
  have HMI := Lib.hid fun W (h : w.grownBy W none) => mapped_any tv iv ts g.i W (ht.carry h) (hi.carry h) l1 (fun x hx => hr x (by unfold wiresL; simp [hx]))
  have HMO := Lib.hid fun W (h : w.grownBy W none) => mapped_any tv ov ts g.o W (ht.carry h) (ho.carry h) l2 (fun x hx => hr x (by unfold wiresL; simp [hx]))
  have HE := Lib.hid he; have HT := Lib.hid ht; have HR := Lib.hid hr; have HLE := Lib.hid hle
  unfold grV
  obtain ⟨a0, c0, rfl⟩ := he.shape
  obtain ⟨a1, c1, rfl⟩ := hi.shape
  obtain ⟨a2, c2, rfl⟩ := ho.shape
  obtain ⟨ta, tc, rfl⟩ := ht.shape
  clear he hi ho ht hr hle
  obtain ⟨gn, es, is, os⟩ := g
  simp only at HMI HMO HE HR HLE l0 l1 l2 ⊢
  generalize hm : es.length = m at *
  generalize is.length = m1 at *
  generalize os.length = m2 at *
  generalize hm3 : ts.length = m3 at *
  have HM := Lib.hid hm; have HM3 := Lib.hid hm3
  clear hm hm3 l1 l2
  have hs0 := ((Sep.start w).box #[.int .i64 gn, .slice a0 m c0, .slice a1 m1 c1, .slice a2 m2 c2] 34).box #[.int .i64 0, .slice none 0 0, .slice none 0 0, .slice none 0 0] 34
  have e1 : (w.alloc (.cells #[.int .i64 gn, .slice a0 m c0, .slice a1 m1 c1, .slice a2 m2 c2] 34)).heap.size = w.heap.size + 1 := by simp
  rw [e1] at hs0
  have HS0 := Lib.hid hs0
  clear hs0 e1
  go_enter Tryd.func59, Tryd.ntmps59
  go_upto_region 1 with fail
  go_cut [7] from 10 to 20 (fun t7 wx => ∃ (ob : Nat) (b1 : Option Addr) (d1 : Nat) (b2 : Option Addr) (d2 : Nat), t7 = .pointer (some ⟨ob, 0, none⟩) ∧ Sep wx [BxA ob #[.int .i64 n, .slice none 0 0, .slice b1 m1 d1, .slice b2 m2 d2] 34, OI (.slice b1 m1 d1) (is.map (ofL ts)), OI (.slice b2 m2 d2) (os.map (ofL ts)), BxA (w.heap.size + 1) #[.int .i64 0, .slice none 0 0, .slice none 0 0, .slice none 0 0] 34, BxA w.heap.size #[.int .i64 gn, .slice a0 m c0, .slice a1 m1 c1, .slice a2 m2 c2] 34, KeepA w])
  case first =>
    have hs1 := HS0.out.dr
    have HS1 := Lib.hid hs1
    have hs1a := (HS0.out.box #[.int .i64 0, .slice none 0 0, .slice none 0 0, .slice none 0 0] 34).dr
    rw [show ((w.alloc (.cells #[.int .i64 gn, .slice a0 m c0, .slice a1 m1 c1, .slice a2 m2 c2] 34)).alloc (.cells #[.int .i64 0, .slice none 0 0, .slice none 0 0, .slice none 0 0] 34)).heap.size = w.heap.size + 1 + 1 by simp] at hs1a
    have HS1a := Lib.hid hs1a
    have HK1 := Lib.hid (show w.grownBy _ none from hs1.tl.tl.hd)
    have HK1a := Lib.hid (show w.grownBy _ none from hs1a.tl.tl.tl.hd)
    obtain ⟨x0, x1, x2, x3, _⟩ := bq4 hs1.tl.hd
    obtain ⟨y0, y1, y2, y3, _⟩ := bq4 hs1a.tl.tl.hd
    clear hs1 hs1a
    go_region_law (first
      | (try go_simp
         go_at_call 70
         with_reducible refine (HMI.out _ HK1.out).mono ?_
         rintro e w2 ⟨b1, d1, rfl, hsg⟩
         have HS2 := Lib.hid (HS1.out.graft1 hsg OI_own)
         have HK2 := Lib.hid (show w.grownBy _ none from HS2.out.tl.tl.tl.hd)
         obtain ⟨p0, p1, p2, p3, _⟩ := bq4 HS2.out.tl.tl.hd
         have hs2b := HS2.out.box #[.int .i64 0, .slice none 0 0, .slice none 0 0, .slice none 0 0] 34
         have HS2b := Lib.hid hs2b
         have HK2b := Lib.hid (show w.grownBy _ none from hs2b.tl.tl.tl.tl.hd)
         obtain ⟨r0, r1, r2, r3, _⟩ := bq4 hs2b.tl.tl.tl.hd
         clear hsg hs2b)
      | (try go_simp
         go_at_call 70
         with_reducible refine (HMI.out _ HK1a.out).mono ?_
         rintro e w2 ⟨b1, d1, rfl, hsg⟩
         have HS2a := Lib.hid (HS1a.out.graft1 hsg OI_own)
         have HK2a := Lib.hid (show w.grownBy _ none from HS2a.out.tl.tl.tl.tl.hd)
         obtain ⟨p0, p1, p2, p3, _⟩ := bq4 HS2a.out.tl.tl.tl.hd
         clear hsg)
      | (try go_simp
         go_at_call 70
         with_reducible refine (HMO.out _ HK2.out).mono ?_
         rintro e w3 ⟨b2, d2, rfl, hsg⟩
         have HS3 := Lib.hid (HS2.out.graft1 hsg OI_own)
         have hs3 := (HS3.out).box #[.int .i64 n, .slice none 0 0, .slice b1 m1 d1, .slice b2 m2 d2] 34
         have HSF := Lib.hid (hs3.under (fun h => h.s2) (by simp +contextual [or_assoc, or_comm, or_left_comm]))
         clear hsg hs3)
      | (try go_simp
         go_at_call 70
         with_reducible refine (HMO.out _ HK2a.out).mono ?_
         rintro e w3 ⟨b2, d2, rfl, hsg⟩
         have hs3 := (HS2a.out.graft1 hsg OI_own).s3
         obtain ⟨q0, q1, q2, q3, q4, q5⟩ := bq4 hs3.hd
         have hs4 := (((hs3.setB 0 (.int .i64 n)).setB 1 (.slice none 0 0)).setB 2 (.slice b1 m1 d1)).setB 3 (.slice b2 m2 d2)
         have HSF := Lib.hid (hs4.under (fun h => h.s2) (by simp +contextual [or_assoc, or_comm, or_left_comm]))
         clear hsg hs3 hs4)
      | (try go_simp
         go_at_call 70
         with_reducible refine (HMO.out _ HK2b.out).mono ?_
         rintro e w3 ⟨b2, d2, rfl, hsg⟩
         have hs3 := (HS2b.out.graft1 hsg OI_own).s2
         obtain ⟨q0, q1, q2, q3, q4, q5⟩ := bq4 hs3.hd
         have hs4 := (((hs3.setB 0 (.int .i64 n)).setB 1 (.slice none 0 0)).setB 2 (.slice b1 m1 d1)).setB 3 (.slice b2 m2 d2)
         have HSF := Lib.hid (hs4.under (fun h => h.s2) (by simp +contextual [or_assoc, or_comm, or_left_comm]))
         clear hsg hs3 hs4))
    all_goals
      go_wp2_with fail
      go_meet
      exact ⟨_, b1, d1, b2, d2, rfl, HSF.out⟩
  case rest =>
    obtain ⟨ob, b1, d1, b2, d2, rfl, hs⟩ := hcut
    have HS := Lib.hid hs
    obtain ⟨x0, x1, x2, x3, _⟩ := bq4 hs.hd
    obtain ⟨y0, y1, y2, y3, _⟩ := bq4 hs.tl.tl.tl.tl.hd
    clear hs HS0 HMI HMO
    go_wp2_with fail
    go_loopw [9, 23] (fun _ i wr => ∃ (k : Nat) (e1 : Option Addr) (f1 : Nat) (xs : List XE), k ≤ m ∧ i = .int .i64 k ∧ xs.length = k ∧ eds xs = (es.take k).map (mapE ts) ∧ Sep wr [BxA ob #[.int .i64 n, .slice e1 k f1, .slice b1 m1 d1, .slice b2 m2 d2] 34, OR edgeE (.slice e1 k f1) xs, Bag (rowsE xs), OI (.slice b1 m1 d1) (is.map (ofL ts)), OI (.slice b2 m2 d2) (os.map (ofL ts)), BxA (w.heap.size + 1) #[.int .i64 0, .slice none 0 0, .slice none 0 0, .slice none 0 0] 34, KeepA w]) (fun _ i _ => m - (intOf i).toNat)
    case atStart => exact ⟨0, none, 0, [], by omega, rfl, rfl, rfl, ((HS.out.under (fun h => h.under (fun h => h.under (fun h => h.drop2) (by simp +contextual)) (by simp +contextual)) (by simp +contextual)).noBag.nilR edgeE).s3⟩
    case round =>
      obtain ⟨k, e1, f1, xs, hk, rfl, hxl, hxe, hs⟩ := hrel
      have HSX := Lib.hid hs; have HXL := Lib.hid hxl; have HXE := Lib.hid hxe
      have HKX := Lib.hid (show w.grownBy wr none from hs.tl.tl.tl.tl.tl.tl.hd)
      obtain ⟨x0, x1, x2, x3, _⟩ := bq4 hs.hd
      clear hs hxl hxe HS
      by_cases hlt : k < m
      · have hke : k < es.length := by rw [HM.out]; exact hlt
        have hye : es.getD k e0 ∈ es := by rw [List.getD_eq_getElem?_getD, List.getElem?_eq_getElem hke]; exact List.getElem_mem _
        obtain ⟨eb, eo, iv, ov, rfl, _, q0, q1, q2, q3, hiv, hov⟩ := (HE.out.carry HKX.out).at rfl rfl hke
        have hlm := HLE.out _ hye
        have HMI := Lib.hid fun W (h : wr.grownBy W none) => mapped_any _ iv ts (es.getD k e0).i W (HT.out.carry (grownBy_trans HKX.out h)) (hiv.carry h) hlm.1 (fun x hx => by rw [HM3.out]; exact HR.out x ((wires_edge hye).1 hx))
        have HMO := Lib.hid fun W (h : wr.grownBy W none) => mapped_any _ ov ts (es.getD k e0).o W (HT.out.carry (grownBy_trans HKX.out h)) (hov.carry h) hlm.2 (fun x hx => by rw [HM3.out]; exact HR.out x ((wires_edge hye).2 hx))
        have HTK := Lib.hid (map_take ts hke)
        have HXN := Lib.hid (show ∀ x : XE, x.ed = mapE ts (es.getD k e0) → eds (xs ++ [x]) = (es.take (k + 1)).map (mapE ts) from fun x hx => by rw [eds_snoc, hx, HTK.out, HXE.out])
        generalize es.getD k e0 = y at *
        obtain ⟨yk, yv, yi, yo⟩ := y
        simp only at q0 q1 HMI HMO
        obtain ⟨s1, r1, rfl⟩ := hiv.shape
        obtain ⟨s2, r2, rfl⟩ := hov.shape
        simp only at q2 q3
        clear hke hye hiv hov hlm
        generalize yi.length = n1 at *
        generalize yo.length = n2 at *
        have hsb := (HSX.out.box #[.int .i64 yk, .int .i64 yv, .slice s1 n1 r1, .slice s2 n2 r2] 70)
        have HSD := Lib.hid hsb.dr
        have HKD := Lib.hid (show wr.grownBy (wr.alloc (.cells #[.int .i64 yk, .int .i64 yv, .slice s1 n1 r1, .slice s2 n2 r2] 70)).drew none from grownBy_trans (gr1 wr _) ⟨rfl, rfl, rfl, Nat.le_refl _, fun _ _ _ => rfl⟩)
        have t1 := (bq4 hsb.tl.hd).2.1
        have t1d := (bq4 hsb.dr.tl.hd).2.1
        clear hsb
        go_upto_region 5 with fail
        have hxb : ∃ xb, xb = wr.heap.size := ⟨_, rfl⟩
        obtain ⟨xb, hxb⟩ := hxb
        have SX := Lib.hid fun (W : World) (l : List Asrt) (h : Sep W (BxA wr.heap.size #[.int .i64 yk, .int .i64 yv, .slice s1 n1 r1, .slice s2 n2 r2] 70 :: l)) => And.intro (bq4 h.hd).1 (And.intro (bq4 h.hd).2.1 (And.intro (bq4 h.hd).2.2.1 (bq4 h.hd).2.2.2.1))
        have X0 := Lib.hid (SX.out _ _ HSD.out)
        rw [← hxb] at SX X0 HSD
        clear q0 q1 q2 q3 x0 x1 x2 x3
        simp only [← hxb]
        clear hxb
        generalize wr.alloc (.cells #[.int .i64 yk, .int .i64 yv, .slice s1 n1 r1, .slice s2 n2 r2] 70) = wx at *
        refine AnyL.start (fun w' => w'.cell? ⟨xb, 0, none⟩ = some (.int .i64 yk) ∧ w'.cell? ⟨xb, 1, none⟩ = some (.int .i64 yv) ∧ w'.cell? ⟨xb, 2, none⟩ = some (.slice s1 n1 r1) ∧ w'.cell? ⟨xb, 3, none⟩ = some (.slice s2 n2 r2)) (fun w' => w'.cell? ⟨ob, 1, none⟩ = some (.slice e1 k f1)) 16 (by kernel_rfl) ?_
        refine AnyL.take (i := 0) (v := ?vx1) (by rfl) (by kernel_rfl) (by kernel_rfl) (by kernel_rfl) rfl (by exact fun _ _ _ h => h) (by rfl) ?hyx1 (by exact ⟨X0.out, fun _ => t1d⟩) ?restx1
        case hyx1 => intro W hSW; (try dsimp only at hSW); first | (go_simp; done) | (go_simp; with_reducible rfl)
        try simp only [Act.put, List.setIfInBounds_toArray, List.set_cons_zero, List.set_cons_succ]
        refine AnyL.takeA (i := 1) (v := ?vx2) (by rfl) (by kernel_rfl) (by kernel_rfl) (by kernel_rfl) rfl (by rfl) (by kernel_rfl) (by kernel_rfl) (by exact fun _ _ _ h => h) (by rfl) ?hyx2 (by exact ⟨X0.out, fun _ => t1d⟩) ?restx2
        case hyx2 => intro W hSW; (try dsimp only at hSW); first | (go_simp; done) | (go_simp; with_reducible rfl)
        try simp only [Act.put, List.setIfInBounds_toArray, List.set_cons_zero, List.set_cons_succ]
        refine AnyL.take (i := 2) (v := ?vx3) (by rfl) (by kernel_rfl) (by kernel_rfl) (by kernel_rfl) rfl (by exact fun _ _ _ h => h) (by rfl) ?hyx3 (by exact ⟨X0.out, fun _ => t1d⟩) ?restx3
        case hyx3 => intro W hSW; (try dsimp only at hSW); first | (go_simp; done) | (go_simp; with_reducible rfl)
        try simp only [Act.put, List.setIfInBounds_toArray, List.set_cons_zero, List.set_cons_succ]
        refine AnyL.take (i := 3) (v := ?vx4) (by rfl) (by kernel_rfl) (by kernel_rfl) (by kernel_rfl) rfl (by exact fun _ _ _ h => h) (by rfl) ?hyx4 (by exact ⟨X0.out, fun _ => t1d⟩) ?restx4
        case hyx4 => intro W hSW; (try dsimp only at hSW); first | (go_simp; done) | (go_simp; with_reducible rfl)
        try simp only [Act.put, List.setIfInBounds_toArray, List.set_cons_zero, List.set_cons_succ]
        refine AnyL.take (i := 4) (v := ?vx5) (by rfl) (by kernel_rfl) (by kernel_rfl) (by kernel_rfl) rfl (by exact fun _ _ _ h => h) (by rfl) ?hyx5 (by exact ⟨X0.out, fun _ => t1d⟩) ?restx5
        case hyx5 => intro W hSW; (try dsimp only at hSW); first | (go_simp; done) | (go_simp; with_reducible rfl)
        try simp only [Act.put, List.setIfInBounds_toArray, List.set_cons_zero, List.set_cons_succ]
        refine AnyL.take (i := 5) (v := ?vx6) (by rfl) (by kernel_rfl) (by kernel_rfl) (by kernel_rfl) rfl (by exact fun _ _ _ h => h) (by rfl) ?hyx6 (by exact ⟨X0.out, fun _ => t1d⟩) ?restx6
        case hyx6 => intro W hSW; (try dsimp only at hSW); first | (go_simp; done) | (go_simp; with_reducible rfl)
        try simp only [Act.put, List.setIfInBounds_toArray, List.set_cons_zero, List.set_cons_succ]
        refine AnyL.take (i := 6) (v := ?vx7) (by rfl) (by kernel_rfl) (by kernel_rfl) (by kernel_rfl) rfl (by exact fun _ _ _ h => h) (by rfl) ?hyx7 (by exact ⟨X0.out, fun _ => t1d⟩) ?restx7
        case hyx7 => intro W hSW; (try dsimp only at hSW); first | (go_simp; done) | (go_simp; with_reducible rfl)
        try simp only [Act.put, List.setIfInBounds_toArray, List.set_cons_zero, List.set_cons_succ]
        refine AnyL.take (i := 7) (v := ?vx8) (by rfl) (by kernel_rfl) (by kernel_rfl) (by kernel_rfl) rfl (by exact fun _ _ _ h => h) (by rfl) ?hyx8 (by exact ⟨X0.out, fun _ => t1d⟩) ?restx8
        case hyx8 => intro W hSW; (try dsimp only at hSW); first | (go_simp; done) | (go_simp; with_reducible rfl)
        try simp only [Act.put, List.setIfInBounds_toArray, List.set_cons_zero, List.set_cons_succ]
        refine AnyL.take (i := 8) (v := ?vx9) (by rfl) (by kernel_rfl) (by kernel_rfl) (by kernel_rfl) rfl (by exact fun _ _ _ h => h) (by rfl) ?hyx9 (by exact ⟨X0.out, fun _ => t1d⟩) ?restx9
        case hyx9 => intro W hSW; (try dsimp only at hSW); first | (go_simp; done) | (go_simp; with_reducible rfl)
        try simp only [Act.put, List.setIfInBounds_toArray, List.set_cons_zero, List.set_cons_succ]
        refine AnyL.take (i := 10) (v := ?vx10) (by rfl) (by kernel_rfl) (by kernel_rfl) (by kernel_rfl) rfl (by exact fun _ _ _ h => h) (by rfl) ?hyx10 (by exact ⟨X0.out, fun _ => t1d⟩) ?restx10
        case hyx10 => intro W hSW; (try dsimp only at hSW); first | (go_simp; done) | (go_simp; with_reducible rfl)
        try simp only [Act.put, List.setIfInBounds_toArray, List.set_cons_zero, List.set_cons_succ]
        refine AnyL.take (i := 11) (v := ?vx11) (by rfl) (by kernel_rfl) (by kernel_rfl) (by kernel_rfl) rfl (by exact fun _ _ _ h => h) (by rfl) ?hyx11 (by exact ⟨X0.out, fun _ => t1d⟩) ?restx11
        case hyx11 => intro W hSW; (try dsimp only at hSW); first | (go_simp; done) | (go_simp; with_reducible rfl)
        try simp only [Act.put, List.setIfInBounds_toArray, List.set_cons_zero, List.set_cons_succ]
        refine AnyL.take (i := 12) (v := ?vx12) (by rfl) (by kernel_rfl) (by kernel_rfl) (by kernel_rfl) rfl (by exact fun _ _ _ h => h) (by rfl) ?hyx12 (by exact ⟨X0.out, fun _ => t1d⟩) ?restx12
        case hyx12 => intro W hSW; (try dsimp only at hSW); first | (go_simp; done) | (go_simp; with_reducible rfl)
        try simp only [Act.put, List.setIfInBounds_toArray, List.set_cons_zero, List.set_cons_succ]
        refine AnyL.step (i := 9) (by kernel_rfl) (by rfl) (fun K hK => ?_)
        go_simp
        go_at_call 70
        with_reducible refine (HMI.out _ HKD.out).mono ?_
        rintro e w2 ⟨b3, d3, rfl, hsg⟩
        have HS2 := Lib.hid (HSD.out.graft1 hsg OI_own)
        have X2 := Lib.hid (SX.out _ _ HS2.out.tl)
        have HK2 := Lib.hid (show wr.grownBy w2 none from grownBy_trans HKD.out hsg.tl.hd)
        have t1a := (bq4 HS2.out.tl.tl.hd).2.1
        clear hsg
        refine hK.out _ _ (by exact X2.out) (by exact fun _ => t1a) ?_
        clear hK K
        try simp only [Act.put, List.setIfInBounds_toArray, List.set_cons_zero, List.set_cons_succ]
        refine AnyL.step (i := 13) (by kernel_rfl) (by rfl) (fun K hK => ?_)
        go_simp
        go_at_call 70
        with_reducible refine (HMO.out _ HK2.out).mono ?_
        rintro e w3 ⟨b4, d4, rfl, hsg⟩
        have HS3 := Lib.hid (HS2.out.graft1 hsg OI_own)
        have X3 := Lib.hid (SX.out _ _ HS3.out.tl.tl)
        have Y3 := Lib.hid fun ob' => SX.out _ _ (HS3.out.al ob').tl.tl
        have t1b := (bq4 HS3.out.tl.tl.tl.hd).2.1
        have t1c := fun ob' => (bq4 (HS3.out.al ob').tl.tl.tl.hd).2.1
        clear hsg
        refine hK.out _ _ (by exact X3.out) (by exact fun _ => t1b) ?_
        clear hK K
        try simp only [Act.put, List.setIfInBounds_toArray, List.set_cons_zero, List.set_cons_succ]
        refine AnyL.take (i := 14) (v := ?vx13) (by rfl) (by kernel_rfl) (by kernel_rfl) (by kernel_rfl) rfl (by exact fun _ _ _ h => h) (by rfl) ?hyx13 (by exact ⟨X3.out, fun _ => t1b⟩) ?restx13
        case hyx13 => intro W hSW; (try dsimp only at hSW); first | (go_simp; done) | (go_simp; with_reducible rfl)
        try simp only [Act.put, List.setIfInBounds_toArray, List.set_cons_zero, List.set_cons_succ]
        refine AnyL.step (i := 15) (by kernel_rfl) (by rfl) (fun K hK => ?_)
        go_simp
        refine hK.out _ _ (by exact Y3.out _) (by exact fun _ => t1c _) ?_
        clear hK K
        try simp only [Act.put, List.setIfInBounds_toArray, List.set_cons_zero, List.set_cons_succ]
        refine AnyL.step (i := 16) (by kernel_rfl) (by rfl) (fun K hK => ?_)
        refine step_app_RG (E := edgeE) (y := ⟨⟨yk, yv, yi.map (ofL ts), yo.map (ofL ts)⟩, .slice b3 n1 d3, .slice b4 n2 d4⟩) info_edge rfl (by decide) Tryd.underlying32 (edge_one _ _ _ _ _ _ _) rfl (.tmp 28) (.tmp 42) rfl rfl rfl (by simp) rfl (HS3.out.s5) (by rw [HXL.out]; omega) ?_
        intro g c w4 h4
        rw [HXL.out] at h4 ⊢
        have X4 := Lib.hid (SX.out _ _ h4.tl.tl.tl)
        have X5 := Lib.hid (SX.out _ _ (h4.s5.setB 1 (.slice (some ⟨g, 0, none⟩) (k + 1) c)).tl.tl.tl.tl)
        have h5 := h4.edgeIn
        rw [← rowsE_snoc xs ⟨⟨yk, yv, yi.map (ofL ts), yo.map (ofL ts)⟩, .slice b3 n1 d3, .slice b4 n2 d4⟩] at h5
        obtain ⟨u0, u1, u2, u3, u4, u5, _⟩ := bq4 h5.hd
        have HS5 := Lib.hid (h5.setB 1 (.slice (some ⟨g, 0, none⟩) (k + 1) c))
        clear h4 h5
        refine hK.out _ _ (by exact X4.out) (by exact fun h => noTF (by kernel_rfl) h) ?_
        clear hK K
        try simp only [Act.put, List.setIfInBounds_toArray, List.set_cons_zero, List.set_cons_succ]
        refine AnyL.take (i := 17) (v := ?vx14) (by rfl) (by kernel_rfl) (by kernel_rfl) (by kernel_rfl) rfl (by exact fun _ _ _ h => h) (by rfl) ?hyx14 (by exact ⟨X4.out, fun h => noTF (by kernel_rfl) h⟩) ?restx14
        case hyx14 => intro W hSW; (try dsimp only at hSW); first | (go_simp; done) | (go_simp; with_reducible rfl)
        try simp only [Act.put, List.setIfInBounds_toArray, List.set_cons_zero, List.set_cons_succ]
        refine AnyL.step (i := 18) (by kernel_rfl) (by rfl) (fun K hK => ?_)
        go_simp
        refine hK.out _ _ (by exact X5.out) (by exact fun h => noTF (by kernel_rfl) h) ?_
        clear hK K
        try simp only [Act.put, List.setIfInBounds_toArray, List.set_cons_zero, List.set_cons_succ]
        refine AnyL.done (by kernel_rfl) ?_ _
        all_goals
          go_wp2_with fail
          go_roundw
          case rel => exact ⟨k + 1, some ⟨g, 0, none⟩, c, xs ++ [(⟨⟨yk, yv, yi.map (ofL ts), yo.map (ofL ts)⟩, .slice b3 n1 d3, .slice b4 n2 d4⟩ : XE)], by omega, by go_num, by rw [List.length_append, HXL.out]; rfl, HXN.out ⟨⟨yk, yv, yi.map (ofL ts), yo.map (ofL ts)⟩, .slice b3 n1 d3, .slice b4 n2 d4⟩ rfl, HS5.out⟩
          case measure => simp [intOf]; omega
      · have hkm : k = m := by omega
        subst hkm
        have hxe := HXE.out
        rw [List.take_of_length_le (by rw [HM.out]; exact Nat.le_refl _)] at hxe
        have HXF := Lib.hid hxe
        have hs1 := HSX.out.tl.s5
        obtain ⟨r0, r1, r2, r3, r4, r5⟩ := bq4 hs1.hd
        have hs2 := (((hs1.setB 0 (.int .i64 n)).setB 1 (.slice e1 k f1)).setB 2 (.slice b1 m1 d1)).setB 3 (.slice b2 m2 d2)
        obtain ⟨k0, k1, k2, k3, _⟩ := bq4 hs2.hd
        have HF := Lib.hid hs2.tl.intoBag
        clear hs1 hs2 hxe hlt
        go_wp2_with fail
        refine bodyPost_ret_by (v := .agg #[.int .i64 n, .slice e1 k f1, .slice b1 m1 d1, .slice b2 m2 d2]) ?_ rfl ⟨_, xs, _, _, rfl, HXF.out, HF.out⟩
        simp [results, go_sem, *]
end Go.Proofs.YtlpgjnjhhgjkmaaDoor

/-
  Lists of graphs: how they lie in memory; how much they take of a budget. Conditions: lengths are small.
-/
namespace Go.Proofs.YtlpgjnjhhgjkmaaDoor
open Go.RowKit
set_option linter.unusedVariables false
set_option maxRecDepth 100000

/-- A graph with the slices that hold it. -/
structure XG where
  n : Int
  ev : Value
  xs : List XE
  iv : Value
  is : List Int
  ov : Value
  os : List Int
def XG.gr (x : XG) : Gr := ⟨x.n, eds x.xs, x.is, x.os⟩
def graphC (x : XG) : List Value := [.int .i64 x.n, x.ev, x.iv, x.ov]
def graphE : Lay XG := ⟨34, 4, graphC, fun _ => rfl, by decide⟩
def argGrE : Lay XG := ⟨26, 4, graphC, fun _ => rfl, by decide⟩
def xg0 : XG := ⟨0, nilS, [], nilS, [], nilS, []⟩
def grs (ys : List XG) : List Gr := ys.map XG.gr
/-- A list of graphs that can be read. -/
def RdGs (E : Lay XG) (F : Lay XE) (w : World) (v : Value) (gs : List Gr) : Prop :=
  ∃ ys : List XG, grs ys = gs ∧ RdR E w v ys ∧ ∀ y ∈ ys, RdE F w y.ev y.gr.es ∧ IntsV w y.iv y.gr.i ∧ IntsV w y.ov y.gr.o
def rowsG (ys : List XG) : List Asrt := ys.flatMap fun y => [OE y.ev y.xs, OI y.iv y.is, OI y.ov y.os]
/-- A list of graphs that is the call's own. -/
def OG (v : Value) (ys : List XG) : Asrt := Bag (OR graphE v ys :: rowsG ys)
theorem RdGs.carry {E : Lay XG} {F : Lay XE} {w w' : World} {v : Value} {gs : List Gr} (h : RdGs E F w v gs) (hg : w.grownBy w' none) : RdGs E F w' v gs := by
  obtain ⟨xs, h1, h2, h3⟩ := h
  exact ⟨xs, h1, h2.carry hg, fun x hx => ⟨(h3 x hx).1.carry hg, (h3 x hx).2.1.carry hg, (h3 x hx).2.2.carry hg⟩⟩
theorem grs_len (ys : List XG) : (grs ys).length = ys.length := by simp [grs]
theorem RdGs.shape {E : Lay XG} {F : Lay XE} {w : World} {v : Value} {gs : List Gr} (h : RdGs E F w v gs) : ∃ a c, v = .slice a gs.length c := by
  obtain ⟨xs, h1, h2, _⟩ := h
  obtain ⟨a, c, rfl, _⟩ := h2
  exact ⟨a, c, by rw [← h1, grs_len]⟩
theorem OG.read {w : World} {v : Value} {ys : List XG} (h : (OG v ys).holds w) : RdGs graphE edgeE w v (grs ys) := by
  have ha := Sep.all (show Sep w (OR graphE v ys :: rowsG ys) from h)
  have hm : ∀ y ∈ ys, ∀ A ∈ [OE y.ev y.xs, OI y.iv y.is, OI y.ov y.os], A.holds w := fun y hy A hA => ha A (List.mem_cons_of_mem _ (List.mem_flatMap.2 ⟨y, hy, hA⟩))
  refine ⟨ys, rfl, OwnR.read (show OwnR graphE 0 w v ys from ha (OR graphE v ys) (by simp)), fun y hy => ⟨?_, ?_, ?_⟩⟩
  · exact OE.read (hm y hy (OE y.ev y.xs) (by simp))
  · exact OwnInts.read (show OwnInts 0 w y.iv y.is from hm y hy (OI y.iv y.is) (by simp))
  · exact OwnInts.read (show OwnInts 0 w y.ov y.os from hm y hy (OI y.ov y.os) (by simp))
theorem rowsG_snoc (ys : List XG) (y : XG) : rowsG (ys ++ [y]) = rowsG ys ++ [OE y.ev y.xs, OI y.iv y.is, OI y.ov y.os] := by
  unfold rowsG
  rw [List.flatMap_append]
  simp
theorem OG_own {v : Value} {ys : List XG} : ∀ k, (OG v ys).sees k → (OG v ys).foot k := by
  rintro k ⟨A, hA, hk⟩
  refine ⟨A, hA, ?_⟩
  rcases List.mem_cons.1 hA with rfl | hA
  · exact hk
  · obtain ⟨x, _, hx⟩ := List.mem_flatMap.1 hA
    simp only [List.mem_cons, List.not_mem_nil, or_false] at hx
    rcases hx with rfl | rfl | rfl
    · exact OE_own k hk
    · exact hk
    · exact hk
theorem OG.shape {w : World} {v : Value} {ys : List XG} (h : (OG v ys).holds w) : ∃ a c, v = .slice a ys.length c := OwnR.shape (show OwnR graphE 0 w v ys from (show Sep w (OR graphE v ys :: rowsG ys) from h).hd)
def gr00 : Gr := ⟨0, [], [], []⟩
theorem grs_at {xs : List XG} {i : Nat} : (grs xs).getD i gr00 = (xs.getD i xg0).gr := by
  unfold grs
  rw [List.getD_eq_getElem?_getD, List.getElem?_map, List.getD_eq_getElem?_getD]
  cases xs[i]? <;> rfl
/-- What every later world holds of graph i. -/
theorem RdGs.atK {E : Lay XG} {F : Lay XE} (h1 : E.sz = 4) (h2 : E.cs = graphC) {w : World} {a : Option Addr} {n c : Nat} {gs : List Gr} (h : RdGs E F w (.slice a n c) gs) {i : Nat} (hi : i < gs.length) :
    ∃ b o ev iv ov, a = some ⟨b, o, none⟩ ∧ ∀ W, w.grownBy W none → (W.cell? ⟨b, o + i * 4, none⟩ = some (.int .i64 (gs.getD i gr00).n) ∧ W.cell? ⟨b, o + i * 4 + 1, none⟩ = some ev ∧
      W.cell? ⟨b, o + i * 4 + 2, none⟩ = some iv ∧ W.cell? ⟨b, o + i * 4 + 3, none⟩ = some ov) ∧ RdE F W ev (gs.getD i gr00).es ∧ IntsV W iv (gs.getD i gr00).i ∧ IntsV W ov (gs.getD i gr00).o := by
  obtain ⟨xs, rfl, hr, hx⟩ := h
  have hil : i < xs.length := by simpa [grs] using hi
  obtain ⟨b, o, rfl, hb, hc⟩ := hr.at hil
  rw [grs_at, List.getD_eq_getElem?_getD, List.getElem?_eq_getElem hil]
  simp only [Option.getD_some]
  have hm := hx xs[i] (List.getElem_mem _)
  refine ⟨b, o, xs[i].ev, xs[i].iv, xs[i].ov, rfl, fun W hg => ⟨⟨?_, ?_, ?_, ?_⟩, hm.1.carry hg, hm.2.1.carry hg, hm.2.2.carry hg⟩⟩
  · refine (World.cell?_of_block (a := ⟨b, o + i * 4, none⟩) (hg.block b hb (by simp))).trans ?_
    have := hc 0 (by omega)
    rw [h1, h2] at this
    exact this
  · refine (World.cell?_of_block (a := ⟨b, o + i * 4 + 1, none⟩) (hg.block b hb (by simp))).trans ?_
    have := hc 1 (by omega)
    rw [h1, h2] at this
    exact this
  · refine (World.cell?_of_block (a := ⟨b, o + i * 4 + 2, none⟩) (hg.block b hb (by simp))).trans ?_
    have := hc 2 (by omega)
    rw [h1, h2] at this
    exact this
  · refine (World.cell?_of_block (a := ⟨b, o + i * 4 + 3, none⟩) (hg.block b hb (by simp))).trans ?_
    have := hc 3 (by omega)
    rw [h1, h2] at this
    exact this
/-! ### sizes -/
def totGs : List Gr → Nat
  | [] => 0
  | g :: gs => totG g + totGs gs
theorem totGs_take (gs : List Gr) (k : Nat) (hk : k < gs.length) : totGs (gs.take (k + 1)) = totGs (gs.take k) + totG (gs.getD k gr00) := by
  induction gs generalizing k with
  | nil => simp at hk
  | cons e es ih =>
    cases k with
    | zero => simp [totGs]
    | succ k =>
      have := ih k (by simpa using hk)
      simp only [List.take_succ_cons, totGs, List.getD_cons_succ]
      omega
theorem totGs_le (gs : List Gr) (k : Nat) : totGs (gs.take k) ≤ totGs gs := by
  induction gs generalizing k with
  | nil => simp
  | cons e es ih =>
    cases k with
    | zero => simp [totGs]
    | succ k =>
      have := ih k
      simp only [List.take_succ_cons, totGs]
      omega
theorem totGs_mem {gs : List Gr} {g : Gr} (h : g ∈ gs) : totG g ≤ totGs gs := by
  induction gs with
  | nil => cases h
  | cons x es ih =>
    unfold totGs
    rcases List.mem_cons.1 h with rfl | h
    · omega
    · have := ih h
      omega
/-- A graph whose lengths are small. -/
structure Sm (g : Gr) : Prop where
  es : g.es.length ≤ 1048576
  i : g.i.length ≤ 1048576
  o : g.o.length ≤ 1048576
  ed : ∀ e ∈ g.es, e.i.length ≤ 1048576 ∧ e.o.length ≤ 1048576
theorem Sm.of {g : Gr} (h : totG g ≤ 1048576) : Sm g := by
  unfold totG at h
  refine ⟨by omega, by omega, by omega, fun e he => ?_⟩
  have := tot_mem he
  exact ⟨by omega, by omega⟩
theorem getD_mem {α : Type} {l : List α} {i : Nat} {d : α} (h : i < l.length) : l.getD i d ∈ l := by
  rw [List.getD_eq_getElem?_getD, List.getElem?_eq_getElem h]
  exact List.getElem_mem _
set_option maxHeartbeats 2000000 in
theorem szGraphS_any (a : Option Addr) (n c : Nat) (gs : List Gr) (left : Int) (w : World) (hv : RdGs argGrE argEdE w (.slice a n c) gs) (hn : n = gs.length) (h0 : 0 ≤ left) (h1 : left ≤ 1048576) (hl : n ≤ 9223372036854775807) (hok : ∀ g ∈ gs, okG g) :
    Calls Tryd.prog 16 #[.slice a n c, .int .i64 left] w fun x w' => x = .returned (.int .i64 (lft left (gs.length + totGs gs))) ∧ w.grownBy w' none := by
  have HV := Lib.hid hv; have HOK := Lib.hid hok
  have HN := Lib.hid hn
  clear hv hok
  have hwr := wrap_id (x := left - n) (by omega) (by omega)
  by_cases h : left - n < 0
  · rw [show lft left (gs.length + totGs gs) = -1 by unfold lft; rw [if_pos (by omega)]]
    clear hn
    go_enter Tryd.func16, Tryd.ntmps16
    go_wp2
    go_ret
    exact ⟨rfl, grownBy_refl _ _⟩
  · obtain ⟨m, hm⟩ : ∃ m, m = left - n := ⟨_, rfl⟩
    have hre : lft left (gs.length + totGs gs) = lft m (totGs gs) := by
      unfold lft
      rw [← hn, show left - ((n + totGs gs : Nat) : Int) = m - (totGs gs : Int) by omega]
    rw [hre]
    have hm0 : 0 ≤ m := by omega
    have hm1 : m ≤ 1048576 := by omega
    have HMM := Lib.hid hm
    have hwr2 : IntKind.i64.wrap (left - (n : Int)) = m := by rw [hm]; exact hwr
    have hm00 : ¬ m < 0 := by omega
    clear hre hn hwr h hm
    go_enter Tryd.func16, Tryd.ntmps16
    go_wp2_with fail
    go_loopw [1, 5] (fun lv i wr => ∃ k : Nat, k ≤ n ∧ i = .int .i64 k ∧ lv = .int .i64 (m - totGs (gs.take k)) ∧ 0 ≤ m - (totGs (gs.take k) : Int) ∧ w.grownBy wr none) (fun _ i _ => n - (intOf i).toNat)
    case atStart => exact ⟨0, by omega, rfl, by simp [totGs], by simp [totGs]; exact hm0, grownBy_refl _ _⟩
    case round =>
      obtain ⟨k, hk, rfl, rfl, hp, hg⟩ := hrel
      have HG := Lib.hid hg
      clear hg
      by_cases hlt : k < n
      · have hke : k < gs.length := by rw [← HN.out]; exact hlt
        obtain ⟨b, o, ev, iv, ov, rfl, hat⟩ := HV.out.atK rfl rfl hke
        obtain ⟨⟨q0, q1, q2, q3⟩, he, hi, ho⟩ := hat wr HG.out
        have HT := Lib.hid (totGs_take gs k hke)
        have HLE := Lib.hid (totGs_le gs (k + 1))
        have HC := Lib.hid (szGraph_any (gs.getD k gr00).n ev iv ov (gs.getD k gr00) (m - totGs (gs.take k)) wr he hi ho hp (by omega) (HOK.out _ (getD_mem hke)))
        unfold grV at HC
        obtain ⟨b1, c1, rfl⟩ := he.shape
        obtain ⟨b2, c2, rfl⟩ := hi.shape
        obtain ⟨b3, c3, rfl⟩ := ho.shape
        generalize gs.getD k gr00 = e at *
        generalize totGs (gs.take k) = t at *
        generalize hS : totGs (gs.take (k + 1)) = s at *
        clear hi ho he hke hat
        by_cases h2 : m - (s : Int) < 0
        · have he : lft (m - t) (totG e) = -1 := by unfold lft; rw [if_pos (by have := HT.out; omega)]
          rw [he] at HC
          have hfin : lft m (totGs gs) = -1 := by unfold lft; rw [if_pos (by have := HLE.out; omega)]
          have HF := Lib.hid hfin
          clear he hfin hp h2
          obtain ⟨en, es, ei, eo⟩ := e
          simp only at q0 q1 q2 q3 HC
          generalize es.length = l1 at *
          generalize ei.length = l2 at *
          generalize eo.length = l3 at *
          go_wp2_with (
            go_at_call 17
            with_reducible refine HC.out.mono ?_
            rintro x w2 ⟨rfl, hg2⟩
            have HG2 := Lib.hid (grownBy_trans HG.out hg2)
            clear hg2)
          go_ret
          exact ⟨(by rw [HF.out]; try rfl), HG2.out⟩
        · have he : lft (m - t) (totG e) = m - s := by unfold lft; rw [if_neg (by have := HT.out; omega)]; have := HT.out; omega
          rw [he] at HC
          have hp2 : ¬ (m - (s : Int)) < 0 := h2
          obtain ⟨r, hr⟩ : ∃ r, r = m - (s : Int) := ⟨_, rfl⟩
          rw [← hr] at HC hp2
          have HR := Lib.hid hr
          clear he h2 hr hp
          obtain ⟨en, es, ei, eo⟩ := e
          simp only at q0 q1 q2 q3 HC
          generalize es.length = l1 at *
          generalize ei.length = l2 at *
          generalize eo.length = l3 at *
          go_wp2_with (
            go_at_call 17
            with_reducible refine HC.out.mono ?_
            rintro x w2 ⟨rfl, hg2⟩
            have HG2 := Lib.hid (grownBy_trans HG.out hg2)
            clear hg2)
          go_roundw
          case rel => exact ⟨k + 1, by omega, by go_num, by rw [hS, HR.out], by rw [hS, ← HR.out]; omega, HG2.out⟩
          case measure => simp [intOf]; omega
      · have hkn : k = n := by omega
        subst hkn
        have htk : gs.take k = gs := List.take_of_length_le (by rw [← HN.out]; exact Nat.le_refl _)
        have hfin : lft m (totGs gs) = m - totGs gs := by unfold lft; rw [htk] at hp; rw [if_neg (by omega)]
        rw [htk]
        have HF := Lib.hid hfin
        clear hfin hlt
        go_wp2
        go_ret
        exact ⟨(by rw [HF.out]; try rfl), HG.out⟩
end Go.Proofs.YtlpgjnjhhgjkmaaDoor

/-
  Own copies of lists of graphs; equal lists of graphs. Conditions: lengths are small.
-/
namespace Go.Proofs.YtlpgjnjhhgjkmaaDoor
open Go.RowKit
set_option linter.unusedVariables false
set_option maxRecDepth 100000

theorem info_graph : (Tryd.prog.info? graphE.ty).map (fun i => (i.zero, i.size, i.bytes)) = some (some (.agg #[.int .i64 0, .slice none 0 0, .slice none 0 0, .slice none 0 0]), graphE.sz, 80) := by kernel_rfl
theorem zeroGraph_cells : (Value.agg #[.int .i64 0, .slice none 0 0, .slice none 0 0, .slice none 0 0]).cells.toList = graphE.cs xg0 := rfl
theorem graph_cells {w : World} {g n cap B : Nat} {xs : List XG} (h : OwnR graphE B w (.slice (some ⟨g, 0, none⟩) n cap) xs) (hn : n = xs.length) {i : Nat} (hi : i < xs.length) :
    w.cell? ⟨g, i * 4, none⟩ = some (.int .i64 (xs.getD i xg0).n) ∧ w.cell? ⟨g, i * 4 + 1, none⟩ = some (xs.getD i xg0).ev ∧
      w.cell? ⟨g, i * 4 + 2, none⟩ = some (xs.getD i xg0).iv ∧ w.cell? ⟨g, i * 4 + 3, none⟩ = some (xs.getD i xg0).ov := by
  have e : xs.getD i xg0 = xs[i] := by rw [List.getD_eq_getElem?_getD, List.getElem?_eq_getElem hi]; rfl
  rw [e]
  have hc := fun j hj => h.cell hn (i := i) (j := j) hi hj
  exact ⟨hc 0 (by decide), hc 1 (by decide), hc 2 (by decide), hc 3 (by decide)⟩
theorem graph_free {w : World} {g n cap B : Nat} {xs : List XG} (h : OwnR graphE B w (.slice (some ⟨g, 0, none⟩) n cap) xs) (hn : n = xs.length) (i : Nat) :
    w.frozen? ⟨g, i * 4, none⟩ = false ∧ w.frozen? ⟨g, i * 4 + 1, none⟩ = false ∧ w.frozen? ⟨g, i * 4 + 2, none⟩ = false ∧ w.frozen? ⟨g, i * 4 + 3, none⟩ = false :=
  ⟨h.free hn _, h.free hn _, h.free hn _, h.free hn _⟩
/-- all four cells of a graph are written -/
theorem Sep.setG {w : World} {g n cap : Nat} {xs : List XG} {l : List Asrt} (h : Sep w (OR graphE (.slice (some ⟨g, 0, none⟩) n cap) xs :: l)) (hn : n = xs.length) {i : Nat} (hi : i < xs.length) (y : XG) :
    Sep ((((w.setCell ⟨g, i * 4, none⟩ (.int .i64 y.n)).setCell ⟨g, i * 4 + 1, none⟩ y.ev).setCell ⟨g, i * 4 + 2, none⟩ y.iv).setCell ⟨g, i * 4 + 3, none⟩ y.ov)
      (OR graphE (.slice (some ⟨g, 0, none⟩) n cap) (xs.set i y) :: l) := by
  have h1 := h.setR (E := graphE) hn (i := i) (j := 0) (y := ⟨y.n, xs[i].ev, [], xs[i].iv, [], xs[i].ov, []⟩) (u := .int .i64 y.n) hi (by decide) rfl
  have h2 := h1.setR (E := graphE) (by simpa using hn) (i := i) (j := 1) (y := ⟨y.n, y.ev, [], xs[i].iv, [], xs[i].ov, []⟩) (u := y.ev) (by simpa using hi) (by decide) (by simp [graphE, graphC])
  have h3 := h2.setR (E := graphE) (by simpa using hn) (i := i) (j := 2) (y := ⟨y.n, y.ev, [], y.iv, [], xs[i].ov, []⟩) (u := y.iv) (by simpa using hi) (by decide) (by simp [graphE, graphC])
  have h4 := h3.setR (E := graphE) (by simpa using hn) (i := i) (j := 3) (y := y) (u := y.ov) (by simpa using hi) (by decide) (by simp [graphE, graphC])
  simp only [List.set_set] at h4
  exact h4
/-- Three parts behind the first go into the bag. -/
theorem Sep.bagThree {w : World} {X A B C : Asrt} {L r : List Asrt} (h : Sep w (X :: A :: B :: C :: Bag L :: r)) : Sep w (X :: Bag (L ++ [A, B, C]) :: r) := by
  have h1 := Sep.unbag h.s5
  have h2 : Sep w ((L ++ [A, B, C]) ++ (X :: r)) := Sep.perm (by rw [List.append_assoc]; exact List.Perm.append_left L (List.perm_middle (a := X) (l₁ := [A, B, C]) (l₂ := r)).symm) h1
  exact (Sep.bag h2).s2
theorem Sep.graft3 {w w' : World} {A C D : Asrt} {l : List Asrt} (h : Sep w l) (h' : Sep w' [A, C, D, KeepA w]) (hA : ∀ k, A.sees k → A.foot k) (hC : ∀ k, C.sees k → C.foot k) (hD : ∀ k, D.sees k → D.foot k) : Sep w' (A :: C :: D :: l) := by
  have hb : Sep w' [Bag [A, C, D], KeepA w] := Sep.bag (l := [A, C, D]) h'
  have h2 := h.graft1 hb (fun k hk => by
    obtain ⟨X, hX, hs⟩ := hk
    refine ⟨X, hX, ?_⟩
    simp only [List.mem_cons, List.not_mem_nil, or_false] at hX
    rcases hX with rfl | rfl | rfl
    · exact hA k hs
    · exact hC k hs
    · exact hD k hs)
  exact Sep.unbag h2
theorem fillG_set {xs : List XG} {n k : Nat} {x : XG} (hl : xs.length = k) (hk : k < n) : (xs ++ List.replicate (n - k) xg0).set k x = (xs ++ [x]) ++ List.replicate (n - (k + 1)) xg0 := by
  rw [List.set_append_right _ _ (by omega), hl, Nat.sub_self, show n - k = (n - (k + 1)) + 1 by omega, List.replicate_succ, List.set_cons_zero, List.append_assoc]
  rfl
theorem grs_take {gs : List Gr} {xs : List XG} {x : XG} {k : Nat} (h : grs xs = gs.take k) (hk : k < gs.length) (hx : x.gr = gs.getD k gr00) : grs (xs ++ [x]) = gs.take (k + 1) := by
  unfold grs at h ⊢
  rw [List.map_append, h, List.take_succ_eq_append_getElem hk, List.map_cons, List.map_nil, hx, List.getD_eq_getElem?_getD, List.getElem?_eq_getElem hk]
  rfl
set_option maxHeartbeats 2000000 in
theorem toGraphS_any (v : Value) (gs : List Gr) (w : World) (hv : RdGs argGrE argEdE w v gs) (hl : gs.length ≤ 1048576) (hle : ∀ g ∈ gs, Sm g) :
    Calls Tryd.prog 19 #[v] w fun e w' => ∃ g c xs, e = .returned (.slice (some ⟨g, 0, none⟩) gs.length c) ∧ grs xs = gs ∧ Sep w' [OG (.slice (some ⟨g, 0, none⟩) gs.length c) xs, KeepA w] := by
  obtain ⟨i0, hi, hz0, hz1, hz2⟩ := info_parts info_graph
  have HI := Lib.hid hi; have HZ0 := Lib.hid hz0; have HZ1 := Lib.hid hz1; have HZ2 := Lib.hid hz2
  have HV := Lib.hid hv; have HLE := Lib.hid hle
  obtain ⟨a, cap, rfl⟩ := hv.shape
  generalize hlen : gs.length = n at *
  have HL := Lib.hid hlen
  clear hi hz0 hz1 hz2 hv hlen hle
  go_enter Tryd.func19, Tryd.ntmps19
  go_wp2_with (
    at_make
    refine wpList_make_full _ rfl _ _ 31 rfl w.heap.size 34 i0 _ 4 Tryd.underlying31 HI.out HZ0.out HZ1.out _ _ _ _ n rfl rfl rfl rfl (by rw [HZ2.out]; omega) (by unfold maxLen; omega) (Nat.le_refl _) ?_
    intro w1 hown' hgr'
    have hs0 : Sep w1 [OR graphE (.slice (some ⟨w.heap.size, 0, none⟩) n n) (List.replicate n xg0), KeepA w] := (Sep.start w).newR hgr' (OwnR.made zeroGraph_cells hown')
    have HS := Lib.hid hs0
    clear hs0 hown' hgr')
  go_loopw [4] (fun i wr => ∃ (k : Nat) (xs : List XG), k ≤ n ∧ i = .int .i64 k ∧ xs.length = k ∧ grs xs = gs.take k ∧ Sep wr [OR graphE (.slice (some ⟨w.heap.size, 0, none⟩) n n) (xs ++ List.replicate (n - k) xg0), Bag (rowsG xs), KeepA w]) (fun i _ => n - (intOf i).toNat)
  case atStart => exact ⟨0, [], by omega, rfl, rfl, rfl, by simpa [rowsG] using (HS.out.s2.noBag.s3 : Sep _ (OR graphE _ _ :: Bag [] :: KeepA w :: []))⟩
  case round =>
    obtain ⟨k, xs, hk, rfl, hxl, hxe, hs⟩ := hrel
    have HSX := Lib.hid hs; have HXE := Lib.hid hxe; have HXL := Lib.hid hxl
    clear hs hxe hxl HS
    by_cases hlt : k < n
    · have hke : k < gs.length := by rw [HL.out]; exact hlt
      obtain ⟨b, o, ev, iv, ov, rfl, hat⟩ := HV.out.atK rfl rfl hke
      obtain ⟨⟨q0, q1, q2, q3⟩, he, hi, ho⟩ := hat wr HSX.out.tl.tl.hd
      have hlm := HLE.out _ (getD_mem (d := gr00) hke)
      have HT := Lib.hid (toGraph_any ev iv ov (gs.getD k gr00) wr he hi ho (by have := hlm.es; omega) (by have := hlm.i; omega) (by have := hlm.o; omega) (fun e h => by have := hlm.ed e h; omega))
      unfold grV at HT
      have HTK := Lib.hid fun (x : XG) (hx : x.gr = gs.getD k gr00) => grs_take HXE.out hke hx
      have HFS := Lib.hid fun x => @fillG_set xs n k x HXL.out hlt
      have HLL := Lib.hid (show n = (xs ++ List.replicate (n - k) xg0).length by rw [List.length_append, List.length_replicate, HXL.out]; omega)
      obtain ⟨b1, c1, rfl⟩ := he.shape
      obtain ⟨b2, c2, rfl⟩ := hi.shape
      obtain ⟨b3, c3, rfl⟩ := ho.shape
      generalize gs.getD k gr00 = y at *
      obtain ⟨yn, ye, yi, yo⟩ := y
      simp only at HT q0 q1 q2 q3
      clear hke hi ho he hlm hat
      go_wp2_with (
        go_at_call 20
        with_reducible refine HT.out.mono ?_
        rintro e w2 ⟨u0, zs, u1, u2, rfl, hzs, hsg⟩
        have HZS := Lib.hid hzs
        obtain ⟨s0, r0, rfl⟩ := OE.shape hsg.hd
        obtain ⟨s1, r1, rfl⟩ := own_shape hsg.tl.hd
        obtain ⟨s2, r2, rfl⟩ := own_shape hsg.tl.tl.hd
        have hs2 := HSX.out.graft3 hsg OE_own OI_own OI_own
        have hs3 := hs2.s4
        obtain ⟨f0, f1, f2, f3⟩ := graph_free hs3.hd HLL.out k
        obtain ⟨d0, d1, d2, d3⟩ := graph_cells hs3.hd HLL.out (i := k) (by rw [← HLL.out]; exact hlt)
        have hs4 := hs3.setG HLL.out (by rw [← HLL.out]; exact hlt) ⟨yn, .slice s0 zs.length r0, zs, .slice s1 yi.length r1, yi, .slice s2 yo.length r2, yo⟩
        rw [HFS.out] at hs4
        have hs5 := hs4.bagThree
        rw [← rowsG_snoc xs ⟨yn, .slice s0 zs.length r0, zs, .slice s1 yi.length r1, yi, .slice s2 yo.length r2, yo⟩] at hs5
        have HS3 := Lib.hid hs5
        clear hsg hs2 hs3 hs4 hs5 hzs)
      go_roundw
      case rel => exact ⟨k + 1, xs ++ [⟨yn, .slice s0 zs.length r0, zs, .slice s1 yi.length r1, yi, .slice s2 yo.length r2, yo⟩], by omega, by go_num, by rw [List.length_append, HXL.out]; rfl, HTK.out _ (by unfold XG.gr; rw [HZS.out]), HS3.out⟩
      case measure => simp [intOf]; omega
    · have hkn : k = n := by omega
      subst hkn
      have hs := HSX.out
      rw [Nat.sub_self, List.replicate_zero, List.append_nil] at hs
      have hxe := HXE.out
      rw [List.take_of_length_le (by rw [HL.out]; exact Nat.le_refl _)] at hxe
      have HF := Lib.hid hs.intoBag
      have HXF := Lib.hid hxe
      clear hs hxe hlt
      go_wp2
      go_ret
      exact ⟨_, _, xs, rfl, HXF.out, HF.out⟩
set_option maxHeartbeats 2000000 in
theorem eqGraphS_same (v1 v2 : Value) (gs : List Gr) (w : World) (h1 : RdGs graphE edgeE w v1 gs) (h2 : RdGs graphE edgeE w v2 gs) (l1 : gs.length ≤ 2000000) (hle : ∀ g ∈ gs, Sm g) :
    Calls Tryd.prog 12 #[v1, v2] w fun e w' => e = .returned (.bool true) ∧ w.grownBy w' none := by
  have H1 := Lib.hid h1; have H2 := Lib.hid h2; have HLE := Lib.hid hle
  obtain ⟨a1, c1, rfl⟩ := h1.shape
  obtain ⟨a2, c2, rfl⟩ := h2.shape
  clear h1 h2 hle
  generalize hlx : gs.length = l at *
  have HLX := Lib.hid hlx
  clear hlx
  go_enter Tryd.func12, Tryd.ntmps12
  go_wp2
  go_loopw [5] (fun i wr => ∃ k : Nat, k ≤ l ∧ i = .int .i64 k ∧ w.grownBy wr none) (fun i _ => l - (intOf i).toNat)
  case atStart => exact ⟨0, by omega, rfl, grownBy_refl _ _⟩
  case round =>
    obtain ⟨k, hk, rfl, hg⟩ := hrel
    have HG := Lib.hid hg
    clear hg
    by_cases hlt : k < l
    · have hke : k < gs.length := by rw [HLX.out]; exact hlt
      have hdr : w.grownBy wr.drew none := ⟨HG.out.os, HG.out.tape, HG.out.output, HG.out.size, HG.out.block⟩
      obtain ⟨b1, o1, e1, i1, t1, rfl, hat1⟩ := H1.out.atK rfl rfl hke
      obtain ⟨b2, o2, e2, i2, t2, rfl, hat2⟩ := H2.out.atK rfl rfl hke
      obtain ⟨⟨p0, p1, p2, p3⟩, he1, hi1, ho1⟩ := hat1 wr HG.out
      obtain ⟨⟨q0, q1, q2, q3⟩, he2, hi2, ho2⟩ := hat2 wr HG.out
      have hlm := HLE.out _ (getD_mem (d := gr00) hke)
      have hdw : wr.grownBy wr.drew none := ⟨rfl, rfl, rfl, Nat.le_refl _, fun _ _ _ => rfl⟩
      have HC := Lib.hid (eqGraph_same e1 i1 t1 e2 i2 t2 (gs.getD k gr00) wr.drew (he1.carry hdw) (hi1.carry hdw) (ho1.carry hdw) (he2.carry hdw) (hi2.carry hdw) (ho2.carry hdw) (by have := hlm.es; omega) (by have := hlm.i; omega) (by have := hlm.o; omega) (fun e h => by have := hlm.ed e h; omega))
      unfold grV at HC
      have HDR := Lib.hid hdr
      obtain ⟨s0, r0, rfl⟩ := he1.shape
      obtain ⟨s1, r1, rfl⟩ := hi1.shape
      obtain ⟨s2, r2, rfl⟩ := ho1.shape
      obtain ⟨s3, r3, rfl⟩ := he2.shape
      obtain ⟨s4, r4, rfl⟩ := hi2.shape
      obtain ⟨s5, r5, rfl⟩ := ho2.shape
      generalize gs.getD k gr00 = y at *
      obtain ⟨yn, ye, yi, yo⟩ := y
      simp only at p0 p1 p2 p3 q0 q1 q2 q3 HC
      clear hke hlm hdw hdr he1 he2 hi1 hi2 ho1 ho2 hat1 hat2
      generalize ye.length = m0 at *
      generalize yi.length = m1 at *
      generalize yo.length = m2 at *
      go_wp2_with fail
      refine wp_region_still_tail 8 (by kernel_rfl) (by kernel_rfl) ?_
      simp only [List.take_succ_cons, List.take_zero, List.drop_succ_cons, List.drop_zero]
      repeat still_step
      refine wpStill_nil ?_
      change wpList _ _ _ _ _ wr.drew
      go_wp2_with (
        go_at_call 22
        with_reducible refine HC.out.mono ?_
        rintro e w2 ⟨rfl, hg⟩
        have HG2 := Lib.hid (grownBy_trans HDR.out hg)
        clear hg)
      go_roundw
      case rel => exact ⟨k + 1, by omega, by go_num, HG2.out⟩
      case measure => simp [intOf]; omega
    · have hkl : k = l := by omega
      subst hkl
      go_wp2
      go_ret
      exact ⟨rfl, HG.out⟩
end Go.Proofs.YtlpgjnjhhgjkmaaDoor

/-
  Appending the items of a list that can be read: nil, empty or not. Conditions: lengths are small.
-/
namespace Go.Proofs.YtlpgjnjhhgjkmaaDoor
open Go.RowKit
set_option linter.unusedVariables false
set_option maxRecDepth 100000

theorem run_none_any {P : Program} (w : World) (base : Nat) (t ty e : TypeId) (i : TypeInfo) (size : Nat) (ht : P.underlying t = some (.slice e)) (hi : P.info? e = some i)
    (v : Value) (n : Nat) (xs : List Value) (hown : w.ownsRow base e size v n xs) (d : Option Addr) (c : Nat) : (Builtin.append_ #[t, t] ty #[v, .slice d 0 c]).run P w = .ok v w := by
  cases d with
  | none => exact run_nil_any w base t ty e i size ht hi v n xs hown c
  | some d =>
    rcases hown.2 with ⟨rfl, rfl⟩ | ⟨g, cap, cur, rfl, _, _, hnc, _⟩
    · simp [Builtin.append_, run_underlying ht, sizeOf, typeInfo, hi, Builtin.lenOf, Builtin.firstCells, loadCells, go_sem]
    · simp [Builtin.append_, run_underlying ht, sizeOf, typeInfo, hi, Builtin.lenOf, Builtin.firstCells, hnc, loadCells, storeCells, go_sem]
section
variable {α : Type} {E : Lay α} {ops : Array Oper} {rest : List Oper} {o : Oper} {a : Act} {Q : Exit → Act → World → Prop} {K : Act → World → Prop} {Ex : Prop} {w : World} {v u : Value} {xs ys : List α} {l : List Asrt} {t : TypeId} {z : Value} {bytes : Nat} {zs is : List Int}
theorem rdR_news {d : Addr} {n c : Nat} (h : RdR E w (.slice (some d) n c) ys) : ∀ j u, (ys.flatMap E.cs)[j]? = some u → w.cell? (d.add j) = some u := by
  intro j u hj
  obtain ⟨a', cap', he, h⟩ := h
  cases he
  have hjl : j < ys.length * E.sz := by
    rcases Nat.lt_or_ge j (ys.length * E.sz) with h | h
    · exact h
    · rw [List.getElem?_eq_none (by rw [flat_len]; exact h)] at hj; cases hj
  have hne : ys ≠ [] := by
    intro h0
    subst h0
    simp at hjl
  obtain ⟨d', hd, hs, hdb, hc⟩ := h hne
  cases hd
  obtain ⟨db, dof, ds⟩ := d
  simp only at hs
  subst hs
  have h1 : j / E.sz < ys.length := Nat.div_lt_of_lt_mul (by rw [Nat.mul_comm]; exact hjl)
  have h2 : j % E.sz < E.sz := Nat.mod_lt _ E.pos
  have h3 := hc (j / E.sz) h1 (j % E.sz) h2
  have h4 := flat_at E ys h1 h2
  rw [show j / E.sz * E.sz + j % E.sz = j by rw [Nat.mul_comm]; exact Nat.div_add_mod _ _] at h4
  rw [← h4, hj] at h3
  simp only at h3
  rw [Nat.add_assoc, show j / E.sz * E.sz + j % E.sz = j by rw [Nat.mul_comm]; exact Nat.div_add_mod _ _] at h3
  unfold Addr.add
  split
  · next h0 => subst h0; simpa using h3
  · exact h3
/-- 'append(out, ys...)', out the call's own, ys readable. -/
theorem wp_app_Rs (hinfo : (Tryd.prog.info? E.ty).map (fun i => (i.zero, i.size, i.bytes)) = some (some z, E.sz, bytes)) (hzs : z.cells.size = E.sz) (hby : bytes ≤ 10000) (ht : Tryd.prog.underlying t = some (.slice E.ty)) (hone : ∀ y ∈ ys, ∀ u ∈ E.cs y, u.oneCell' = true)
    (s x : Operand) (ho : o.op = .call { callee := .builtin .append, args := #[s, x], argTypes := #[t, t] })
    (hs : a.eval s = v) (hx : a.eval x = u) (H : Sep w (OR E v xs :: l)) (hu : RdR E w u ys) (hl : xs.length + ys.length ≤ 10000000)
    (h : ∀ v' w', Sep w' (OR E v' (xs ++ ys) :: l) → K (a.put o.dst v') w') : o.wp Tryd.prog a w K Q := by
  obtain ⟨i0, hi, hz0, hz1, hz2⟩ := info_parts hinfo
  obtain ⟨ua, uc, rfl⟩ := hu.shape
  by_cases hy : ys = []
  · subst hy
    have hrun := run_none_any (P := Tryd.prog) w 0 t o.type E.ty i0 E.sz ht hi v xs.length _ H.hd ua uc
    unfold Oper.wp execOp
    simp only [ho, resolve, invoke, builtin, Sem.run_bind, Sem.run_pure, Result.andThen_ok, List.map_toArray, List.map_cons, List.map_nil, hs, hx, List.length_nil, hrun]
    exact h v w (by simpa using H)
  · have hpos : 0 < ys.length := List.length_pos_iff.2 hy
    obtain ⟨d, rfl⟩ : ∃ d, ua = some d := by
      obtain ⟨a', c', he, h⟩ := hu
      obtain ⟨d, hd, _⟩ := h hy
      cases he
      exact ⟨d, hd⟩
    have hb : (xs.length + ys.length) * bytes ≤ 140737488355328 := Nat.le_trans (Nat.mul_le_mul hl hby) (by decide)
    refine wp_append_lies (P := Tryd.prog) _ s x t ho 0 E.ty i0 z E.sz bytes ht hi hz0 hz1 hz2 hzs E.pos v xs.length (xs.flatMap E.cs) hs H.hd
      d ys.length uc (ys.flatMap E.cs) hx (flat_len E ys) (rdR_news hu) (fun u hu => by obtain ⟨y, hy, hy'⟩ := List.mem_flatMap.1 hu; exact hone y hy u hy') hpos (by unfold maxLen; omega) hb (Nat.zero_le _) _ rfl ?_
    intro g cap w1 hown' hgrow hg _
    have ho' : OwnR E 0 w1 (.slice (some ⟨g, 0, none⟩) (xs.length + ys.length) cap) (xs ++ ys) := by
      unfold OwnR
      rw [List.length_append, List.flatMap_append]
      exact hown'
    refine h _ w1 (H.upd' (Only.of_grown (S := Hits v) hgrow fun k hk => hk) ho' fun k hk => ?_)
    have : g = k := by simpa [OR, Hits, Value.ownBlock] using hk
    subst this
    exact hg.imp id (fun h => Nat.le_of_eq h.symm)
theorem app_Rs (hinfo : (Tryd.prog.info? E.ty).map (fun i => (i.zero, i.size, i.bytes)) = some (some z, E.sz, bytes)) (hzs : z.cells.size = E.sz) (hby : bytes ≤ 10000) (ht : Tryd.prog.underlying t = some (.slice E.ty)) (hone : ∀ y ∈ ys, ∀ u ∈ E.cs y, u.oneCell' = true)
    (hgd : o.guard = none) (s x : Operand) (ho : o.op = .call { callee := .builtin .append, args := #[s, x], argTypes := #[t, t] })
    (hs : a.eval s = v) (hx : a.eval x = u) (H : Sep w (OR E v xs :: l)) (hu : RdR E w u ys) (hl : xs.length + ys.length ≤ 10000000)
    (h : ∀ v' w', Sep w' (OR E v' (xs ++ ys) :: l) → wpList Tryd.prog ops Q rest (a.put o.dst v') w') : wpList Tryd.prog ops Q (o :: rest) a w :=
  wpList_plain hgd fun _ hK => wp_app_Rs hinfo hzs hby ht hone s x ho hs hx H hu hl fun v' w' h1 => hK _ _ (h v' w' h1)
theorem IntsV.news {d : Addr} {n c : Nat} (h : IntsV w (.slice (some d) n c) is) : ∀ j u, (is.map (Value.int .i64))[j]? = some u → w.cell? (d.add j) = some u := by
  intro j u hj
  obtain ⟨a', cap', he, h⟩ := h
  cases he
  have hjl : j < is.length := by
    rcases Nat.lt_or_ge j is.length with h | h
    · exact h
    · rw [List.getElem?_eq_none (by simpa using h)] at hj; cases hj
  obtain ⟨d', hd, hs, hdb, hc⟩ := h (by intro h0; subst h0; simp at hjl)
  cases hd
  have h3 := hc j hjl
  simp [hjl] at hj
  subst hj
  obtain ⟨db, dof, ds⟩ := d
  simp only at hs
  subst hs
  unfold Addr.add
  split
  · next h0 => subst h0; simpa using h3
  · exact h3
/-- the same for lists of numbers -/
theorem wp_app_intsS (s x : Operand) (ho : o.op = .call { callee := .builtin .append, args := #[s, x], argTypes := #[24, 24] })
    (hs : a.eval s = v) (hx : a.eval x = u) (H : Sep w (OI v zs :: l)) (hu : IntsV w u is) (hl : zs.length + is.length ≤ 1000000000)
    (h : ∀ v' w', Sep w' (OI v' (zs ++ is) :: l) → K (a.put o.dst v') w') : o.wp Tryd.prog a w K Q := by
  obtain ⟨i0, hi, hz0, hz1, hz2⟩ := info_parts info_int
  obtain ⟨ua, uc, rfl⟩ := hu.shape
  by_cases hy : is = []
  · subst hy
    have hrun := run_none_any (P := Tryd.prog) w 0 24 o.type 3 i0 1 Tryd.underlying24 hi v zs.length _ H.hd ua uc
    unfold Oper.wp execOp
    simp only [ho, resolve, invoke, builtin, Sem.run_bind, Sem.run_pure, Result.andThen_ok, List.map_toArray, List.map_cons, List.map_nil, hs, hx, List.length_nil, hrun]
    exact h v w (by simpa using H)
  · have hpos : 0 < is.length := List.length_pos_iff.2 hy
    obtain ⟨d, rfl⟩ : ∃ d, ua = some d := by
      obtain ⟨a', c', he, h⟩ := hu
      obtain ⟨d, hd, _⟩ := h hy
      cases he
      exact ⟨d, hd⟩
    refine wp_append_lies (P := Tryd.prog) _ s x 24 ho 0 3 i0 (.int .i64 0) 1 8 Tryd.underlying24 hi hz0 hz1 hz2 rfl (by decide) v zs.length (zs.map (Value.int .i64)) hs H.hd
      d is.length uc (is.map (Value.int .i64)) hx (by simp) hu.news (fun u hu => by obtain ⟨y, _, rfl⟩ := List.mem_map.1 hu; rfl) hpos (by unfold maxLen; omega) (by omega) (Nat.zero_le _) _ rfl ?_
    intro g cap w1 hown' hgrow hg _
    have ho' : OwnInts 0 w1 (.slice (some ⟨g, 0, none⟩) (zs.length + is.length) cap) (zs ++ is) := by
      unfold OwnInts
      rw [List.length_append, List.map_append]
      exact hown'
    refine h _ w1 (H.upd' (Only.of_grown (S := Hits v) hgrow fun k hk => hk) ho' fun k hk => ?_)
    have : g = k := by simpa [OI, Hits, Value.ownBlock] using hk
    subst this
    exact hg.imp id (fun h => Nat.le_of_eq h.symm)
theorem app_intsS (hgd : o.guard = none) (s x : Operand) (ho : o.op = .call { callee := .builtin .append, args := #[s, x], argTypes := #[24, 24] })
    (hs : a.eval s = v) (hx : a.eval x = u) (H : Sep w (OI v zs :: l)) (hu : IntsV w u is) (hl : zs.length + is.length ≤ 1000000000)
    (h : ∀ v' w', Sep w' (OI v' (zs ++ is) :: l) → wpList Tryd.prog ops Q rest (a.put o.dst v') w') : wpList Tryd.prog ops Q (o :: rest) a w :=
  wpList_plain hgd fun _ hK => wp_app_intsS s x ho hs hx H hu hl fun v' w' h1 => hK _ _ (h v' w' h1)
end
end Go.Proofs.YtlpgjnjhhgjkmaaDoor

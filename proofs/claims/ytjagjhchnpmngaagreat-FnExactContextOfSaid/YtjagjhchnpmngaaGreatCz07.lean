/-
 Terms as lists of nodes behind one another, and as trees. Plain mathematics. Conditions: as each says.
-/
import Derived.Test.YtjagjhchnpmngaaGreatCz05
import Derived.Test.YtjagjhchnpmngaaGreatCz04
import Derived.Test.YtjagjhchnpmngaaGreatCz03
import Derived.Test.YtjagjhchnpmngaaGreatCz01
import Derived.Test.YtjagjhchnpmngaaGreatCz00
import Derived.Test.YtjagjhchnpmngaaGreatCz06
import Derived.Test.YtjagjhchnpmngaaGreatCz02
import Derived.Laws.IdiomStrings
set_option linter.unusedVariables false
set_option linter.unusedSimpArgs false
set_option maxRecDepth 100000
namespace Go.Proofs.YtjagjhchnpmngaaGreat
open Go.RowKit
abbrev noS : ByteArray := ⟨#[]⟩
structure Nd where
 k : Int
 v : Int
 s : ByteArray
def nd0 : Nd := ⟨0, 0, noS⟩
def lfTy (n : Nd) : Int × Int := if n.k = 1 then (n.v, n.v) else if n.k = 2 then (2, 2) else ((edW n.k).1, (edW n.k).2)
def lfV (n : Nd) : Bool := if n.k = 1 then decide (0 ≤ n.v ∧ n.v ≤ 12) else if n.k = 2 then decide (n.v = 0) else inB n.k 3 14 && valB n.k n.v
def lfB (n : Nd) : Bool := decide (n.s = noS) && lfV n
inductive Tr where
 | leaf (n : Nd)
 | seq (a b : Tr)
 | par (a b : Tr)
def Tr.nodes : Tr → List Nd
 | .leaf n => [n]
 | .seq a b => a.nodes ++ (b.nodes ++ [⟨15, 0, noS⟩])
 | .par a b => a.nodes ++ (b.nodes ++ [⟨16, 0, noS⟩])
def Tr.size : Tr → Nat
 | .leaf _ => 1
 | .seq a b => a.size + b.size + 1
 | .par a b => a.size + b.size + 1
def Tr.ty : Tr → Int × Int
 | .leaf n => lfTy n
 | .seq a b => (a.ty.1, b.ty.2)
 | .par a b => (a.ty.1 + b.ty.1, a.ty.2 + b.ty.2)
def Tr.Ok : Tr → Prop
 | .leaf n => lfB n = true
 | .seq a b => a.Ok ∧ b.Ok ∧ a.ty.2 = b.ty.1
 | .par a b => a.Ok ∧ b.Ok ∧ a.ty.1 + b.ty.1 ≤ 12 ∧ a.ty.2 + b.ty.2 ≤ 12
theorem Tr.nodes_len (t : Tr) : t.nodes.length = t.size := by
 induction t with
 | leaf n => rfl
 | seq a b iha ihb => simp only [Tr.nodes, Tr.size, List.length_append, List.length_cons, List.length_nil, iha, ihb]; omega
 | par a b iha ihb => simp only [Tr.nodes, Tr.size, List.length_append, List.length_cons, List.length_nil, iha, ihb]; omega
theorem Tr.size_pos (t : Tr) : 0 < t.size := by cases t <;> simp [Tr.size]
theorem edW_small (k : Int) : (edW k).1 ≤ 2 ∧ (edW k).2 ≤ 2 := by
 unfold edW
 repeat' split
 all_goals decide
theorem lfTy_small {n : Nd} (h : lfB n = true) : (0 ≤ (lfTy n).1 ∧ (lfTy n).1 ≤ 12) ∧ 0 ≤ (lfTy n).2 ∧ (lfTy n).2 ≤ 12 := by
 unfold lfB lfV at h
 rw [Bool.and_eq_true] at h
 have h2 := h.2
 have h3 := edW_small n.k
 unfold lfTy
 by_cases h1 : n.k = 1
 ·rw [if_pos h1] at h2 ⊢
  have := of_decide_eq_true h2
  exact ⟨this, this⟩
 ·rw [if_neg h1]
  by_cases h4 : n.k = 2
  ·rw [if_pos h4]; exact ⟨⟨by decide, by decide⟩, by decide, by decide⟩
  ·rw [if_neg h4]; simp only; omega
theorem Tr.ty_small {t : Tr} (h : t.Ok) : (0 ≤ t.ty.1 ∧ t.ty.1 ≤ 12) ∧ 0 ≤ t.ty.2 ∧ t.ty.2 ≤ 12 := by
 induction t with
 | leaf n => exact lfTy_small h
 | seq a b iha ihb =>
  obtain ⟨ha, hb, he⟩ := h
  exact ⟨(iha ha).1, (ihb hb).2⟩
 | par a b iha ihb =>
  obtain ⟨ha, hb, h1, h2⟩ := h
  have := iha ha; have := ihb hb
  simp only [Tr.ty]
  omega
def pstep (S : List Tr) (n : Nd) : Option (List Tr) :=
 if n.k = 15 ∨ n.k = 16 then
  if n.v = 0 ∧ n.s = noS then
   match S with
   | B :: A :: R => if n.k = 15 then (if A.ty.2 = B.ty.1 then some (.seq A B :: R) else none) else if A.ty.1 + B.ty.1 ≤ 12 ∧ A.ty.2 + B.ty.2 ≤ 12 then some (.par A B :: R) else none
   | _ => none
  else none
 else if lfB n = true then some (.leaf n :: S) else none
def prun (ns : List Nd) : Nat → Option (List Tr)
 | 0 => some []
 | i + 1 => (prun ns i).bind fun S => pstep S (ns.getD i nd0)
theorem prun_succ {ns : List Nd} {i : Nat} {S : List Tr} (h : prun ns i = some S) : prun ns (i + 1) = pstep S (ns.getD i nd0) := by
 show (prun ns i).bind _ = _
 rw [h]; rfl
theorem prun_stop {ns : List Nd} {i : Nat} (h : prun ns i = none) : ∀ j, i ≤ j → prun ns j = none := by
 intro j hj
 induction j with
 | zero => rw [show i = 0 by omega] at h; exact h
 | succ j ih =>
  rcases Nat.lt_or_ge i (j + 1) with h1 | h1
  ·show (prun ns j).bind _ = none
   rw [ih (by omega)]; rfl
  ·rw [show j + 1 = i by omega]; exact h
theorem prun_back {ns : List Nd} {i j : Nat} {S : List Tr} (h : prun ns j = some S) (hij : i ≤ j) : ∃ R, prun ns i = some R := by
 cases hr : prun ns i with
 | some R => exact ⟨R, rfl⟩
 | none => rw [prun_stop hr j hij] at h; cases h
theorem pstep_cases {S S' : List Tr} {n : Nd} (h : pstep S n = some S') :
 (lfB n = true ∧ ¬ (n.k = 15 ∨ n.k = 16) ∧ S' = .leaf n :: S) ∨
 (∃ A B R, S = B :: A :: R ∧ n = ⟨15, 0, noS⟩ ∧ A.ty.2 = B.ty.1 ∧ S' = .seq A B :: R) ∨
 (∃ A B R, S = B :: A :: R ∧ n = ⟨16, 0, noS⟩ ∧ (A.ty.1 + B.ty.1 ≤ 12 ∧ A.ty.2 + B.ty.2 ≤ 12) ∧ S' = .par A B :: R) := by
 unfold pstep at h
 obtain ⟨k, v, s⟩ := n
 simp only at h
 by_cases h1 : k = 15 ∨ k = 16
 ·rw [if_pos h1] at h
  by_cases h2 : v = 0 ∧ s = noS
  ·rw [if_pos h2] at h
   obtain ⟨rfl, rfl⟩ := h2
   match S, h with
   | [], h => simp at h
   | [_], h => simp at h
   | B :: A :: R, h =>
    by_cases h3 : k = 15
    ·subst h3
     simp only [if_true] at h
     by_cases h4 : A.ty.2 = B.ty.1
     ·rw [if_pos h4] at h
      exact Or.inr (Or.inl ⟨A, B, R, rfl, rfl, h4, (Option.some.inj h).symm⟩)
     ·rw [if_neg h4] at h; cases h
    ·have h5 : k = 16 := by omega
     subst h5
     simp only [if_neg h3] at h
     by_cases h4 : A.ty.1 + B.ty.1 ≤ 12 ∧ A.ty.2 + B.ty.2 ≤ 12
     ·rw [if_pos h4] at h
      exact Or.inr (Or.inr ⟨A, B, R, rfl, rfl, h4, (Option.some.inj h).symm⟩)
     ·rw [if_neg h4] at h; cases h
  ·rw [if_neg h2] at h; cases h
 ·rw [if_neg h1] at h
  by_cases h2 : lfB ⟨k, v, s⟩ = true
  ·rw [if_pos h2] at h
   exact Or.inl ⟨h2, h1, (Option.some.inj h).symm⟩
  ·rw [if_neg h2] at h; cases h
structure PInv (ns : List Nd) (i : Nat) (S : List Tr) : Prop where
 ok : ∀ t ∈ S, t.Ok
 nd : ns.take i = S.reverse.flatMap Tr.nodes
 back : ∀ T R, S = T :: R → T.size ≤ i ∧ prun ns (i - T.size) = some R
theorem prun_inv {ns : List Nd} : ∀ (i : Nat) (S : List Tr), i ≤ ns.length → prun ns i = some S → PInv ns i S := by
 intro i
 induction i using Nat.strongRecOn with
 | _ i ih =>
  intro S hi h
  match i, ih, hi, h with
  | 0, _, _, h =>
   have : S = [] := (Option.some.inj h).symm
   subst this
   exact ⟨by simp, by simp, by simp⟩
  | i + 1, ih, hi, h =>
   obtain ⟨P, hP⟩ := prun_back h (Nat.le_succ i)
   have hinv := ih i (Nat.lt_succ_self i) P (by omega) hP
   rw [prun_succ hP] at h
   have hte : ns.take (i + 1) = ns.take i ++ [ns.getD i nd0] := by
    rw [List.take_succ_eq_append_getElem (by omega), List.getD_eq_getElem?_getD, List.getElem?_eq_getElem (by omega)]; rfl
   rcases pstep_cases h with ⟨h1, _, rfl⟩ | ⟨A, B, R, rfl, h1, h2, rfl⟩ | ⟨A, B, R, rfl, h1, h2, rfl⟩
   ·refine ⟨?_, ?_, ?_⟩
    ·intro t ht
     rcases List.mem_cons.1 ht with rfl | ht
     ·exact h1
     ·exact hinv.ok t ht
    ·rw [hte, hinv.nd]; simp [Tr.nodes]
    ·intro T R0 e
     injection e with e1 e2
     subst e1 e2
     exact ⟨by simp [Tr.size], by simpa [Tr.size] using hP⟩
   all_goals
    obtain ⟨b1, b2⟩ := hinv.back B (A :: R) rfl
    have hB := B.size_pos
    have hinv2 := ih (i - B.size) (by omega) (A :: R) (by omega) b2
    obtain ⟨a1, a2⟩ := hinv2.back A R rfl
    refine ⟨?_, ?_, ?_⟩
    ·intro t ht
     rcases List.mem_cons.1 ht with rfl | ht
     ·first
       | exact ⟨hinv.ok A (by simp), hinv.ok B (by simp), h2⟩
     ·exact hinv.ok t (by simp [ht])
    ·rw [hte, hinv.nd, h1]; simp [Tr.nodes]
    ·intro T R0 e
     injection e with e1 e2
     subst e1 e2
     refine ⟨by simp only [Tr.size]; omega, ?_⟩
     rw [show i + 1 - (Tr.size _) = i - B.size - A.size by simp only [Tr.size]; omega]
     exact a2
def tmB (ns : List Nd) : Bool := decide (1 ≤ ns.length ∧ ns.length ≤ 400) && match prun ns ns.length with
 | some [_] => true
 | _ => false
theorem tmB_tree {ns : List Nd} (h : tmB ns = true) : (1 ≤ ns.length ∧ ns.length ≤ 400) ∧ ∃ t : Tr, t.Ok ∧ t.nodes = ns ∧ prun ns ns.length = some [t] := by
 unfold tmB at h
 rw [Bool.and_eq_true] at h
 refine ⟨of_decide_eq_true h.1, ?_⟩
 have h2 := h.2
 split at h2
 ·rename_i t ht
  have hv := prun_inv _ _ (Nat.le_refl _) ht
  refine ⟨t, hv.ok t (by simp), ?_, ht⟩
  have := hv.nd
  rw [List.take_length] at this
  simpa using this.symm
 ·cases h2
theorem prun_tree {ns : List Nd} (t : Tr) : ∀ (i : Nat) (S : List Tr), t.Ok → prun ns i = some S → i + t.size ≤ ns.length → (∀ j, j < t.size → ns.getD (i + j) nd0 = t.nodes.getD j nd0) → prun ns (i + t.size) = some (t :: S) := by
 induction t with
 | leaf n =>
  intro i S hok h hl hn
  have h0 := hn 0 (by simp [Tr.size])
  simp only [Tr.nodes, Nat.add_zero, List.getD_cons_zero] at h0
  show prun ns (i + 1) = _
  rw [prun_succ h, h0]
  have hk : ¬ (n.k = 15 ∨ n.k = 16) := by
   intro hk
   have hb : lfB n = true := hok
   unfold lfB lfV at hb
   rw [Bool.and_eq_true] at hb
   have h2 := hb.2
   rw [if_neg (by omega), if_neg (by omega), Bool.and_eq_true] at h2
   have h3 := h2.1
   rw [inB_iff] at h3
   omega
  unfold pstep
  rw [if_neg hk, if_pos (show lfB n = true from hok)]
 | seq a b iha ihb =>
  intro i S hok h hl hn
  obtain ⟨ha, hb, he⟩ := hok
  simp only [Tr.size] at hl hn
  have h1 := iha i S ha h (by omega) (fun j hj => by
   rw [hn j (by omega)]
   simp only [Tr.nodes]
   rw [List.getD_eq_getElem?_getD, List.getD_eq_getElem?_getD, List.getElem?_append_left (by rw [Tr.nodes_len]; exact hj)])
  have h2 := ihb (i + a.size) (a :: S) hb h1 (by omega) (fun j hj => by
   rw [show i + a.size + j = i + (a.size + j) by omega, hn (a.size + j) (by omega)]
   simp only [Tr.nodes]
   rw [List.getD_eq_getElem?_getD, List.getD_eq_getElem?_getD, List.getElem?_append_right (by rw [Tr.nodes_len]; omega), Tr.nodes_len, Nat.add_sub_cancel_left, List.getElem?_append_left (by rw [Tr.nodes_len]; exact hj)])
  have h3 := hn (a.size + b.size) (by omega)
  simp only [Tr.nodes] at h3
  rw [List.getD_eq_getElem?_getD (l := a.nodes ++ _), List.getElem?_append_right (by rw [Tr.nodes_len]; omega), Tr.nodes_len, Nat.add_sub_cancel_left, List.getElem?_append_right (by rw [Tr.nodes_len]; omega), Tr.nodes_len, Nat.sub_self] at h3
  show prun ns (i + (a.size + b.size + 1)) = _
  rw [show i + (a.size + b.size + 1) = (i + a.size + b.size) + 1 by omega, prun_succ h2, show i + a.size + b.size = i + (a.size + b.size) by omega, h3]
  simp [pstep, he]
 | par a b iha ihb =>
  intro i S hok h hl hn
  obtain ⟨ha, hb, he⟩ := hok
  simp only [Tr.size] at hl hn
  have h1 := iha i S ha h (by omega) (fun j hj => by
   rw [hn j (by omega)]
   simp only [Tr.nodes]
   rw [List.getD_eq_getElem?_getD, List.getD_eq_getElem?_getD, List.getElem?_append_left (by rw [Tr.nodes_len]; exact hj)])
  have h2 := ihb (i + a.size) (a :: S) hb h1 (by omega) (fun j hj => by
   rw [show i + a.size + j = i + (a.size + j) by omega, hn (a.size + j) (by omega)]
   simp only [Tr.nodes]
   rw [List.getD_eq_getElem?_getD, List.getD_eq_getElem?_getD, List.getElem?_append_right (by rw [Tr.nodes_len]; omega), Tr.nodes_len, Nat.add_sub_cancel_left, List.getElem?_append_left (by rw [Tr.nodes_len]; exact hj)])
  have h3 := hn (a.size + b.size) (by omega)
  simp only [Tr.nodes] at h3
  rw [List.getD_eq_getElem?_getD (l := a.nodes ++ _), List.getElem?_append_right (by rw [Tr.nodes_len]; omega), Tr.nodes_len, Nat.add_sub_cancel_left, List.getElem?_append_right (by rw [Tr.nodes_len]; omega), Tr.nodes_len, Nat.sub_self] at h3
  show prun ns (i + (a.size + b.size + 1)) = _
  rw [show i + (a.size + b.size + 1) = (i + a.size + b.size) + 1 by omega, prun_succ h2, show i + a.size + b.size = i + (a.size + b.size) by omega, h3]
  simp [pstep, he]
theorem prun_nodes {t : Tr} (h : t.Ok) : prun t.nodes t.size = some [t] := by
 have := prun_tree (ns := t.nodes) t 0 [] h rfl (by rw [Tr.nodes_len]; omega) (fun j hj => by rw [Nat.zero_add])
 rwa [Nat.zero_add] at this
def nodeC (n : Nd) : List Value := [.int .i64 n.k, .int .i64 n.v, .string n.s]
def nodeE : Lay Nd := ⟨145, 3, nodeC, fun _ => rfl, by decide⟩
def argNodeE : Lay Nd := ⟨139, 3, nodeC, fun _ => rfl, by decide⟩
theorem RdR.node {E : Lay Nd} (h1 : E.sz = 3) (h2 : E.cs = nodeC) {w : World} {a : Option Addr} {n c : Nat} {ns : List Nd} (h : RdR E w (.slice a n c) ns) {i : Nat} (hi : i < ns.length) :
 ∃ b o, a = some ⟨b, o, none⟩ ∧ b < w.heap.size ∧ w.cell? ⟨b, o + i * 3, none⟩ = some (.int .i64 (ns.getD i nd0).k) ∧ w.cell? ⟨b, o + i * 3 + 1, none⟩ = some (.int .i64 (ns.getD i nd0).v) ∧ w.cell? ⟨b, o + i * 3 + 2, none⟩ = some (.string (ns.getD i nd0).s) := by
 obtain ⟨b, o, ha, hb, hc⟩ := h.at hi
 have e : ns.getD i nd0 = ns[i] := by rw [List.getD_eq_getElem?_getD, List.getElem?_eq_getElem hi]; rfl
 rw [h1, h2] at hc
 rw [e]
 exact ⟨b, o, ha, hb, hc 0 (by decide), hc 1 (by decide), hc 2 (by decide)⟩
theorem flat_take {α : Type} (E : Lay α) : ∀ (xs : List α) (k : Nat), (xs.take k).flatMap E.cs = (xs.flatMap E.cs).take (k * E.sz)
 | [], k => by simp
 | x :: xs, 0 => by simp
 | x :: xs, k + 1 => by
  have e : (k + 1) * E.sz = (E.cs x).length + k * E.sz := by rw [E.len x, Nat.succ_mul]; omega
  rw [List.take_succ_cons, List.flatMap_cons, List.flatMap_cons, flat_take E xs k, e, List.take_length_add_append]
theorem OwnR.take {α : Type} {E : Lay α} {B : Nat} {w : World} {xs : List α} {g n cap : Nat} (h : OwnR E B w (.slice (some ⟨g, 0, none⟩) n cap) xs) (hn : xs.length = n) {k : Nat} (hk : k ≤ n) : OwnR E B w (.slice (some ⟨g, 0, none⟩) k cap) (xs.take k) := by
 obtain ⟨h1, h2⟩ := h
 have hl : (xs.take k).length = k := by rw [List.length_take]; omega
 rcases h2 with ⟨h2, _⟩ | ⟨g', cap', cur, hv, hb, hg, hle, hcm, hsz, htk⟩
 ·cases h2
 ·cases hv
  have hm : k * E.sz ≤ xs.length * E.sz := Nat.mul_le_mul_right _ (by omega)
  refine ⟨?_, Or.inr ⟨g, cap, cur, by rw [hl], hb, hg, by omega, hcm, hsz, ?_⟩⟩
  ·rw [flat_take, hl, List.length_take, h1]
   exact Nat.min_eq_left hm
  ·rw [hl, flat_take, ← htk, List.take_take]
   congr 1
   exact (Nat.min_eq_left hm).symm
theorem Sep.cutR {α : Type} {E : Lay α} {w : World} {l : List Asrt} {xs : List α} {g n cap : Nat} (h : Sep w (OR E (.slice (some ⟨g, 0, none⟩) n cap) xs :: l)) (hn : xs.length = n) {k : Nat} (hk : k ≤ n) : Sep w (OR E (.slice (some ⟨g, 0, none⟩) k cap) (xs.take k) :: l) :=
 h.upd' (A' := OR E (.slice (some ⟨g, 0, none⟩) k cap) (xs.take k)) (Only.refl _ _) (OwnR.take h.hd hn hk) fun _ hk' => Or.inl hk'
def wireE : Lay (Int × Int) := ⟨149, 2, fun p => [.int .i64 p.1, .int .i64 p.2], fun _ => rfl, by decide⟩
theorem info_wire : (Tryz.prog.info? wireE.ty).map (fun i => (i.zero, i.size, i.bytes)) = some (some (.agg #[.int .i64 0, .int .i64 0]), wireE.sz, 16) := by kernel_rfl
theorem wire_one (a c : Int) : ∀ u ∈ wireE.cs (a, c), u.oneCell' = true := by
 intro u hu
 simp only [wireE, List.mem_cons, List.not_mem_nil, or_false] at hu
 rcases hu with rfl | rfl <;> rfl
theorem OwnR.wire {w : World} {g n c : Nat} {ps : List (Int × Int)} (h : OwnR wireE 0 w (.slice (some ⟨g, 0, none⟩) n c) ps) (hn : n = ps.length) {i : Nat} (hi : i < n) :
 w.cell? ⟨g, i * 2, none⟩ = some (.int .i64 (ps.getD i (0, 0)).1) ∧ w.cell? ⟨g, i * 2 + 1, none⟩ = some (.int .i64 (ps.getD i (0, 0)).2) := by
 have hi2 : i < ps.length := by omega
 have e : ps.getD i (0, 0) = ps[i] := by rw [List.getD_eq_getElem?_getD, List.getElem?_eq_getElem hi2]; rfl
 rw [e]
 exact ⟨OwnR.cell h hn hi2 (j := 0) (by decide), OwnR.cell h hn hi2 (j := 1) (by decide)⟩
theorem Sep.blk {w : World} {A B r : List Asrt} (h : Sep w (A ++ (B ++ r))) : Sep w (B ++ (A ++ r)) :=
 Sep.perm (by rw [← List.append_assoc, ← List.append_assoc]; exact List.Perm.append_right r List.perm_append_comm) h
theorem Sep.blk3 {w : World} {X A B r : List Asrt} (h : Sep w (X ++ (A ++ (B ++ r)))) : Sep w (X ++ (B ++ (A ++ r))) :=
 Sep.perm (List.Perm.append_left X (by rw [← List.append_assoc, ← List.append_assoc]; exact List.Perm.append_right r List.perm_append_comm)) h
theorem Sep.tlN {w : World} {l : List Asrt} : ∀ (A : List Asrt), Sep w (A ++ l) → Sep w l
 | [], h => h
 | _ :: A, h => Sep.tlN A h.tl
theorem Sep.cutA {w : World} {X A r : List Asrt} (h : Sep w (X ++ (A ++ r))) : Sep w (X ++ r) := Sep.tlN A (Sep.blk (A := X) (B := A) h)
theorem Sep.boxAt {w : World} {l : List Asrt} (h : Sep w l) (b : Nat) (hb : b = w.heap.size) (cs : Array Value) (t : TypeId) : Sep (w.alloc (.cells cs t)) (BxA b cs t :: l) := hb ▸ h.box cs t
def totN : List Nd → Nat
 | [] => 0
 | n :: ns => n.s.size + totN ns
theorem totN_take (ns : List Nd) (k : Nat) (hk : k < ns.length) : totN (ns.take (k + 1)) = totN (ns.take k) + (ns.getD k nd0).s.size := by
 induction ns generalizing k with
 | nil => simp at hk
 | cons e es ih =>
  cases k with
  | zero => simp [totN]
  | succ k =>
   have := ih k (by simpa using hk)
   simp only [List.take_succ_cons, totN, List.getD_cons_succ]
   omega
theorem totN_le (ns : List Nd) (k : Nat) : totN (ns.take k) ≤ totN ns := by
 induction ns generalizing k with
 | nil => simp
 | cons e es ih =>
  cases k with
  | zero => simp [totN]
  | succ k =>
   have := ih k
   simp only [List.take_succ_cons, totN]
   omega
def okNd (n : Nd) : Prop := n.s.size ≤ 9223372036854775807
theorem szNode_any (k v : Int) (s : ByteArray) (left : Int) (w : World) (h0 : 0 ≤ left) (h1 : left ≤ 1048576) (hok : s.size ≤ 9223372036854775807) :
 Calls Tryz.prog 97 #[.agg #[.int .i64 k, .int .i64 v, .string s], .int .i64 left] w fun x w' => x = .returned (.int .i64 (lft left s.size)) ∧ w.grownBy w' none := by
 unfold lft
 obtain ⟨z, hz⟩ : ∃ z, s.size = z := ⟨_, rfl⟩
 rw [hz] at hok ⊢
 have hw := wrap_id (x := left - z) (by omega) (by omega)
 by_cases h : left - (z : Int) < 0
 ·rw [if_pos h]
  go_enter Tryz.func97, Tryz.ntmps97
  go_wp2_with fail
  go_ret
  exact ⟨rfl, gr1 _ _⟩
 ·rw [if_neg h]
  go_enter Tryz.func97, Tryz.ntmps97
  go_wp2_with fail
  go_ret
  exact ⟨rfl, gr1 _ _⟩
set_option maxHeartbeats 2000000 in
theorem szNodeS_any (a : Option Addr) (n c : Nat) (ns : List Nd) (left : Int) (w : World) (hv : RdR argNodeE w (.slice a n c) ns) (hn : n = ns.length) (h0 : 0 ≤ left) (h1 : left ≤ 1048576) (hl : n ≤ 9223372036854775807) (hok : ∀ e ∈ ns, okNd e) :
 Calls Tryz.prog 55 #[.slice a n c, .int .i64 left] w fun x w' => x = .returned (.int .i64 (lft left (ns.length + totN ns))) ∧ w.grownBy w' none := by
 have HV := qd hv; have HOK := qd hok
 have HN := qd hn
 clear hv hok
 have hwr := wrap_id (x := left - n) (by omega) (by omega)
 by_cases h : left - n < 0
 ·rw [show lft left (ns.length + totN ns) = -1 by unfold lft; rw [if_pos (by omega)]]
  clear hn
  go_enter Tryz.func55, Tryz.ntmps55
  go_wp2
  go_ret
  exact ⟨rfl, grownBy_refl _ _⟩
 ·obtain ⟨m, hm⟩ : ∃ m, m = left - n := ⟨_, rfl⟩
  have hre : lft left (ns.length + totN ns) = lft m (totN ns) := by
   unfold lft
   rw [← hn, show left - ((n + totN ns : Nat) : Int) = m - (totN ns : Int) by omega]
  rw [hre]
  have hm0 : 0 ≤ m := by omega
  have hm1 : m ≤ 1048576 := by omega
  have HMM := qd hm
  have hwr2 : IntKind.i64.wrap (left - (n : Int)) = m := by rw [hm]; exact hwr
  have hm00 : ¬ m < 0 := by omega
  clear hre hn hwr h hm
  go_enter Tryz.func55, Tryz.ntmps55
  go_wp2_with fail
  go_loopw [1, 5] (fun lv i wr => ∃ k : Nat, k ≤ n ∧ i = .int .i64 k ∧ lv = .int .i64 (m - totN (ns.take k)) ∧ 0 ≤ m - (totN (ns.take k) : Int) ∧ w.grownBy wr none) (fun _ i _ => n - (intOf i).toNat)
  case atStart => exact ⟨0, by omega, rfl, by simp [totN], by simp [totN]; exact hm0, grownBy_refl _ _⟩
  case round =>
   obtain ⟨k, hk, rfl, rfl, hp, hg⟩ := hrel
   have HG := qd hg
   clear hg
   by_cases hlt : k < n
   ·have hke : k < ns.length := by rw [← HN.out]; exact hlt
    obtain ⟨b, o, rfl, _, q0, q1, q2⟩ := (HV.out.carry HG.out).node rfl rfl hke
    have HT := qd (totN_take ns k hke)
    have HLE := qd (totN_le ns (k + 1))
    have HC := qd (szNode_any (ns.getD k nd0).k (ns.getD k nd0).v (ns.getD k nd0).s (m - totN (ns.take k)) wr hp (by omega) (HOK.out _ (by rw [List.getD_eq_getElem?_getD, List.getElem?_eq_getElem hke]; exact List.getElem_mem _)))
    generalize ns.getD k nd0 = e at *
    generalize totN (ns.take k) = t at *
    generalize hS : totN (ns.take (k + 1)) = s at *
    clear hke
    by_cases h2 : m - (s : Int) < 0
    ·have he : lft (m - t) e.s.size = -1 := by unfold lft; rw [if_pos (by have := HT.out; omega)]
     rw [he] at HC
     have hfin : lft m (totN ns) = -1 := by unfold lft; rw [if_pos (by have := HLE.out; omega)]
     have HF := qd hfin
     clear he hfin hp h2
     obtain ⟨ek, ev, es⟩ := e
     simp only at q0 q1 q2 HC
     go_wp2_with (
      go_at_call 97
      with_reducible refine HC.out.mono ?_
      rintro x w2 ⟨rfl, hg2⟩
      have HG2 := qd (grownBy_trans HG.out hg2)
      clear hg2)
     go_ret
     exact ⟨(by rw [HF.out]; try rfl), HG2.out⟩
    ·have he : lft (m - t) e.s.size = m - s := by unfold lft; rw [if_neg (by have := HT.out; omega)]; have := HT.out; omega
     rw [he] at HC
     have hp2 : ¬ (m - (s : Int)) < 0 := h2
     obtain ⟨r, hr⟩ : ∃ r, r = m - (s : Int) := ⟨_, rfl⟩
     rw [← hr] at HC hp2
     have HR := qd hr
     clear he h2 hr hp
     obtain ⟨ek, ev, es⟩ := e
     simp only at q0 q1 q2 HC
     go_wp2_with (
      go_at_call 97
      with_reducible refine HC.out.mono ?_
      rintro x w2 ⟨rfl, hg2⟩
      have HG2 := qd (grownBy_trans HG.out hg2)
      clear hg2)
     go_roundw
     case rel => exact ⟨k + 1, by omega, by go_num, by rw [hS, HR.out], by rw [hS, ← HR.out]; omega, HG2.out⟩
     case measure => simp [intOf]; omega
   ·have hkn : k = n := by omega
    subst hkn
    have hfin : lft m (totN ns) = m - totN (ns.take k) := by
     rw [List.take_of_length_le (by rw [← HN.out]; omega)] at hp ⊢
     unfold lft
     rw [if_neg (by omega)]
    have HF := qd hfin
    generalize totN (ns.take k) = t at *
    clear hlt hfin hp
    go_wp2_with fail
    go_ret
    exact ⟨by rw [HF.out]; rfl, HG.out⟩
theorem toNode_any (k v : Int) (s : ByteArray) (w : World) : Calls Tryz.prog 105 #[.agg #[.int .i64 k, .int .i64 v, .string s]] w fun e w' => e = .returned (.agg #[.int .i64 k, .int .i64 v, .string s]) ∧ w.grownBy w' none := by
 go_enter Tryz.func105, Tryz.ntmps105
 go_wp2_with fail
 refine bodyPost_ret_by (v := .agg #[.int .i64 k, .int .i64 v, .string s]) ?_ rfl ⟨rfl, ?_⟩
 ·simp [results, go_sem, *]
 ·exact gr3 _ _ _ _
theorem node_free {w : World} {g n cap B : Nat} {gs : List Nd} (h : OwnR nodeE B w (.slice (some ⟨g, 0, none⟩) n cap) gs) (hn : n = gs.length) (i : Nat) :
 w.frozen? ⟨g, i * 3, none⟩ = false ∧ w.frozen? ⟨g, i * 3 + 1, none⟩ = false ∧ w.frozen? ⟨g, i * 3 + 2, none⟩ = false :=
 ⟨h.free hn _, h.free hn _, h.free hn _⟩
theorem node_cellsQ {w : World} {g n cap B : Nat} {gs : List Nd} (h : OwnR nodeE B w (.slice (some ⟨g, 0, none⟩) n cap) gs) (hn : n = gs.length) {i : Nat} (hi : i < gs.length) :
 ∃ q : Nd, w.cell? ⟨g, i * 3, none⟩ = some (.int .i64 q.k) ∧ w.cell? ⟨g, i * 3 + 1, none⟩ = some (.int .i64 q.v) ∧ w.cell? ⟨g, i * 3 + 2, none⟩ = some (.string q.s) :=
 ⟨gs[i], h.cell hn hi (j := 0) (by decide), h.cell hn hi (j := 1) (by decide), h.cell hn hi (j := 2) (by decide)⟩
theorem Sep.setNd {w : World} {g n cap : Nat} {gs : List Nd} {l : List Asrt} (h : Sep w (OR nodeE (.slice (some ⟨g, 0, none⟩) n cap) gs :: l)) (hn : n = gs.length) {i : Nat} (hi : i < gs.length) (y : Nd) :
 Sep (((w.setCell ⟨g, i * 3, none⟩ (.int .i64 y.k)).setCell ⟨g, i * 3 + 1, none⟩ (.int .i64 y.v)).setCell ⟨g, i * 3 + 2, none⟩ (.string y.s))
  (OR nodeE (.slice (some ⟨g, 0, none⟩) n cap) (gs.set i y) :: l) := by
 have h1 := h.setR (E := nodeE) hn (i := i) (j := 0) (y := ⟨y.k, gs[i].v, gs[i].s⟩) (u := .int .i64 y.k) hi (by decide) rfl
 have h2 := h1.setR (E := nodeE) (by simpa using hn) (i := i) (j := 1) (y := ⟨y.k, y.v, gs[i].s⟩) (u := .int .i64 y.v) (by simpa using hi) (by decide) (by simp [nodeE, nodeC])
 have h3 := h2.setR (E := nodeE) (by simpa using hn) (i := i) (j := 2) (y := y) (u := .string y.s) (by simpa using hi) (by decide) (by simp [nodeE, nodeC])
 simp only [List.set_set] at h3
 exact h3
theorem fillNd_set {gs : List Nd} {n k : Nat} (hl : gs.length = n) (hk : k < n) : (gs.take k ++ List.replicate (n - k) nd0).set k (gs.getD k nd0) = gs.take (k + 1) ++ List.replicate (n - (k + 1)) nd0 := by
 have h1 : (gs.take k).length = k := by rw [List.length_take]; omega
 have h2 : n - k = (n - (k + 1)) + 1 := by omega
 rw [List.set_append_right _ _ (by omega), h1, Nat.sub_self, h2, List.replicate_succ, List.set_cons_zero]
 rw [List.take_succ_eq_append_getElem (by omega), List.getD_eq_getElem?_getD, List.getElem?_eq_getElem (by omega), List.append_assoc]
 rfl
theorem info_nodeL : (Tryz.prog.info? nodeE.ty).map (fun i => (i.zero, i.size, i.bytes)) = some (some (.agg #[.int .i64 0, .int .i64 0, .string noS]), nodeE.sz, 32) := by kernel_rfl
theorem zeroNd_cells : (Value.agg #[.int .i64 0, .int .i64 0, .string noS]).cells.toList = nodeE.cs nd0 := rfl
theorem toNodeS_any (v : Value) (gs : List Nd) (w : World) (hv : RdR argNodeE w v gs) (hl : gs.length ≤ 2000000) :
 Calls Tryz.prog 65 #[v] w fun e w' => ∃ g c, e = .returned (.slice (some ⟨g, 0, none⟩) gs.length c) ∧ Sep w' [OR nodeE (.slice (some ⟨g, 0, none⟩) gs.length c) gs, KeepA w] := by
 obtain ⟨i0', hi, hz0, hz1, hz2⟩ := info_parts info_nodeL
 have HI := qd hi; have HZ0 := qd hz0; have HZ1 := qd hz1; have HZ2 := qd hz2
 have HV := qd hv
 obtain ⟨a, cap, rfl⟩ := hv.shape
 generalize hlen : gs.length = n at *
 have HL := qd hlen
 clear hi hz0 hz1 hz2 hv hlen
 go_enter Tryz.func65, Tryz.ntmps65
 go_wp2_with (
  at_make
  refine wpList_make_full _ rfl _ _ 42 rfl w.heap.size 145 i0' _ 3 Tryz.underlying42 HI.out HZ0.out HZ1.out _ _ _ _ n rfl rfl rfl rfl (by rw [HZ2.out]; omega) (by unfold maxLen; omega) (Nat.le_refl _) ?_
  intro w1 hown' hgr'
  have hs0 : Sep w1 [OR nodeE (.slice (some ⟨w.heap.size, 0, none⟩) n n) (List.replicate n nd0), KeepA w] := (Sep.start w).newR hgr' (OwnR.made zeroNd_cells hown')
  have HS := qd hs0
  clear hs0 hown' hgr')
 go_loopw [4] (fun i wr => ∃ k : Nat, k ≤ n ∧ i = .int .i64 k ∧ Sep wr [OR nodeE (.slice (some ⟨w.heap.size, 0, none⟩) n n) (gs.take k ++ List.replicate (n - k) nd0), KeepA w]) (fun i _ => n - (intOf i).toNat)
 case atStart => exact ⟨0, by omega, rfl, by simpa using HS.out⟩
 case round =>
  obtain ⟨k, hk, rfl, hs⟩ := hrel
  have HSX := qd hs
  clear hs
  by_cases hlt : k < n
  ·obtain ⟨b, o, rfl, hb, c0, c1, c2⟩ := (HV.out.carry HSX.out.tl.hd).node rfl rfl (i := k) (by rw [HL.out]; exact hlt)
   have HSET := qd (fillNd_set HL.out hlt)
   generalize gs.getD k nd0 = y at *
   have HT := qd (toNode_any y.k y.v y.s wr)
   go_wp2_with (
    go_at_call 105
    refine HT.out.mono ?_
    rintro e w2 ⟨rfl, hg⟩
    have HS2 := qd (HSX.out.grown hg)
    have hll : n = (gs.take k ++ List.replicate (n - k) nd0).length := by rw [List.length_append, List.length_take, List.length_replicate, HL.out]; omega
    obtain ⟨f0, f1, f2⟩ := node_free HS2.out.hd hll k
    obtain ⟨q, d0, d1, d2⟩ := node_cellsQ HS2.out.hd hll (i := k) (by rw [← hll]; exact hlt)
    have HS3 := qd (HS2.out.setNd hll (by rw [← hll]; exact hlt) y)
    clear hg hll)
   go_roundw
   case rel => exact ⟨k + 1, by omega, by go_num, by
    have := HS3.out
    rw [HSET.out] at this
    exact this⟩
   case measure => simp [intOf]; omega
  ·have hkn : k = n := by omega
   subst hkn
   clear hlt
   go_wp2
   go_ret
   have := HSX.out
   rw [List.take_of_length_le (by rw [HL.out]; omega), Nat.sub_self, List.replicate_zero, List.append_nil] at this
   exact ⟨_, _, rfl, this⟩
theorem szTerm_any (a : Option Addr) (n c : Nat) (ns : List Nd) (left : Int) (w : World) (hv : RdR argNodeE w (.slice a n c) ns) (hn : n = ns.length) (h0 : 0 ≤ left) (h1 : left ≤ 1048576) (hl : n ≤ 9223372036854775807) (hok : ∀ e ∈ ns, okNd e) :
 Calls Tryz.prog 28 #[.agg #[.slice a n c], .int .i64 left] w fun x w' => x = .returned (.int .i64 (lft left (ns.length + totN ns))) ∧ w.grownBy w' none := by
 have HC := qd fun W (hW : w.grownBy W none) => szNodeS_any a n c ns left W (hv.carry hW) hn h0 h1 hl hok
 have HS0 := qd ((Sep.start w).boxAt w.heap.size rfl #[.slice a n c] 28)
 have x0 := cell_of_row _ _ 0 _ _ _ HS0.out.hd
 have HK0 := qd (show w.grownBy _ none from HS0.out.tl.hd)
 clear hv hn hl hok
 generalize ns.length + totN ns = t at *
 by_cases h : left - (t : Int) < 0
 ·rw [show lft left t = -1 by unfold lft; rw [if_pos h]] at HC ⊢
  clear h
  go_enter Tryz.func28, Tryz.ntmps28
  go_wp2_with (
   go_at_call 55
   with_reducible refine (HC.out _ HK0.out).mono ?_
   rintro x w2 ⟨rfl, hg2⟩
   have HG2 := qd (grownBy_trans HK0.out hg2)
   clear hg2)
  go_ret
  exact ⟨rfl, HG2.out⟩
 ·rw [show lft left t = left - t by unfold lft; rw [if_neg h]] at HC ⊢
  obtain ⟨m, hm⟩ : ∃ m, left - (t : Int) = m := ⟨_, rfl⟩
  rw [hm] at HC h ⊢
  clear hm
  go_enter Tryz.func28, Tryz.ntmps28
  go_wp2_with (
   go_at_call 55
   with_reducible refine (HC.out _ HK0.out).mono ?_
   rintro x w2 ⟨rfl, hg2⟩
   have HG2 := qd (grownBy_trans HK0.out hg2)
   clear hg2)
  go_ret
  exact ⟨rfl, HG2.out⟩
theorem bs1x {w : World} {k : Nat} {x : Value} {t : TypeId} (h : w.heap[k]? = some (.cells #[x] t (0, 0))) : w.cell? ⟨k, 0, none⟩ = some x ∧ w.frozen? ⟨k, 0, none⟩ = false := ⟨cell_of_row w k 0 _ _ _ h, frozen_of_row w k 0 _ _ h⟩
theorem toTerm_any (v : Value) (gs : List Nd) (w : World) (hv : RdR argNodeE w v gs) (hl : gs.length ≤ 2000000) :
 Calls Tryz.prog 35 #[.agg #[v]] w fun e w' => ∃ g c, e = .returned (.agg #[.slice (some ⟨g, 0, none⟩) gs.length c]) ∧ Sep w' [OR nodeE (.slice (some ⟨g, 0, none⟩) gs.length c) gs, KeepA w] := by
 have HG := qd fun W (h : w.grownBy W none) => toNodeS_any v gs W (hv.carry h) hl
 obtain ⟨a1, c1, rfl⟩ := hv.shape
 generalize gs.length = n1 at *
 clear hv
 have HS0 := qd ((((Sep.start w).boxAt w.heap.size rfl #[.slice a1 n1 c1] 28).boxAt (w.heap.size + 1) (by simp) #[.slice none 0 0] 44).boxAt (w.heap.size + 2) (by simp) #[.slice none 0 0] 44)
 go_enter Tryz.func35, Tryz.ntmps35
 go_wp2_with (
  go_at_call 65
  go_loud (refine (HG.out _ HS0.out.tl.tl.tl.hd).mono ?_)
  go_loud (rintro e w4 ⟨g, k, rfl, hsg⟩)
  go_loud (have hs1 := (HS0.out.graft1 hsg fun _ h => h).s2)
  obtain ⟨x0, y0⟩ := bs1x hs1.hd
  have hs2 := hs1.setB 0 (.slice (some ⟨g, 0, none⟩) n1 k)
  obtain ⟨z0, _⟩ := bs1x hs2.hd
  have hs3 := hs2.s3
  obtain ⟨r0, q0⟩ := bs1x hs3.hd
  have hs4 := hs3.setB 0 (.slice (some ⟨g, 0, none⟩) n1 k)
  obtain ⟨k0, _⟩ := bs1x hs4.hd
  have HSF := qd (show Sep _ [OR nodeE (.slice (some ⟨g, 0, none⟩) n1 k) gs, KeepA w] from (hs4.tl.tl.under (fun h => h.tl) (by simp +contextual)))
  clear hsg hs1 hs2 hs3 hs4)
 refine bodyPost_ret_by (v := .agg #[.slice (some ⟨g, 0, none⟩) n1 k]) ?_ rfl ⟨g, k, rfl, HSF.out⟩
 simp [results, go_sem, *]
theorem conv_one (w : World) (b : Nat) (x : Int) (t : TypeId) (h : w.heap[b]? = some (.cells #[.int .u8 x] t (0, 0))) :
 ∃ s : ByteArray, s.size = 1 ∧ (convert 179 9 (.slice (some ⟨b, 0, none⟩) 1 1)).run Tryz.prog w = .ok (.string s) w := by
 refine ⟨ByteArray.empty.push (UInt8.ofNat x.toNat), rfl, ?_⟩
 rw [run_convert_bytes_string w _ _ 5 _ _ _ Tryz.underlying179 Tryz.underlying5 Tryz.underlying9]
 refine run_bytesToString w _ 1 1 [x] ?_
 simp [loadCells, go_sem, cell_of_row w b 0 _ _ _ h]
theorem lt_meas {x : Int} {a b : Nat} (h : x = (a : Int)) (h2 : a < b) : (intOf (.int .i64 x)).toNat < (intOf (.int .i64 (b : Int))).toNat := by
 subst h; exact h2
set_option maxHeartbeats 1000000 in
theorem markText_any (k : Int) (w : World) (h0 : 0 ≤ k) (h1 : k ≤ 100000000) :
 Calls Tryz.prog 118 #[.int .i64 k] w fun e w' => (∃ s, e = .returned (.string s)) ∧ w.grownBy w' none := by
 obtain ⟨n, rfl⟩ : ∃ n : Nat, k = n := ⟨k.toNat, by omega⟩
 by_cases hk0 : (n : Int) ≤ 0
 ·go_enter Tryz.func118, Tryz.ntmps118
  go_wp2_with fail
  go_ret
  exact ⟨⟨_, rfl⟩, grownBy_refl _ _⟩
 ·go_enter Tryz.func118, Tryz.ntmps118
  go_wp2_with fail
  go_loopw [0, 3] (fun kv ov wr => ∃ (m : Nat) (s : ByteArray), kv = .int .i64 m ∧ ov = .string s ∧ s.size + m ≤ n ∧ w.grownBy wr none) (fun kv _ _ => (intOf kv).toNat)
  case atStart => exact ⟨n, _, rfl, rfl, by show 0 + n ≤ n; omega, grownBy_refl _ _⟩
  case round =>
   obtain ⟨m, s, rfl, rfl, hs, hg⟩ := hrel
   have HS := qd hs
   have HG := qd hg
   clear hs hg
   by_cases hm : (0 : Int) < (m : Int)
   ·obtain ⟨t, ht1, ht⟩ := conv_one (wr.alloc (.cells #[.int .u8 (48 + (m : Int) % 10)] 5)) wr.heap.size _ _ (alloc_heap_new wr _)
    have hadd : ∀ W, (Op.stringOp .add t s).run Tryz.prog W = .ok (.string (t ++ s)) W := fun W => run_string_add_sum W _ _ (by have := HS.out; omega)
    have HTS := qd (show (t ++ s).size = s.size + 1 from by rw [ByteArray.size_append, ht1]; omega)
    have hn10 := HS.out
    obtain ⟨m1, hm1⟩ : ∃ m1 : Nat, m / 10 = m1 := ⟨_, rfl⟩
    have hw : wrap64 ((m : Int) / 10) = (m1 : Int) := (wrap64_id (by omega) (by omega)).trans (by omega)
    have HN10 := qd (show (t ++ s).size + m1 ≤ n from by rw [HTS.out]; omega)
    have HNL := qd (show m1 < m from by omega)
    clear ht1 hn10 hm1
    go_wp2_with fail
    go_roundw
    case rel => exact ⟨m1, t ++ s, congrArg _ hw, rfl, HN10.out, grownBy_trans HG.out (gr1 _ _)⟩
    case measure => exact lt_meas hw HNL.out
   ·have hadd : (Op.stringOp .add ⟨#[109]⟩ s).run Tryz.prog wr = .ok (.string (⟨#[109]⟩ ++ s)) wr := run_string_add_sum wr _ _ (by have := HS.out; have : (ByteArray.mk #[109]).size = 1 := rfl; omega)
    go_wp2_with fail
    go_ret
    exact ⟨⟨_, rfl⟩, HG.out⟩
end Go.Proofs.YtjagjhchnpmngaaGreat

/-
  slices.IndexFunc and slices.ContainsFunc on integers, at whatever predicate that writes nothing old; 0, .., n-1. Conditions: lengths are small.
-/
import Derived.Test.YtghfifpicklonaaDoorBc01
import Derived.Shelf.Abstract
import Derived.Test.YtghfifpicklonaaDoorBc00
import Derived.Maps.OwnSet
namespace Go.Proofs.YtghfifpicklonaaDoor
open Go.RowKit
set_option linter.unusedVariables false
set_option maxRecDepth 100000

def idxR (φ : Int → Bool) (zs : List Int) : Int := ((zs.findIdx? φ).map fun (i : Nat) => (i : Int)).getD (-1)
theorem idxR_none {φ : Int → Bool} {zs : List Int} (h : ∀ j, j < zs.length → φ (zs.getD j 0) = false) : idxR φ zs = -1 := by
  have : zs.findIdx? φ = none := by
    rw [List.findIdx?_eq_none_iff]
    intro x hx
    obtain ⟨i, hi, rfl⟩ := List.getElem_of_mem hx
    have := h i hi
    rwa [List.getD_eq_getElem?_getD, List.getElem?_eq_getElem hi] at this
  unfold idxR
  rw [this]
  rfl
theorem idxR_some {φ : Int → Bool} {zs : List Int} {k : Nat} (hk : k < zs.length) (hy : φ (zs.getD k 0) = true) (h : ∀ j, j < k → φ (zs.getD j 0) = false) : idxR φ zs = k := by
  have : zs.findIdx? φ = some k := by
    rw [List.findIdx?_eq_some_iff_getElem]
    refine ⟨hk, ?_, fun j hj => ?_⟩
    · rwa [List.getD_eq_getElem?_getD, List.getElem?_eq_getElem hk] at hy
    · have := h j hj
      rw [List.getD_eq_getElem?_getD, List.getElem?_eq_getElem (Nat.lt_trans hj hk)] at this
      simpa using this
  unfold idxR
  rw [this]
  rfl
theorem getD_mem' {zs : List Int} {k : Nat} (h : k < zs.length) : zs.getD k 0 ∈ zs := by
  rw [List.getD_eq_getElem?_getD, List.getElem?_eq_getElem h]
  exact List.getElem_mem _
/-- What is asked of a predicate. -/
def PredI (g : FuncId) (lb : Array Value) (zs : List Int) (φ : Int → Bool) (w : World) : Prop :=
  ∀ W x, x ∈ zs → w.grownBy W none → Calls Tryd.prog g (#[.int .i64 x] ++ lb) W fun e w' => e = .returned (.bool (φ x)) ∧ W.grownBy w' none
theorem indexFunc_any (g : FuncId) (lb : Array Value) (eg : ∀ args w, (callFunc g args).run Tryd.prog w = .ok (.enter g args) w) (zs : List Int) (φ : Int → Bool) (v : Value) (w : World) (hv : IntsV w v zs) (hl : zs.length ≤ 1000000) (hp : PredI g lb zs φ w) :
    Calls Tryd.prog 139 #[v, .func (.func g) #[] lb] w fun e w' => e = .returned (.int .i64 (idxR φ zs)) ∧ w.grownBy w' none := by
  have HV := Lib.hid hv; have HP := Lib.hid hp
  obtain ⟨a, c, rfl⟩ := hv.shape
  generalize hlen : zs.length = n at *
  have HL := Lib.hid hlen
  clear hlen hv hp
  generalize hr : idxR φ zs = r
  have HR := Lib.hid hr
  clear hr
  go_enter Tryd.func139, Tryd.ntmps139
  go_wp2_with fail
  go_loopw [5, 8] (fun _ s8 wr => ∃ k : Nat, k ≤ n ∧ s8 = .int .i64 k ∧ w.grownBy wr none ∧ ∀ j, j < k → φ (zs.getD j 0) = false) (fun _ s8 _ => n - (intOf s8).toNat)
  case atStart => exact ⟨0, by omega, rfl, grownBy_refl _ _, fun j hj => absurd hj (Nat.not_lt_zero _)⟩
  case round =>
    obtain ⟨k, hk, rfl, hg, ho⟩ := hrel
    have HG := Lib.hid hg; have HO := Lib.hid ho
    clear hg ho
    by_cases hlt : k < n
    · have hkl : k < zs.length := by rw [HL.out]; exact hlt
      obtain ⟨b, o, rfl, hb, hc⟩ := (HV.out.carry HG.out).atD hkl
      have hcall := HP.out wr _ (getD_mem' hkl) HG.out
      generalize hz : zs.getD k 0 = z at *
      have HZ := Lib.hid hz
      clear hz hb
      cases hq : φ z with
      | true =>
        rw [hq] at hcall
        have HC := Lib.hid hcall
        have HQ := Lib.hid hq
        clear hcall hq
        go_wp2_with (go_at_fn g; refine HC.out.mono ?_; rintro e w' ⟨rfl, hg⟩; have HG2 := Lib.hid (grownBy_trans HG.out hg); clear hg)
        go_ret
        exact ⟨by rw [← HR.out, idxR_some hkl (by rw [HZ.out]; exact HQ.out) HO.out]; rfl, HG2.out⟩
      | false =>
        rw [hq] at hcall
        have HC := Lib.hid hcall
        have HQ := Lib.hid hq
        clear hcall hq
        go_wp2_with (go_at_fn g; refine HC.out.mono ?_; rintro e w' ⟨rfl, hg⟩; have HG2 := Lib.hid (grownBy_trans HG.out hg); clear hg)
        go_roundw
        case rel => exact ⟨k + 1, by omega, by go_num, HG2.out, fun j hj => by
          by_cases e : j = k
          · subst e; rw [HZ.out]; exact HQ.out
          · exact HO.out j (by omega)⟩
        case measure => simp [intOf]; omega
    · have : k = n := by omega
      subst this
      clear hlt
      go_wp2
      go_ret
      exact ⟨by rw [← HR.out, idxR_none (fun j hj => HO.out j (by rw [← HL.out]; exact hj))]; rfl, HG.out⟩
theorem idxR_any {φ : Int → Bool} {zs : List Int} : decide (0 ≤ idxR φ zs) = zs.any φ := by
  unfold idxR
  cases h : zs.findIdx? φ with
  | none =>
    rw [List.findIdx?_eq_none_iff] at h
    have : zs.any φ = false := by
      rw [List.any_eq_false]
      intro x hx
      simp [h x hx]
    rw [this]
    rfl
  | some i =>
    rw [List.findIdx?_eq_some_iff_getElem] at h
    obtain ⟨hi, hy, _⟩ := h
    have : zs.any φ = true := List.any_eq_true.2 ⟨_, List.getElem_mem hi, hy⟩
    rw [this]
    simp
theorem containsFunc_any (g : FuncId) (lb : Array Value) (eg : ∀ args w, (callFunc g args).run Tryd.prog w = .ok (.enter g args) w) (zs : List Int) (φ : Int → Bool) (v : Value) (w : World) (hv : IntsV w v zs) (hl : zs.length ≤ 1000000) (hp : PredI g lb zs φ w) :
    Calls Tryd.prog 142 #[v, .func (.func g) #[] lb] w fun e w' => e = .returned (.bool (zs.any φ)) ∧ w.grownBy w' none := by
  have HC := Lib.hid (indexFunc_any g lb eg zs φ v w hv hl hp)
  rw [← idxR_any]
  generalize idxR φ zs = r at *
  clear hv hp
  go_enter Tryd.func142, Tryd.ntmps142
  go_wp2_with (go_at_call 139; refine HC.out.mono ?_; rintro e w' ⟨rfl, hg⟩; have HG := Lib.hid hg; clear hg)
  go_ret
  exact ⟨rfl, HG.out⟩
/-! ### 0, .., n - 1 -/
def upL (n : Nat) : List Int := (List.range n).map fun (i : Nat) => (i : Int)
theorem upL_len (n : Nat) : (upL n).length = n := by simp [upL]
theorem upL_at {n i : Nat} (h : i < n) : (upL n).getD i 0 = i := by
  unfold upL
  rw [List.getD_eq_getElem?_getD, List.getElem?_map, List.getElem?_range h]
  rfl
theorem upL_succ (n : Nat) : upL (n + 1) = upL n ++ [(n : Int)] := by simp [upL, List.range_succ]
theorem up_set {n k : Nat} (hk : k < n) : (upL k ++ List.replicate (n - k) (0 : Int)).set k (k : Int) = upL (k + 1) ++ List.replicate (n - (k + 1)) 0 := by
  rw [List.set_append_right _ _ (by rw [upL_len]; omega), upL_len, Nat.sub_self, show n - k = (n - (k + 1)) + 1 by omega, List.replicate_succ, List.set_cons_zero, upL_succ]
  simp
theorem zeros_full (n : Nat) (w : World) (hl : n ≤ 1000000) :
    Calls Tryd.prog 130 #[.int .i64 n] w fun e w' => ∃ g c, e = .returned (.slice (some ⟨g, 0, none⟩) n c) ∧ Sep w' [OI (.slice (some ⟨g, 0, none⟩) n c) (List.replicate n 0), KeepA w] := by
  obtain ⟨i0, hi, hz0, hz1, hz2⟩ := info_parts info_int
  have HI := Lib.hid hi; have HZ0 := Lib.hid hz0; have HZ1 := Lib.hid hz1; have HZ2 := Lib.hid hz2
  clear hi hz0 hz1 hz2
  go_enter Tryd.func130, Tryd.ntmps130
  go_wp2_with (
    at_make
    refine wpList_make_full _ rfl _ _ 27 rfl w.heap.size 3 i0 (.int .i64 0) 1 Tryd.underlying27 HI.out HZ0.out HZ1.out _ _ _ _ n rfl rfl rfl rfl (by rw [HZ2.out]; omega) (by unfold maxLen; omega) (Nat.le_refl _) ?_
    intro w1 hown' hgr'
    have hs0 : Sep w1 [OI (.slice (some ⟨w.heap.size, 0, none⟩) n n) (List.replicate n 0), KeepA w] := (Sep.start w).newI hgr' (by
      rw [madeCells_int] at hown'
      unfold OwnInts
      rw [List.length_replicate]
      exact hown')
    have HS := Lib.hid hs0
    clear hs0 hown' hgr')
  go_ret
  exact ⟨_, _, rfl, HS.out⟩
theorem upTo_any (n : Nat) (w : World) (hl : n ≤ 1000000) :
    Calls Tryd.prog 140 #[.int .i64 n] w fun e w' => ∃ g c, e = .returned (.slice (some ⟨g, 0, none⟩) n c) ∧ Sep w' [OI (.slice (some ⟨g, 0, none⟩) n c) (upL n), KeepA w] := by
  have HZ := Lib.hid (zeros_full n w hl)
  go_enter Tryd.func140, Tryd.ntmps140
  go_wp2_with (
    go_at_call 130
    refine HZ.out.mono ?_
    rintro e w2 ⟨g, c, rfl, hs⟩
    have HS := Lib.hid hs
    clear hs)
  go_loopw [4, 9] (fun _ i wr => ∃ k : Nat, k ≤ n ∧ i = .int .i64 k ∧ Sep wr [OI (.slice (some ⟨g, 0, none⟩) n c) (upL k ++ List.replicate (n - k) 0), KeepA w]) (fun _ i _ => n - (intOf i).toNat)
  case atStart => exact ⟨0, by omega, rfl, by simpa [upL] using HS.out⟩
  case round =>
    obtain ⟨k, hk, rfl, hs⟩ := hrel
    have HSX := Lib.hid hs
    clear hs
    by_cases hlt : k < n
    · have hll : n = (upL k ++ List.replicate (n - k) (0 : Int)).length := by rw [List.length_append, upL_len, List.length_replicate]; omega
      have hf := HSX.out.hd.free hll k
      obtain ⟨q, hc0⟩ := HSX.out.hd.cellQ hll (j := k) hlt
      have hset := HSX.out.setI hll k (k : Int)
      rw [up_set hlt] at hset
      have HSET := Lib.hid hset
      clear hll hset
      go_wp2
      go_roundw
      case rel => exact ⟨k + 1, by omega, by go_num, HSET.out⟩
      case measure => simp [intOf]; omega
    · have hkn : k = n := by omega
      subst hkn
      clear hlt
      go_wp2
      go_ret
      have := HSX.out
      rw [Nat.sub_self, List.replicate_zero, List.append_nil] at this
      exact ⟨_, _, rfl, this⟩
end Go.Proofs.YtghfifpicklonaaDoor

/-
  Maps from integers to bools that the call has made: which keys are there, and what they hold. Conditions: none.
-/
namespace Go.Proofs.YtghfifpicklonaaDoor
open Go.RowKit Go.Maps
set_option linter.unusedVariables false
set_option maxRecDepth 100000

theorem keyLaw : Keyed Tryd.prog 3 := int_keyed Tryd.underlying3
theorem zeroBool (w : World) : (zeroValue 4).run Tryd.prog w = .ok (.bool false) w := by kernel_rfl
theorem key_of {i : Nat} (h : i ≤ 1000000) : keyOf Tryd.prog 3 (.int .i64 i) = some (.int .i64 i) := keyOf_int_mk Tryd.underlying3 (WalkArith.wf_i64 (by omega))
theorem isKey_int (i : Int) : WideAt.IsKeyLit (.int .i64 i) := by simp [WideAt.IsKeyLit]
theorem ne_key {i j : Nat} (h : i ≠ j) : (Lit.int .i64 (i : Int)) ≠ .int .i64 (j : Int) := by
  intro e
  simp only [Lit.int.injEq, true_and] at e
  omega
/-- An element that reads as a bool's datum is that bool. -/
theorem elem_bool_inv {v : Value} {z : DataW Unit × List MemPlace} (h : plainElem Tryd.prog 4 v = some z) : ∃ x, v = .bool x ∧ z = (.lit (.bool x), []) := by
  unfold plainElem at h
  rw [Tryd.underlying4] at h
  cases v <;> simp at h
  subst h
  exact ⟨_, rfl, rfl⟩
/-- 'm[k]' where an element is a bool. -/
theorem wpList_lookup_bool (w : World) {ops : Array Oper} {rest : List Oper} {o : Oper} {a : Act} {Q : Exit → Act → World → Prop}
    (hg : o.guard = none) (m x : Operand) (hop : o.op = Op.lookup 167 m x false) (b n : Nat) (D : DataW Unit)
    (hm : a.eval m = .map (some b)) (hown : w.ownsMap Tryd.prog 3 (plainElem Tryd.prog 4) b n D) (key : Value) (kl : Lit) (hx : a.eval x = key) (hkey : keyOf Tryd.prog 3 key = some kl) (y : Bool) (hat : D.atKey kl (.lit (.bool false)) = .lit (.bool y))
    (hK : wpList Tryd.prog ops Q rest (a.put o.dst (.bool y)) w) :
    wpList Tryd.prog ops Q (o :: rest) a w := by
  refine wpList_plain hg fun K' hK' => ?_
  obtain ⟨v, ps, hrun, hv⟩ := hown.lookup keyLaw Tryd.underlying167 (zeroBool w) (plainElem_bool Tryd.underlying4 false) hkey
  obtain ⟨c, rfl, hc⟩ := elem_bool_inv hv
  rw [hat] at hc
  simp only [Prod.mk.injEq, DataW.lit.injEq, Lit.bool.injEq] at hc
  obtain ⟨rfl, _⟩ := hc
  unfold Oper.wp
  simp [execOp, hop, hm, hx, hrun, Result.andThen]
  exact hK' _ _ hK
/-- Block b is a map that holds 'true' at just those i at which op does. -/
def MapIs (w : World) (b : Nat) (op : List Bool) : Prop :=
  ∃ D, w.ownsMap Tryd.prog 3 (plainElem (H := Unit) Tryd.prog 4) b (nOpen op) D ∧ size D = nOpen op ∧
    ∀ i : Nat, has D (.int .i64 i) = op.getD i false ∧ D.atKey (.int .i64 i) (.lit (.bool false)) = .lit (.bool (op.getD i false))
theorem nOpen_le (op : List Bool) : nOpen op ≤ op.length := List.countP_le_length
theorem nOpen_up {op : List Bool} {i : Nat} (hi : i < op.length) (h : op.getD i false = false) : nOpen (op.set i true) = nOpen op + 1 := by
  induction op generalizing i with
  | nil => simp at hi
  | cons b l ih =>
    cases i with
    | zero =>
      simp at h
      subst h
      simp [nOpen]
    | succ i =>
      simp only [List.getD_cons_succ] at h
      have := ih (by simpa using hi) h
      simp only [nOpen, List.set_cons_succ, List.countP_cons] at this ⊢
      omega
theorem getD_set_b (op : List Bool) (i j : Nat) (x : Bool) (hi : i < op.length) : (op.set i x).getD j false = if j = i then x else op.getD j false := by
  rw [List.getD_eq_getElem?_getD, List.getElem?_set]
  by_cases h : i = j
  · subst h
    rw [if_pos rfl, if_pos rfl, if_pos hi]
    rfl
  · rw [if_neg h, if_neg (fun e => h e.symm), List.getD_eq_getElem?_getD]
theorem tight {w : World} {b n : Nat} {D : DataW Unit} (h : w.ownsMap Tryd.prog 3 (plainElem Tryd.prog 4) b n D) : w.ownsMap Tryd.prog 3 (plainElem Tryd.prog 4) b (size D) D := by
  obtain ⟨es, clock, hb, F, hs, rfl⟩ := h
  exact ⟨es, clock, hb, F, by rw [size_eq, length_sorted]; simp, rfl⟩
theorem MapIs.of {w : World} {b n : Nat} {D : DataW Unit} {op : List Bool} (h : w.ownsMap Tryd.prog 3 (plainElem Tryd.prog 4) b n D) (hs : size D = nOpen op) (hv : ∀ i : Nat, has D (.int .i64 i) = op.getD i false ∧ D.atKey (.int .i64 i) (.lit (.bool false)) = .lit (.bool (op.getD i false))) : MapIs w b op :=
  ⟨D, hs ▸ tight h, hs, hv⟩
theorem MapIs.lt {w : World} {b : Nat} {op : List Bool} (h : MapIs w b op) : b < w.heap.size := by
  obtain ⟨D, h, _⟩ := h
  exact h.lt
theorem MapIs.only {w w' : World} {b : Nat} {op : List Bool} (h : MapIs w b op) (ho : Only (fun k => ¬ k = b) w w') : MapIs w' b op := by
  obtain ⟨D, h, h2⟩ := h
  have hlt := h.lt
  obtain ⟨es, clock, hb, F, hs, hD⟩ := h
  exact ⟨D, ⟨es, clock, (ho.block b hlt fun h => h rfl).trans hb, F, hs, hD⟩, h2⟩
theorem MapIs.grown {w w' : World} {b : Nat} {op : List Bool} (h : MapIs w b op) (hg : w.grownBy w' none) : MapIs w' b op := h.only (Only.of_grown hg (by simp))
theorem nOpen_false (n : Nat) : nOpen (List.replicate n false) = 0 := by
  unfold nOpen
  rw [List.countP_eq_zero]
  intro x hx
  rw [List.eq_of_mem_replicate hx]
  simp
theorem getD_false (n i : Nat) : (List.replicate n false).getD i false = false := by
  rw [List.getD_eq_getElem?_getD, List.getElem?_replicate]
  split <;> rfl
theorem MapIs.made (w : World) (n : Nat) : MapIs (w.alloc (.map #[] 0)) w.heap.size (List.replicate n false) :=
  MapIs.of (World.ownsMap_made w _ _ _) (by rw [nOpen_false]; rfl) fun i => by
    rw [getD_false]
    exact ⟨rfl, atKey_of_not_has rfl _⟩
def MapA (b : Nat) (op : List Bool) : Asrt where
  foot := fun k => k = b
  sees := fun k => k = b
  holds := fun w => MapIs w b op
  sub := fun _ h => h
  lt := fun w k h hk => by have : k = b := hk; subst this; exact h.lt
  keep := fun w w' h ho => h.only ho
theorem Sep.mapNew {w : World} {l : List Asrt} (h : Sep w l) (n : Nat) : Sep (w.alloc (.map #[] 0)) (MapA w.heap.size (List.replicate n false) :: l) :=
  h.new (grownBy_alloc w _ none) (MapIs.made w n) fun k hk => by have : k = w.heap.size := hk; omega
theorem Sep.mapUpd {w w' : World} {b : Nat} {op op' : List Bool} {l : List Asrt} (h : Sep w (MapA b op :: l)) (hm : MapIs w' b op') (hg : w.grownBy w' (some b)) : Sep w' (MapA b op' :: l) :=
  h.upd' (A' := MapA b op') (Only.of_grown hg fun k hk => (Option.some.inj hk).symm) hm fun k hk => Or.inl hk
section
variable {ops : Array Oper} {rest : List Oper} {o : Oper} {a : Act} {Q : Exit → Act → World → Prop} {w : World} {b i : Nat} {op : List Bool}
theorem wpList_look (hg : o.guard = none) (m x : Operand) (hop : o.op = Op.lookup 167 m x false) (hm : a.eval m = .map (some b)) (hx : a.eval x = .int .i64 i) (H : MapIs w b op) (hi : i ≤ 1000000)
    (hK : wpList Tryd.prog ops Q rest (a.put o.dst (.bool (op.getD i false))) w) : wpList Tryd.prog ops Q (o :: rest) a w := by
  obtain ⟨D, hown, hs, hv⟩ := H
  exact wpList_lookup_bool w hg m x hop b _ D hm hown _ _ hx (key_of hi) _ (hv i).2 hK
theorem wpList_put (hg : o.guard = none) (m x v : Operand) (hop : o.op = Op.mapUpdate 167 m x v) (hm : a.eval m = .map (some b)) (hx : a.eval x = .int .i64 i) (hvv : a.eval v = .bool true) (H : MapIs w b op) (hi : i < op.length) (hl : op.length ≤ 1000000) (hf : op.getD i false = false)
    (hK : ∀ w', MapIs w' b (op.set i true) → w.grownBy w' (some b) → wpList Tryd.prog ops Q rest (a.put o.dst undef) w') : wpList Tryd.prog ops Q (o :: rest) a w := by
  obtain ⟨D, hown, hs, hv⟩ := H
  have hn := nOpen_le op
  refine wpList_mapUpdate_own w hg m x v 167 hop 3 4 keyLaw Tryd.underlying167 _ b _ D hm hown (by unfold maxLen; omega) _ _ _ hx hvv (key_of (by omega)) _ [] (plainElem_bool Tryd.underlying4 true) fun w' h1 h2 => hK w' (MapIs.of h1 ?_ fun j => ?_) h2
  · rw [size_put (hown.tidy keyLaw), (hv i).1, hf, nOpen_up hi hf, hs]
    rfl
  · rw [getD_set_b _ _ _ _ hi]
    by_cases hj : j = i
    · subst hj
      rw [if_pos rfl]
      exact ⟨has_put_same hown.isMap (isKey_int _) _, atKey_put_same hown.isMap (isKey_int _) _ _⟩
    · rw [if_neg hj]
      exact ⟨(has_put_other (ne_key hj) _).trans (hv j).1, (atKey_put_other (ne_key hj) _ _).trans (hv j).2⟩
theorem wpList_del (hg : o.guard = none) (m x : Operand) (hop : o.op = Op.call { callee := Callee.builtin Builtin.delete, args := #[m, x], argTypes := #[167, 3] }) (hm : a.eval m = .map (some b)) (hx : a.eval x = .int .i64 i) (H : MapIs w b op) (hl : op.length ≤ 1000000) (hf : op.getD i false = true)
    (hK : ∀ w', MapIs w' b (op.set i false) → w.grownBy w' (some b) → wpList Tryd.prog ops Q rest (a.put o.dst (.tuple #[])) w') : wpList Tryd.prog ops Q (o :: rest) a w := by
  obtain ⟨D, hown, hs, hv⟩ := H
  have hi : i < op.length := by
    rcases Nat.lt_or_ge i op.length with h | h
    · exact h
    · rw [List.getD_eq_getElem?_getD, List.getElem?_eq_none h] at hf; cases hf
  refine wpList_delete_own w hg m x 167 3 hop 4 keyLaw Tryd.underlying167 _ b _ D hm hown _ _ hx (key_of (by omega)) fun w' h1 h2 => hK w' (MapIs.of h1 ?_ fun j => ?_) h2.grown
  · have h3 := size_del (k := .int .i64 (i : Int)) (hown.tidy keyLaw)
    rw [(hv i).1, hf, if_pos rfl, hs, ← nOpen_set hf] at h3
    omega
  · rw [getD_set_bool]
    by_cases hj : j = i
    · subst hj
      rw [if_pos rfl]
      exact ⟨has_del_same, atKey_del_same _⟩
    · rw [if_neg hj]
      exact ⟨(has_del_other (ne_key hj)).trans (hv j).1, (atKey_del_other (ne_key hj) _).trans (hv j).2⟩
theorem wpList_mlen (hg : o.guard = none) (m : Operand) (hop : o.op = Op.call { callee := Callee.builtin Builtin.len, args := #[m], argTypes := #[167] }) (hm : a.eval m = .map (some b)) (H : MapIs w b op)
    (hK : wpList Tryd.prog ops Q rest (a.put o.dst (.int .i64 (nOpen op))) w) : wpList Tryd.prog ops Q (o :: rest) a w := by
  obtain ⟨D, hown, hs, hv⟩ := H
  exact wpList_len_own w hg m 167 hop 3 4 Tryd.underlying167 _ b _ D hm hown (by rw [hs]; exact hK)
end
end Go.Proofs.YtghfifpicklonaaDoor

/-
  Silent gates in plain Lean: the greatest set that stays silent; gates folded to zeros. Conditions: none.
-/
namespace Go.Proofs.YtghfifpicklonaaDoor
open Go.RowKit
set_option linter.unusedVariables false

def LeB (m m' : List Bool) : Prop := ∀ i, m.getD i false = true → m'.getD i false = true
/-- How many are marked. -/
def nT (m : List Bool) : Nat := m.countP (fun b => b)
def z2 : Gt := ⟨2, 0, 0, 0⟩
end Go.Proofs.YtghfifpicklonaaDoor

/-
  The laws' own helpers on lists of gates: comparison and marks. Conditions: lengths are small.
-/
namespace Go.Proofs.YtghfifpicklonaaDoor
open Go.RowKit
set_option linter.unusedVariables false
set_option maxRecDepth 100000

theorem wrap64_id {x : Int} (h0 : -9223372036854775808 ≤ x) (h1 : x ≤ 9223372036854775807) : wrap64 x = x := by
  unfold wrap64
  omega
theorem eqGateS_any (v1 v2 : Value) (x y : List Gt) (w : World) (h1 : RdR gateE w v1 x) (h2 : RdR gateE w v2 y) (l1 : x.length ≤ 1000000000) (l2 : y.length ≤ 1000000000) :
    Calls Tryd.prog 36 #[v1, v2] w fun e w' => e = .returned (.bool (decide (x = y))) ∧ w.grownBy w' none := by
  have H1 := Lib.hid h1; have H2 := Lib.hid h2
  obtain ⟨a1, c1, rfl⟩ := h1.shape
  obtain ⟨a2, c2, rfl⟩ := h2.shape
  clear h1 h2
  by_cases hl : x.length = y.length
  · generalize hlx : x.length = l at *
    have HLX := Lib.hid hlx; have HLY := Lib.hid hl
    rw [← HLY.out]
    clear hlx hl
    go_enter Tryd.func36, Tryd.ntmps36
    go_wp2
    go_loopw [5] (fun i wr => ∃ k : Nat, k ≤ l ∧ i = .int .i64 k ∧ (∀ j, j < k → x.getD j g0 = y.getD j g0) ∧ w.grownBy wr none) (fun i _ => l - (intOf i).toNat)
    case atStart => exact ⟨0, by omega, rfl, fun _ h => absurd h (by omega), grownBy_refl _ _⟩
    case round =>
      obtain ⟨k, hk, rfl, ho, hg⟩ := hrel
      have HO := Lib.hid ho; have HG := Lib.hid hg
      clear ho hg
      by_cases hlt : k < l
      · obtain ⟨b1, o1, rfl, hb1, p0, p1, p2, p3⟩ := gate_at rfl rfl (H1.out.carry HG.out) (i := k) (by rw [HLX.out]; exact hlt)
        obtain ⟨b2, o2, rfl, hb2, q0, q1, q2, q3⟩ := gate_at rfl rfl (H2.out.carry HG.out) (i := k) (by rw [← HLY.out]; exact hlt)
        generalize hzx : x.getD k g0 = zx at *
        generalize hzy : y.getD k g0 = zy at *
        have HZX := Lib.hid hzx; have HZY := Lib.hid hzy
        have HC := Lib.hid (eqGate_any zx zy wr.drew)
        unfold gtV at HC
        clear hzx hzy hb1 hb2
        by_cases he : zx = zy
        · rw [decide_eq_true he] at HC
          have HE := Lib.hid he
          clear he
          go_wp2_with fail
          refine wp_region_still_tail 8 (by kernel_rfl) (by kernel_rfl) ?_
          simp only [List.take_succ_cons, List.take_zero, List.drop_succ_cons, List.drop_zero]
          repeat still_step
          refine wpStill_nil ?_
          change wpList _ _ _ _ _ wr.drew
          go_wp2_with (
            go_at_call 82
            refine HC.out.mono ?_
            rintro e w2 ⟨rfl, hg⟩
            have HG2 := Lib.hid ((HG.out.trans (⟨rfl, rfl, rfl, Nat.le_refl _, fun _ _ _ => rfl⟩ : wr.grownBy wr.drew none)).trans hg)
            clear hg)
          go_roundw
          case rel => exact ⟨k + 1, by omega, by go_num, fun j hj => by
            by_cases hjk : j = k
            · subst hjk; rw [HZX.out, HZY.out, HE.out]
            · exact HO.out j (by omega), HG2.out⟩
          case measure => simp [intOf]; omega
        · rw [decide_eq_false he] at HC
          have hfin : decide (x = y) = false := by
            rw [decide_eq_false_iff_not]
            intro h
            subst h
            exact he (HZX.out.symm.trans HZY.out)
          have HF := Lib.hid hfin
          clear hfin he
          go_wp2_with fail
          refine wp_region_still_tail 8 (by kernel_rfl) (by kernel_rfl) ?_
          simp only [List.take_succ_cons, List.take_zero, List.drop_succ_cons, List.drop_zero]
          repeat still_step
          refine wpStill_nil ?_
          change wpList _ _ _ _ _ wr.drew
          go_wp2_with (
            go_at_call 82
            refine HC.out.mono ?_
            rintro e w2 ⟨rfl, hg⟩
            have HG2 := Lib.hid ((HG.out.trans (⟨rfl, rfl, rfl, Nat.le_refl _, fun _ _ _ => rfl⟩ : wr.grownBy wr.drew none)).trans hg)
            clear hg)
          go_ret
          exact ⟨by rw [HF.out]; rfl, HG2.out⟩
      · have hfin : decide (x = y) = true := by
          rw [decide_eq_true_iff]
          refine List.ext_getElem (by rw [HLX.out, HLY.out]) fun j h h' => ?_
          have := HO.out j (by have := HLX.out; omega)
          rwa [List.getD_eq_getElem?_getD, List.getElem?_eq_getElem h, List.getD_eq_getElem?_getD, List.getElem?_eq_getElem h'] at this
        have HF := Lib.hid hfin
        clear hfin
        go_wp2
        go_ret
        exact ⟨by rw [HF.out]; rfl, HG.out⟩
  · have hfin : decide (x = y) = false := by
      rw [decide_eq_false_iff_not]
      intro h
      exact hl (by rw [h])
    have hb : ((x.length : Int) != y.length) = true := by rw [bne_iff_ne]; omega
    have HF := Lib.hid hfin
    clear hfin hl
    go_enter Tryd.func36, Tryd.ntmps36
    go_wp2
    go_ret
    exact ⟨by rw [HF.out]; rfl, grownBy_refl _ _⟩
/-- Gates that hold k, k + 1, .. -/
def cntG (k : Int) (n : Nat) : List Gt := (List.range n).map fun (i : Nat) => ⟨k + 4 * (i : Int), k + 4 * (i : Int) + 1, k + 4 * (i : Int) + 2, k + 4 * (i : Int) + 3⟩
theorem cntG_len (k : Int) (n : Nat) : (cntG k n).length = n := by simp [cntG]
theorem cntG_at (k : Int) {n i : Nat} (h : i < n) : (cntG k n).getD i g0 = ⟨k + 4 * (i : Int), k + 4 * (i : Int) + 1, k + 4 * (i : Int) + 2, k + 4 * (i : Int) + 3⟩ := by
  unfold cntG
  rw [List.getD_eq_getElem?_getD, List.getElem?_map, List.getElem?_range h]
  rfl
theorem cntG_succ (k : Int) (n : Nat) : cntG k (n + 1) = cntG k n ++ [⟨k + 4 * (n : Int), k + 4 * (n : Int) + 1, k + 4 * (n : Int) + 2, k + 4 * (n : Int) + 3⟩] := by simp [cntG, List.range_succ]
theorem markG_set {gs : List Gt} {n j : Nat} {k : Int} (hl : gs.length = n) (hj : j < n) : (cntG k j ++ gs.drop j).set j ⟨k + 4 * (j : Int), k + 4 * (j : Int) + 1, k + 4 * (j : Int) + 2, k + 4 * (j : Int) + 3⟩ = cntG k (j + 1) ++ gs.drop (j + 1) := by
  rw [List.set_append_right _ _ (by rw [cntG_len]; omega), cntG_len, Nat.sub_self, List.drop_eq_getElem_cons (by omega), List.set_cons_zero, cntG_succ]
  simp
set_option maxHeartbeats 1000000 in
theorem markGateS_any (a : Option Addr) (n c : Nat) (gs : List Gt) (k : Int) (w : World) (l : List Asrt) (hs : Sep w (OR gateE (.slice a n c) gs :: l)) (hn : n = gs.length) (hl : n ≤ 2000000) (h0 : 0 ≤ k) (h1 : k ≤ 100000000) :
    Calls Tryd.prog 40 #[.slice a n c, .int .i64 k] w fun e w' => e = .returned (.int .i64 (k + 4 * n)) ∧ Sep w' (OR gateE (.slice a n c) (cntG k n) :: l) := by
  have HS := Lib.hid hs; have HL := Lib.hid hn.symm
  clear hs hn
  go_enter Tryd.func40, Tryd.ntmps40
  go_wp2
  go_loopw [1, 5] (fun kv i wr => ∃ (j : Nat) (q : Int), j ≤ n ∧ i = .int .i64 j ∧ kv = .int .i64 q ∧ q = k + 4 * (j : Int) ∧ Sep wr (OR gateE (.slice a n c) (cntG k j ++ gs.drop j) :: l)) (fun _ i _ => n - (intOf i).toNat)
  case atStart => exact ⟨0, k, by omega, rfl, rfl, by simp, by simpa [cntG] using HS.out⟩
  case round =>
    obtain ⟨j, q, hj, rfl, rfl, hq, hs⟩ := hrel
    have HSX := Lib.hid hs
    have HQ := Lib.hid hq
    by_cases hlt : j < n
    · have hll : n = (cntG k j ++ gs.drop j).length := by rw [List.length_append, cntG_len, List.length_drop, HL.out]; omega
      obtain ⟨g, cap, he, _, _, _⟩ := HSX.out.hd.parts (by rw [← hll]; omega)
      rw [← hll] at he
      cases he
      obtain ⟨f0, f1, f2, f3⟩ := gate_free HSX.out.hd hll j
      obtain ⟨y, d0, d1, d2, d3⟩ := gate_cellsQ HSX.out.hd hll (i := j) (by rw [← hll]; exact hlt)
      obtain ⟨q1, e1⟩ : ∃ q1, q1 = q + 1 := ⟨_, rfl⟩
      obtain ⟨q2, e2⟩ : ∃ q2, q2 = q1 + 1 := ⟨_, rfl⟩
      obtain ⟨q3, e3⟩ : ∃ q3, q3 = q2 + 1 := ⟨_, rfl⟩
      obtain ⟨q4, e4⟩ : ∃ q4, q4 = q3 + 1 := ⟨_, rfl⟩
      have hw : wrap64 (q + 1) = q1 := (wrap64_id (by omega) (by omega)).trans e1.symm
      have hw1 : wrap64 (q1 + 1) = q2 := (wrap64_id (by omega) (by omega)).trans e2.symm
      have hw2 : wrap64 (q2 + 1) = q3 := (wrap64_id (by omega) (by omega)).trans e3.symm
      have hw3 : wrap64 (q3 + 1) = q4 := (wrap64_id (by omega) (by omega)).trans e4.symm
      have HQ4 := Lib.hid (show q4 = k + 4 * ((j + 1 : Nat) : Int) by omega)
      have hset := HSX.out.setG hll (by rw [← hll]; exact hlt) ⟨q, q1, q2, q3⟩
      have hm := markG_set (k := k) HL.out hlt
      rw [show k + 4 * (j : Int) = q by omega, show q + 1 = q1 by omega, show q + 2 = q2 by omega, show q + 3 = q3 by omega] at hm
      rw [hm] at hset
      have HSET := Lib.hid hset
      clear hll hset hs hq hm e1 e2 e3 e4
      go_wp2
      go_roundw
      case rel => exact ⟨j + 1, q4, by omega, by go_num, congrArg _ hw3, HQ4.out, HSET.out⟩
      case measure => simp [intOf]; omega
    · have hjn : j = n := by omega
      subst hjn
      clear hlt hs hq
      go_wp2
      go_ret
      have := HSX.out
      rw [List.drop_of_length_le (by rw [HL.out]; omega), List.append_nil] at this
      exact ⟨by rw [HQ.out]; rfl, this⟩
set_option maxHeartbeats 1000000 in
theorem heldGateS_any (a : Option Addr) (n c : Nat) (k : Int) (w : World) (hv : RdR gateE w (.slice a n c) (cntG k n)) (hl : n ≤ 2000000) (h0 : 0 ≤ k) (h1 : k ≤ 100000000) :
    Calls Tryd.prog 42 #[.slice a n c, .int .i64 k] w fun e w' => e = .returned (.int .i64 (k + 4 * n)) ∧ w = w' := by
  have HV := Lib.hid hv
  clear hv
  go_enter Tryd.func42, Tryd.ntmps42
  go_wp2
  go_loop [1, 5] (fun kv i => ∃ (j : Nat) (q : Int), j ≤ n ∧ i = .int .i64 j ∧ kv = .int .i64 q ∧ q = k + 4 * (j : Int)) (fun _ i => n - (intOf i).toNat)
  case atStart => exact ⟨0, k, by omega, rfl, rfl, by simp⟩
  case round =>
    obtain ⟨j, q, hj, rfl, rfl, hq⟩ := hrel
    by_cases hlt : j < n
    · obtain ⟨b, o, rfl, hb, c0, c1, c2, c3⟩ := gate_at rfl rfl HV.out (i := j) (by rw [cntG_len]; exact hlt)
      rw [cntG_at k hlt] at c0 c1 c2 c3
      simp only at c0 c1 c2 c3
      rw [← hq] at c0 c1 c2 c3
      obtain ⟨q1, e1⟩ : ∃ q1, q1 = q + 1 := ⟨_, rfl⟩
      obtain ⟨q2, e2⟩ : ∃ q2, q2 = q1 + 1 := ⟨_, rfl⟩
      obtain ⟨q3, e3⟩ : ∃ q3, q3 = q2 + 1 := ⟨_, rfl⟩
      obtain ⟨q4, e4⟩ : ∃ q4, q4 = q3 + 1 := ⟨_, rfl⟩
      rw [← e1] at c1
      rw [show q + 2 = q2 by omega] at c2
      rw [show q + 3 = q3 by omega] at c3
      have hw : wrap64 (q + 1) = q1 := (wrap64_id (by omega) (by omega)).trans e1.symm
      have hw1 : wrap64 (q1 + 1) = q2 := (wrap64_id (by omega) (by omega)).trans e2.symm
      have hw2 : wrap64 (q2 + 1) = q3 := (wrap64_id (by omega) (by omega)).trans e3.symm
      have hw3 : wrap64 (q3 + 1) = q4 := (wrap64_id (by omega) (by omega)).trans e4.symm
      have HQ4 := Lib.hid (show q4 = k + 4 * ((j + 1 : Nat) : Int) by omega)
      clear hq e1 e2 e3 e4
      go_wp2
      go_round
      case rel => exact ⟨j + 1, q4, by omega, by go_num, congrArg _ hw3, HQ4.out⟩
      case measure => simp [intOf]; omega
    · have hjn : j = n := by omega
      subst hjn
      subst hq
      clear hlt
      go_wp2
      go_ret
      exact ⟨rfl, rfl⟩
end Go.Proofs.YtghfifpicklonaaDoor

/-
  The laws' own helpers on circuits: size, copy, comparison, marks. Conditions: lengths are small.
-/
namespace Go.Proofs.YtghfifpicklonaaDoor
open Go.RowKit
set_option linter.unusedVariables false
set_option maxRecDepth 100000

theorem Sep.graft1 {w w' : World} {A : Asrt} {l : List Asrt} (h : Sep w l) (h' : Sep w' [A, KeepA w]) (hA : ∀ k, A.sees k → A.foot k) : Sep w' (A :: l) :=
  h.new h'.tl.hd h'.hd fun k hk => Nat.le_of_not_lt fun hlt => h'.apt.1 k (hA k hk) hlt
theorem Sep.graft2 {w w' : World} {A C : Asrt} {l : List Asrt} (h : Sep w l) (h' : Sep w' [A, C, KeepA w]) (hA : ∀ k, A.sees k → A.foot k) (hC : ∀ k, C.sees k → C.foot k) : Sep w' (A :: C :: l) := by
  have h1 := h.graft1 h'.tl hC
  have h2 := h.graft1 (h'.under Sep.tl (by simp +contextual)) hA
  refine ⟨h'.hd, fun D hD => ?_, h1⟩
  rcases List.mem_cons.1 hD with rfl | hD
  · exact h'.apt
  · exact h2.2.1 D hD
theorem OR_own {α : Type} {E : Lay α} {v : Value} {xs : List α} : ∀ k, (OR E v xs).sees k → (OR E v xs).foot k := fun _ h => h
theorem OI_own {v : Value} {zs : List Int} : ∀ k, (OI v zs).sees k → (OI v zs).foot k := fun _ h => h
theorem bx3 {w : World} {k : Nat} {x y z : Value} {t : TypeId} (h : w.heap[k]? = some (.cells #[x, y, z] t (0, 0))) :
    w.cell? ⟨k, 0, none⟩ = some x ∧ w.cell? ⟨k, 1, none⟩ = some y ∧ w.cell? ⟨k, 2, none⟩ = some z ∧ w.frozen? ⟨k, 0, none⟩ = false ∧ w.frozen? ⟨k, 1, none⟩ = false ∧ w.frozen? ⟨k, 2, none⟩ = false :=
  ⟨cell_of_row w k 0 _ _ _ h, cell_of_row w k 1 _ _ _ h, cell_of_row w k 2 _ _ _ h, frozen_of_row w k 0 _ _ h, frozen_of_row w k 1 _ _ h, frozen_of_row w k 2 _ _ h⟩
/-- what is left of a budget behind a list's length -/
def lft (left : Int) (n : Nat) : Int := if left - n < 0 then -1 else left - n
end Go.Proofs.YtghfifpicklonaaDoor

/-
  The laws' own helpers on circuits: comparison and marks. Conditions: lengths are small.
-/
namespace Go.Proofs.YtghfifpicklonaaDoor
open Go.RowKit
set_option linter.unusedVariables false
set_option maxRecDepth 100000

theorem Sep.drop3 {w : World} {A C D : Asrt} {l : List Asrt} (h : Sep w (A :: C :: D :: l)) : Sep w (A :: C :: l) := h.under Sep.drop2 (by simp +contextual)
theorem eqCircuit_same (n : Int) (u1 o1 u2 o2 : Value) (gs : List Gt) (os : List Int) (w : World) (h1 : RdR gateE w u1 gs) (h2 : RdR gateE w u2 gs) (k1 : IntsV w o1 os) (k2 : IntsV w o2 os) (l1 : gs.length ≤ 1000000000) (l2 : os.length ≤ 1000000000) :
    Calls Tryd.prog 10 #[cirV n u1 o1, cirV n u2 o2] w fun e w' => e = .returned (.bool true) ∧ w.grownBy w' none := by
  unfold cirV
  have HG := Lib.hid fun W (h : w.grownBy W none) => eqGateS_any u1 u2 gs gs W (h1.carry h) (h2.carry h) l1 l1
  have HO := Lib.hid fun W (h : w.grownBy W none) => eqIntS_any o1 o2 os os W (k1.carry h) (k2.carry h) l2 l2
  rw [decide_eq_true rfl] at HG HO
  obtain ⟨a1, c1, rfl⟩ := h1.shape
  obtain ⟨a2, c2, rfl⟩ := h2.shape
  obtain ⟨a3, c3, rfl⟩ := k1.shape
  obtain ⟨a4, c4, rfl⟩ := k2.shape
  generalize gs.length = n1 at *
  generalize os.length = n2 at *
  clear h1 h2 k1 k2
  have hs0 := ((Sep.start w).box #[.int .i64 n, .slice a1 n1 c1, .slice a3 n2 c3] 29).box #[.int .i64 n, .slice a2 n1 c2, .slice a4 n2 c4] 29
  have e1 : (w.alloc (.cells #[.int .i64 n, .slice a1 n1 c1, .slice a3 n2 c3] 29)).heap.size = w.heap.size + 1 := by simp
  rw [e1] at hs0
  have HS0 := Lib.hid hs0
  clear hs0 e1
  go_enter Tryd.func10, Tryd.ntmps10
  go_wp2_with (first
    | (go_at_call 36
       refine (HG.out _ HS0.out.tl.tl.hd).mono ?_
       rintro e w4 ⟨rfl, hg⟩
       have hs1 := HS0.out.grown hg
       obtain ⟨x0, x1, x2, _⟩ := bx3 hs1.hd
       obtain ⟨y0, y1, y2, _⟩ := bx3 hs1.tl.hd
       have HS1 := Lib.hid hs1
       clear hg hs1)
    | (go_at_call 37
       refine (HO.out _ HS1.out.tl.tl.hd).mono ?_
       rintro e w6 ⟨rfl, hg⟩
       have HS2 := Lib.hid (HS1.out.grown hg)
       clear hg))
  go_ret
  exact ⟨rfl, HS2.out.tl.tl.hd⟩
theorem markCircuit_any (m : Int) (a1 a2 : Option Addr) (n1 c1 n2 c2 : Nat) (gs : List Gt) (os : List Int) (k : Int) (w : World) (l : List Asrt) (hs : Sep w (OR gateE (.slice a1 n1 c1) gs :: OI (.slice a2 n2 c2) os :: l)) (hn1 : n1 = gs.length) (hn2 : n2 = os.length)
    (l1 : n1 ≤ 2000000) (l2 : n2 ≤ 2000000) (h0 : 0 ≤ k) (h1 : k ≤ 1000000) :
    Calls Tryd.prog 13 #[cirV m (.slice a1 n1 c1) (.slice a2 n2 c2), .int .i64 k] w fun e w' => e = .returned (.int .i64 (k + 4 * n1 + n2)) ∧ Sep w' (OR gateE (.slice a1 n1 c1) (cntG k n1) :: OI (.slice a2 n2 c2) (cntI (k + 4 * n1) n2) :: l) := by
  unfold cirV
  obtain ⟨q, hq⟩ : ∃ q, q = k + 4 * (n1 : Int) := ⟨_, rfl⟩
  have HG := Lib.hid fun W l (h : Sep W (OR gateE (.slice a1 n1 c1) gs :: l)) => markGateS_any a1 n1 c1 gs k W l h hn1 l1 h0 (by omega)
  have HO := Lib.hid fun W l (h : Sep W (OI (.slice a2 n2 c2) os :: l)) => markIntS_any a2 n2 c2 os q W l h hn2 l2 (by omega) (by omega)
  rw [← hq] at HG ⊢
  have hs0 := hs.box #[.int .i64 m, .slice a1 n1 c1, .slice a2 n2 c2] 29
  have HS0 := Lib.hid hs0.s2
  clear hs hq hs0 hn1 hn2
  go_enter Tryd.func13, Tryd.ntmps13
  go_wp2_with (first
    | (go_at_call 40
       refine (HG.out _ _ HS0.out).mono ?_
       rintro e w4 ⟨rfl, hs⟩
       obtain ⟨x0, x1, x2, _⟩ := bx3 hs.tl.hd
       have HS1 := Lib.hid hs.s3
       clear hs)
    | (go_at_call 41
       refine (HO.out _ _ HS1.out).mono ?_
       rintro e w6 ⟨rfl, hs⟩
       have HS2 := Lib.hid hs.s2.drop3
       clear hs))
  go_ret
  exact ⟨rfl, HS2.out⟩
theorem heldCircuit_any (m : Int) (a1 a2 : Option Addr) (n1 c1 n2 c2 : Nat) (k : Int) (w : World) (hg : RdR gateE w (.slice a1 n1 c1) (cntG k n1)) (ho : IntsV w (.slice a2 n2 c2) (cntI (k + 4 * n1) n2))
    (l1 : n1 ≤ 2000000) (l2 : n2 ≤ 2000000) (h0 : 0 ≤ k) (h1 : k ≤ 1000000) :
    Calls Tryd.prog 14 #[cirV m (.slice a1 n1 c1) (.slice a2 n2 c2), .int .i64 k] w fun e w' => e = .returned (.int .i64 (k + 4 * n1 + n2)) ∧ w.grownBy w' none := by
  unfold cirV
  obtain ⟨q, hq⟩ : ∃ q, q = k + 4 * (n1 : Int) := ⟨_, rfl⟩
  have HG := Lib.hid fun W (h : w.grownBy W none) => heldGateS_any a1 n1 c1 k W (hg.carry h) l1 h0 (by omega)
  rw [← hq] at ho
  have HO := Lib.hid fun W (h : w.grownBy W none) => heldIntS_any a2 n2 c2 q W (ho.carry h) l2 (by omega) (by omega)
  rw [← hq] at HG ⊢
  have hq0 : ¬ q < 0 := by omega
  have hq1 : ¬ q + n2 < 0 := by omega
  have HGR := Lib.hid (gr1 w (.cells #[.int .i64 m, .slice a1 n1 c1, .slice a2 n2 c2] 29))
  clear hg ho hq
  go_enter Tryd.func14, Tryd.ntmps14
  go_wp2_with (first
    | (go_at_call 42; refine (HG.out _ HGR.out).mono ?_; rintro e w4 ⟨rfl, rfl⟩)
    | (go_at_call 43; refine (HO.out _ HGR.out).mono ?_; rintro e w6 ⟨rfl, rfl⟩))
  go_ret
  exact ⟨rfl, HGR.out⟩
end Go.Proofs.YtghfifpicklonaaDoor

/-
  The order in which gates are made, in the program. Conditions: at most 1000 gates, whose operands are gates.
-/
namespace Go.Proofs.YtghfifpicklonaaDoor
open Go.RowKit Go.Maps
set_option linter.unusedVariables false
set_option maxRecDepth 100000

theorem sch11_any (k mb p4 : Nat) (op : List Bool) (w : World) (hc : w.cell? ⟨p4, 0, none⟩ = some (.map (some mb))) (hm : MapIs w mb op) (hk : k ≤ 1000000) :
    Calls Tryd.prog 149 #[.int .i64 k, .pointer (some ⟨p4, 0, none⟩)] w fun e w' => e = .returned (.bool (op.getD k false)) ∧ w = w' := by
  have HM := Lib.hid hm
  clear hm
  generalize hx : op.getD k false = x
  have HX := Lib.hid hx
  clear hx
  go_enter Tryd.func149, Tryd.ntmps149
  go_wp2_with (at_lookup; refine wpList_look rfl _ _ rfl rfl rfl HM.out hk ?_; rw [HX.out])
  go_ret
  exact ⟨rfl, rfl⟩
set_option maxHeartbeats 1000000 in
theorem sch1_any (i mb p4 p1 n : Nat) (op : List Bool) (gs : List Gt) (a : Option Addr) (c : Nat) (w : World) (h4 : w.cell? ⟨p4, 0, none⟩ = some (.map (some mb))) (h1 : w.cell? ⟨p1, 1, none⟩ = some (.slice a n c)) (hm : MapIs w mb op)
    (hg : RdR gateE w (.slice a n c) gs) (hn : gs.length = n) (hi : i < n) (hl : n ≤ 1000) (hops : ∀ g ∈ gs, ∀ x ∈ opsL g, 0 ≤ x ∧ x < n) :
    Calls Tryd.prog 148 #[.int .i64 i, .pointer (some ⟨p4, 0, none⟩), .pointer (some ⟨p1, 0, none⟩)] w fun e w' => e = .returned (.bool (readyB gs op i)) ∧ w.grownBy w' none := by
  have HM := Lib.hid hm
  obtain ⟨b, o, rfl, hb, c0, c1, c2, c3⟩ := gate_at rfl rfl hg (i := i) (by rw [hn]; exact hi)
  have hmem : gs.getD i g0 ∈ gs := by
    rw [List.getD_eq_getElem?_getD, List.getElem?_eq_getElem (by omega)]
    exact List.getElem_mem _
  have hro : readyB gs op i = (op.getD i false && !(needsL (gs.getD i g0)).any fun k => op.getD k.toNat false) := rfl
  have hnb : ∀ x ∈ needsL (gs.getD i g0), 0 ≤ x ∧ x < n := fun x hx => hops _ hmem x (by
    unfold needsL at hx
    split at hx
    · exact hx
    · cases hx)
  have hnl : (needsL (gs.getD i g0)).length ≤ 2 := by
    unfold needsL
    split
    · unfold opsL
      split
      · simp
      · split <;> simp
    · simp
  rw [hro]
  clear hro hmem hg hops hm
  generalize gs.getD i g0 = g at *
  have HN := Lib.hid (needs_any g)
  have h4s := World.block_lt_of_cell? w _ h4
  have HC := Lib.hid fun W v (hg : w.grownBy W none) (hv : IntsV W v (needsL g)) => containsFunc_any 149 #[.pointer (some ⟨p4, 0, none⟩)] (enters_of Tryd.func149 (by kernel_rfl) rfl) (needsL g) (fun k => op.getD k.toNat false) v W hv (by omega) (fun W' x hx hg' => by
    obtain ⟨b0, b1⟩ := hnb x hx
    obtain ⟨k, rfl⟩ := Int.eq_ofNat_of_zero_le b0
    have hgw := grownBy_trans hg hg'
    refine (sch11_any k mb p4 op W' ((World.cell?_of_block (a := ⟨p4, 0, none⟩) (hgw.block _ h4s (by simp))).trans h4) (HM.out.grown hgw) (by omega)).mono ?_
    rintro e w' ⟨rfl, rfl⟩
    exact ⟨rfl, grownBy_refl _ _⟩)
  unfold gtV at HN
  generalize (needsL g).any (fun k => op.getD k.toNat false) = r at *
  generalize needsL g = zs at *
  generalize zs.length = zl at *
  generalize hx : op.getD i false = x
  have HX := Lib.hid hx
  clear hx hnb
  cases x
  · go_enter Tryd.func148, Tryd.ntmps148
    go_wp2_with (at_lookup; refine wpList_look rfl _ _ rfl rfl rfl HM.out (by omega) ?_; rw [HX.out])
    go_ret
    exact ⟨rfl, grownBy_refl _ _⟩
  · go_enter Tryd.func148, Tryd.ntmps148
    go_wp2_with (first
      | (at_lookup; refine wpList_look rfl _ _ rfl rfl rfl HM.out (by omega) ?_; rw [HX.out])
      | (go_at_call 147
         refine (HN.out _).mono ?_
         rintro e w2 ⟨a', c', rfl, hi', hg'⟩
         have HI := Lib.hid hi'; have HG := Lib.hid hg'
         clear hi' hg')
      | (go_at_call 142
         refine (HC.out _ _ HG.out HI.out).mono ?_
         rintro e w3 ⟨rfl, hg'⟩
         have HG2 := Lib.hid (grownBy_trans HG.out hg')
         clear hg'))
    go_ret
    exact ⟨rfl, HG2.out⟩
theorem open_step {gs : List Gt} {n k : Nat} (hn : gs.length = n) (hk : k < n) :
    (open0 gs).take (k + 1) ++ List.replicate (n - (k + 1)) false = if combB (gs.getD k g0) then ((open0 gs).take k ++ List.replicate (n - k) false).set k true else (open0 gs).take k ++ List.replicate (n - k) false := by
  have hl : (open0 gs).length = n := by unfold open0; rw [List.length_map, hn]
  have h1 : ((open0 gs).take k).length = k := by rw [List.length_take]; omega
  have h2 : n - k = (n - (k + 1)) + 1 := by omega
  have h3 := open0_getD gs k
  rw [List.getD_eq_getElem?_getD, List.getElem?_eq_getElem (by omega)] at h3
  simp only [Option.getD_some] at h3
  rw [List.take_succ_eq_append_getElem (by omega), h3, h2, List.replicate_succ]
  cases combB (gs.getD k g0)
  · simp
  · rw [if_pos rfl, List.set_append_right _ _ (by omega), h1, Nat.sub_self, List.set_cons_zero]
    simp
theorem open_at {gs : List Gt} {n k : Nat} (hn : gs.length = n) (hk : k < n) : ((open0 gs).take k ++ List.replicate (n - k) false).getD k false = false := by
  have hl : (open0 gs).length = n := by unfold open0; rw [List.length_map, hn]
  have h1 : ((open0 gs).take k).length = k := by rw [List.length_take]; omega
  rw [List.getD_eq_getElem?_getD, List.getElem?_append_right (by omega), h1, Nat.sub_self, show n - k = (n - (k + 1)) + 1 by omega, List.replicate_succ]
  rfl
theorem needs_comb (g : Gt) : (combB g = true → 0 < (needsL g).length) ∧ (combB g = false → (needsL g).length = 0) := by
  unfold combB needsL
  constructor
  · intro h
    have h := of_decide_eq_true h
    rw [if_pos h]
    unfold opsL
    split
    · simp
    · rw [if_pos (by omega)]; simp
  · intro h
    have h := of_decide_eq_false h
    rw [if_neg h]
    rfl
def sliceLen : Value → Nat
  | .slice _ n _ => n
  | _ => 0
end Go.Proofs.YtghfifpicklonaaDoor

/-
 A map from integers to integers that the call has made: it sends the wires of a list to numbers from a base on. Conditions: none.
-/
import Derived.Test.YtjagjhchnpmngaaGreatCz06
import Derived.Test.YtjagjhchnpmngaaGreatCz05
import Derived.Test.YtjagjhchnpmngaaGreatCz04
import Derived.Test.YtjagjhchnpmngaaGreatCz03
import Derived.Test.YtjagjhchnpmngaaGreatCz02
import Derived.Test.YtjagjhchnpmngaaGreatCz01
import Derived.Test.YtjagjhchnpmngaaGreatCz00
import Derived.Test.YtjagjhchnpmngaaGreatCz32
import Derived.Maps.OwnSet
import Derived.Test.YtjagjhchnpmngaaGreatCz23
import Derived.Test.YtjagjhchnpmngaaGreatCz07
import Derived.Great.Walk
import Derived.Test.YtjagjhchnpmngaaGreatCz35
import Derived.Test.YtjagjhchnpmngaaGreatCz30
import Derived.Test.YtjagjhchnpmngaaGreatCz13
import Derived.Test.YtjagjhchnpmngaaGreatCz16
set_option linter.unusedVariables false
set_option linter.unusedSimpArgs false
set_option maxRecDepth 100000
namespace Go.Proofs.YtjagjhchnpmngaaGreat
open Go.RowKit Go.Maps
theorem tkLaw : Keyed Tryz.prog 3 := int_keyed Tryz.underlying3
theorem tkZero (w : World) : (zeroValue 3).run Tryz.prog w = .ok (.int .i64 0) w := by kernel_rfl
theorem tkKey {x : Int} (h0 : 0 ≤ x) (h1 : x ≤ 1000000) : keyOf Tryz.prog 3 (.int .i64 x) = some (.int .i64 x) := keyOf_int_mk Tryz.underlying3 (WalkArith.wf_i64 (by omega))
theorem tkLit (i : Int) : WideAt.IsKeyLit (.int .i64 i) := by simp [WideAt.IsKeyLit]
theorem tkNe {i j : Int} (h : i ≠ j) : (Lit.int .i64 i) ≠ .int .i64 j := by
 intro e
 simp only [Lit.int.injEq, true_and] at e
 exact h e
def TkIs (w : World) (b : Nat) (T : List Int) (base : Int) : Prop :=
 ∃ D, w.ownsMap Tryz.prog 3 (plainElem (H := Unit) Tryz.prog 3) b T.length D ∧ size D = T.length ∧
  ∀ x : Int, has D (.int .i64 x) = decide (x ∈ T) ∧ (x ∈ T → D.atKey (.int .i64 x) (.lit (.int .i64 0)) = .lit (.int .i64 (dstF T base x)))
theorem tk_tight {w : World} {b n : Nat} {D : DataW Unit} (h : w.ownsMap Tryz.prog 3 (plainElem Tryz.prog 3) b n D) : w.ownsMap Tryz.prog 3 (plainElem Tryz.prog 3) b (size D) D := by
 obtain ⟨es, clock, hb, F, hs, rfl⟩ := h
 exact ⟨es, clock, hb, F, by rw [size_eq, length_sorted]; simp, rfl⟩
theorem TkIs.lt {w : World} {b : Nat} {T : List Int} {base : Int} (h : TkIs w b T base) : b < w.heap.size := by
 obtain ⟨D, h, _⟩ := h
 exact h.lt
theorem TkIs.only {w w' : World} {b : Nat} {T : List Int} {base : Int} (h : TkIs w b T base) (ho : Only (fun k => ¬ k = b) w w') : TkIs w' b T base := by
 obtain ⟨D, h, h2⟩ := h
 have hlt := h.lt
 obtain ⟨es, clock, hb, F, hs, hD⟩ := h
 exact ⟨D, ⟨es, clock, (ho.block b hlt fun h => h rfl).trans hb, F, hs, hD⟩, h2⟩
theorem TkIs.made (w : World) (base : Int) : TkIs (w.alloc (.map #[] 0)) w.heap.size [] base :=
 ⟨_, World.ownsMap_made w _ _ _, rfl, fun k => ⟨rfl, fun h => absurd h (by simp)⟩⟩
def TkA (b : Nat) (T : List Int) (base : Int) : Asrt where
 foot := fun k => k = b
 sees := fun k => k = b
 holds := fun w => TkIs w b T base
 sub := fun _ h => h
 lt := fun w k h hk => by have : k = b := hk; subst this; exact h.lt
 keep := fun w w' h ho => h.only ho
theorem Sep.tkNew {w : World} {l : List Asrt} (h : Sep w l) (b : Nat) (hb : b = w.heap.size) (base : Int) : Sep (w.alloc (.map #[] 0)) (TkA b [] base :: l) :=
 hb ▸ h.new (grownBy_alloc w _ none) (TkIs.made w base) fun k hk => by have : k = w.heap.size := hk; omega
theorem Sep.tkUpd {w w' : World} {b : Nat} {T T' : List Int} {base : Int} {l : List Asrt} (h : Sep w (TkA b T base :: l)) (hm : TkIs w' b T' base) (hg : w.grownBy w' (some b)) : Sep w' (TkA b T' base :: l) :=
 h.upd' (A' := TkA b T' base) (Only.of_grown hg fun k hk => (Option.some.inj hk).symm) hm fun k hk => Or.inl hk
section
variable {ops : Array Oper} {rest : List Oper} {o : Oper} {a : Act} {Q : Exit → Act → World → Prop} {w : World} {b : Nat} {T : List Int} {base x : Int}
theorem wpList_tkLook (hg : o.guard = none) (m y : Operand) (hop : o.op = Op.lookup 113 m y true) (hm : a.eval m = .map (some b)) (hx : a.eval y = .int .i64 x) (h0 : 0 ≤ x) (h1 : x ≤ 1000000) (H : TkIs w b T base)
 (hK : ∀ c : Int, (x ∈ T → c = dstF T base x) → wpList Tryz.prog ops Q rest (a.put o.dst (.tuple #[.int .i64 c, .bool (decide (x ∈ T))])) w) : wpList Tryz.prog ops Q (o :: rest) a w := by
 obtain ⟨D, hown, hs, hv⟩ := H
 obtain ⟨v1, v2⟩ := hv x
 refine wpList_lookup_own_ok_int w hg m y 113 hop 3 3 .i64 tkLaw Tryz.underlying113 Tryz.underlying3 (tkZero w) b _ D hm hown _ _ hx (tkKey h0 h1) fun c hat _ => ?_
 rw [v1]
 refine hK c fun ht => ?_
 have := v2 ht
 rw [hat] at this
 simpa using this
theorem wpList_tkLen (hg : o.guard = none) (m : Operand) (hop : o.op = Op.call { callee := Callee.builtin Builtin.len, args := #[m], argTypes := #[113] }) (hm : a.eval m = .map (some b)) (H : TkIs w b T base)
 (hK : wpList Tryz.prog ops Q rest (a.put o.dst (.int .i64 T.length)) w) : wpList Tryz.prog ops Q (o :: rest) a w := by
 obtain ⟨D, hown, hs, hv⟩ := H
 exact wpList_len_own w hg m 113 hop 3 3 Tryz.underlying113 _ b _ D hm hown (by rw [hs]; exact hK)
end
end Go.Proofs.YtjagjhchnpmngaaGreat
namespace Go.Proofs.YtjagjhchnpmngaaGreat
open Go.RowKit
theorem give_set {f : Int → Int} {zs : List Int} {k : Nat} (hk : k < zs.length) : ((zs.take k).map f ++ zs.drop k).set k (f (zs.getD k 0)) = (zs.take (k + 1)).map f ++ zs.drop (k + 1) := by
 have h1 : ((zs.take k).map f).length = k := by rw [List.length_map, List.length_take]; omega
 rw [List.set_append_right _ _ (by omega), h1, Nat.sub_self, List.drop_eq_getElem_cons hk, List.set_cons_zero, take_snocI hk, List.map_append, List.append_assoc]
 rfl
theorem give_same {f : Int → Int} {zs : List Int} {k : Nat} (hk : k < zs.length) (h : f (zs.getD k 0) = zs.getD k 0) : (zs.take (k + 1)).map f ++ zs.drop (k + 1) = (zs.take k).map f ++ zs.drop k := by
 rw [take_snocI hk, List.map_append, List.append_assoc]
 rw [show List.map f [zs.getD k 0] = [zs.getD k 0] by rw [List.map_cons, h]; rfl]
 rw [List.drop_eq_getElem_cons hk, List.getD_eq_getElem?_getD, List.getElem?_eq_getElem hk]
 rfl
theorem give_at {f : Int → Int} {zs : List Int} {k : Nat} (hk : k < zs.length) : ((zs.take k).map f ++ zs.drop k).getD k 0 = zs.getD k 0 := by
 have h1 : ((zs.take k).map f).length = k := by rw [List.length_map, List.length_take]; omega
 rw [List.getD_eq_getElem?_getD, List.getElem?_append_right (by omega), h1, Nat.sub_self, List.getElem?_drop, Nat.add_zero, List.getD_eq_getElem?_getD]
set_option maxHeartbeats 4000000 in
theorem give_any (zs T : List Int) (base : Int) (a : Option Addr) (n c tb mb : Nat) (w : World) (l : List Asrt) (hs : Sep w (OI (.slice a n c) zs :: TkA mb T base :: BxA tb #[.map (some mb)] 113 :: l)) (hn : n = zs.length) (hl : n ≤ 1000000) (hr : ∀ x ∈ zs, 0 ≤ x ∧ x ≤ 1000000) :
 Calls Tryz.prog 74 #[.slice a n c, .pointer (some ⟨tb, 0, none⟩)] w fun e w' => e = .returned (.tuple #[]) ∧ Sep w' (OI (.slice a n c) (zs.map (dstF T base)) :: TkA mb T base :: BxA tb #[.map (some mb)] 113 :: l) := by
 have HS := qd hs; have HN := qd hn; have HR := qd hr
 clear hs hn hr
 go_enter Tryz.func74, Tryz.ntmps74
 go_wp2_with fail
 go_loopw [3, 4, 5, 6, 9] (fun _ _ _ _ i wr => ∃ k : Nat, k ≤ n ∧ i = .int .i64 k ∧ Sep wr (OI (.slice a n c) ((zs.take k).map (dstF T base) ++ zs.drop k) :: TkA mb T base :: BxA tb #[.map (some mb)] 113 :: l)) (fun _ _ _ _ i _ => n - (intOf i).toNat)
 case atStart => exact ⟨0, by omega, rfl, by simpa using HS.out⟩
 case round =>
  obtain ⟨k, hk, rfl, hs⟩ := hrel
  have HSX := qd hs
  clear hs HS
  by_cases hlt : k < n
  ·have hke : k < zs.length := by rw [← HN.out]; exact hlt
   have hll : n = ((zs.take k).map (dstF T base) ++ zs.drop k).length := by rw [List.length_append, List.length_map, List.length_take, List.length_drop, HN.out]; omega
   obtain ⟨b, rfl⟩ := own_someT HSX.out.hd (by rw [← hll]; omega)
   have hc := own_atT HSX.out.hd hll hlt
   rw [give_at hke] at hc
   have hf := HSX.out.hd.free hll k
   have hx := HR.out _ (getD_memI hke)
   have HSET := qd (HSX.out.setI hll k (dstF T base (zs.getD k 0)))
   rw [give_set hke] at HSET
   have HSM := qd fun h => give_same (f := dstF T base) hke h
   have hbx := cell_of_row _ _ 0 _ _ _ HSX.out.tl.tl.hd
   have HM := qd (show TkIs wr mb T base from HSX.out.tl.hd)
   have HND := qd (show zs.getD k 0 ∉ T → dstF T base (zs.getD k 0) = zs.getD k 0 from fun h => by unfold dstF; rw [if_neg h])
   generalize zs.getD k 0 = x at *
   obtain ⟨hx0, hx1⟩ := hx
   clear hll hke
   by_cases hm : x ∈ T
   ·have HLK := qd fun (c : Int) (h : x ∈ T → c = dstF T base x) => h hm
    have hdm : decide (x ∈ T) = true := decide_eq_true hm
    clear HND HSM hm
    go_wp2_with (
     refine wpList_tkLook rfl _ _ rfl rfl rfl hx0 hx1 HM.out ?_
     intro cc hcc
     have HC := qd (HLK.out cc hcc)
     rw [hdm]
     clear hcc)
    rw [HC.out]
    go_roundw
    case rel => exact ⟨k + 1, by omega, by go_num, HSET.out⟩
    case measure => simp [intOf]; omega
   ·have hdm : decide (x ∈ T) = false := decide_eq_false hm
    have HS2 := qd (HSM.out (HND.out hm))
    clear HND HSM hm
    go_wp2_with (
     refine wpList_tkLook rfl _ _ rfl rfl rfl hx0 hx1 HM.out ?_
     intro cc hcc
     rw [hdm]
     clear hcc)
    go_roundw
    case rel => exact ⟨k + 1, by omega, by go_num, by rw [HS2.out]; exact HSX.out⟩
    case measure => simp [intOf]; omega
  ·have hkn : n = k := by omega
   subst hkn
   have hs := HSX.out
   rw [List.take_of_length_le (by rw [HN.out]; exact Nat.le_refl _), List.drop_eq_nil_of_le (by rw [HN.out]; exact Nat.le_refl _), List.append_nil] at hs
   have HS2 := qd hs
   clear hs hlt
   go_wp2_with fail
   exact Go.Great.bodyPost_end0 rfl rfl ⟨rfl, HS2.out⟩
end Go.Proofs.YtjagjhchnpmngaaGreat
namespace Go.Proofs.YtjagjhchnpmngaaGreat
open Go.RowKit Go.Maps
theorem rq15 {w : World} {k : Nat} {x0 x1 x2 x3 x4 x5 x6 x7 x8 x9 x10 x11 x12 x13 x14 : Value} {t : TypeId} (h : w.heap[k]? = some (.cells #[x0, x1, x2, x3, x4, x5, x6, x7, x8, x9, x10, x11, x12, x13, x14] t (0, 0))) :
 w.cell? ⟨k, 0, none⟩ = some x0 ∧ w.cell? ⟨k, 1, none⟩ = some x1 ∧ w.cell? ⟨k, 2, none⟩ = some x2 ∧ w.cell? ⟨k, 3, none⟩ = some x3 ∧ w.cell? ⟨k, 4, none⟩ = some x4 ∧ w.cell? ⟨k, 5, none⟩ = some x5 ∧ w.cell? ⟨k, 6, none⟩ = some x6 ∧ w.cell? ⟨k, 7, none⟩ = some x7 ∧ w.cell? ⟨k, 8, none⟩ = some x8 ∧ w.cell? ⟨k, 9, none⟩ = some x9 ∧ w.cell? ⟨k, 10, none⟩ = some x10 ∧ w.cell? ⟨k, 11, none⟩ = some x11 ∧ w.cell? ⟨k, 12, none⟩ = some x12 ∧ w.cell? ⟨k, 13, none⟩ = some x13 ∧ w.cell? ⟨k, 14, none⟩ = some x14 :=
 ⟨cell_of_row w k 0 _ _ _ h, cell_of_row w k 1 _ _ _ h, cell_of_row w k 2 _ _ _ h, cell_of_row w k 3 _ _ _ h, cell_of_row w k 4 _ _ _ h, cell_of_row w k 5 _ _ _ h, cell_of_row w k 6 _ _ _ h, cell_of_row w k 7 _ _ _ h, cell_of_row w k 8 _ _ _ h, cell_of_row w k 9 _ _ _ h, cell_of_row w k 10 _ _ _ h, cell_of_row w k 11 _ _ _ h, cell_of_row w k 12 _ _ _ h, cell_of_row w k 13 _ _ _ h, cell_of_row w k 14 _ _ _ h⟩
theorem rf15 {w : World} {k : Nat} {x0 x1 x2 x3 x4 x5 x6 x7 x8 x9 x10 x11 x12 x13 x14 : Value} {t : TypeId} (h : w.heap[k]? = some (.cells #[x0, x1, x2, x3, x4, x5, x6, x7, x8, x9, x10, x11, x12, x13, x14] t (0, 0))) :
 w.frozen? ⟨k, 0, none⟩ = false ∧ w.frozen? ⟨k, 1, none⟩ = false ∧ w.frozen? ⟨k, 2, none⟩ = false ∧ w.frozen? ⟨k, 3, none⟩ = false ∧ w.frozen? ⟨k, 4, none⟩ = false ∧ w.frozen? ⟨k, 5, none⟩ = false ∧ w.frozen? ⟨k, 6, none⟩ = false ∧ w.frozen? ⟨k, 7, none⟩ = false ∧ w.frozen? ⟨k, 8, none⟩ = false ∧ w.frozen? ⟨k, 9, none⟩ = false ∧ w.frozen? ⟨k, 10, none⟩ = false ∧ w.frozen? ⟨k, 11, none⟩ = false ∧ w.frozen? ⟨k, 12, none⟩ = false ∧ w.frozen? ⟨k, 13, none⟩ = false ∧ w.frozen? ⟨k, 14, none⟩ = false :=
 ⟨frozen_of_row w k 0 _ _ h, frozen_of_row w k 1 _ _ h, frozen_of_row w k 2 _ _ h, frozen_of_row w k 3 _ _ h, frozen_of_row w k 4 _ _ h, frozen_of_row w k 5 _ _ h, frozen_of_row w k 6 _ _ h, frozen_of_row w k 7 _ _ h, frozen_of_row w k 8 _ _ h, frozen_of_row w k 9 _ _ h, frozen_of_row w k 10 _ _ h, frozen_of_row w k 11 _ _ h, frozen_of_row w k 12 _ _ h, frozen_of_row w k 13 _ _ h, frozen_of_row w k 14 _ _ h⟩
theorem Sep.box15 {w : World} {b : Nat} {x0 x1 x2 x3 x4 x5 x6 x7 x8 x9 x10 x11 x12 x13 x14 : Value} {t : TypeId} {l : List Asrt} (h : Sep w (BxA b #[x0, x1, x2, x3, x4, x5, x6, x7, x8, x9, x10, x11, x12, x13, x14] t :: l)) (v0 v1 v2 v3 v4 v5 v6 v7 v8 v9 v10 v11 v12 v13 v14 : Value) : Sep (((((((((((((((w.setCell ⟨b, 0, none⟩ v0).setCell ⟨b, 1, none⟩ v1).setCell ⟨b, 2, none⟩ v2).setCell ⟨b, 3, none⟩ v3).setCell ⟨b, 4, none⟩ v4).setCell ⟨b, 5, none⟩ v5).setCell ⟨b, 6, none⟩ v6).setCell ⟨b, 7, none⟩ v7).setCell ⟨b, 8, none⟩ v8).setCell ⟨b, 9, none⟩ v9).setCell ⟨b, 10, none⟩ v10).setCell ⟨b, 11, none⟩ v11).setCell ⟨b, 12, none⟩ v12).setCell ⟨b, 13, none⟩ v13).setCell ⟨b, 14, none⟩ v14) (BxA b #[v0, v1, v2, v3, v4, v5, v6, v7, v8, v9, v10, v11, v12, v13, v14] t :: l) := by
 have h1 := (((((((((((((((h.setB 0 v0).setB 1 v1).setB 2 v2).setB 3 v3).setB 4 v4).setB 5 v5).setB 6 v6).setB 7 v7).setB 8 v8).setB 9 v9).setB 10 v10).setB 11 v11).setB 12 v12).setB 13 v13).setB 14 v14)
 simp only [List.setIfInBounds_toArray, List.set_cons_zero, List.set_cons_succ] at h1
 exact h1
section
variable {ops : Array Oper} {o : Oper} {a : Act} {Q : Exit → Act → World → Prop} {K : Act → World → Prop} {Ex : Prop} {w : World} {b : Nat} {T : List Int} {base x : Int}
theorem step_tkLen (hgd : o.guard = none) (m : Operand) (hop : o.op = Op.call { callee := Callee.builtin Builtin.len, args := #[m], argTypes := #[113] }) (hm : a.eval m = .map (some b)) (H : TkIs w b T base) (h : K (a.put o.dst (.int .i64 T.length)) w) :
 if Region.wanted o (yielded ops a.tmps) = true then Oper.wp Tryz.prog o a w K Q else Ex := by
 obtain ⟨D, hown, hs, hv⟩ := H
 rw [if_pos (by simp [Region.wanted, hgd])]
 unfold Oper.wp
 simp [execOp, hop, resolve, invoke, builtin, hm, hown.len Tryz.underlying113 o.type, Result.andThen]
 rw [hs]
 exact h
theorem step_tkPut (hgd : o.guard = none) (m y v : Operand) (hop : o.op = Op.mapUpdate 113 m y v) (hm : a.eval m = .map (some b)) (c : Int) (hvv : a.eval v = .int .i64 c) (hx : a.eval y = .int .i64 x) (h0 : 0 ≤ x) (h1 : x ≤ 1000000) (hc : c = base + (T.length : Int)) (H : TkIs w b T base) (hb : 0 ≤ base ∧ base ≤ 1000000) (hl : T.length ≤ 1000000) (hf : x ∉ T)
 (hK : ∀ w', TkIs w' b (T ++ [x]) base → w.grownBy w' (some b) → K (a.put o.dst undef) w') :
 if Region.wanted o (yielded ops a.tmps) = true then Oper.wp Tryz.prog o a w K Q else Ex := by
 subst hc
 rw [if_pos (by simp [Region.wanted, hgd])]
 obtain ⟨D, hown, hs, hv⟩ := H
 obtain ⟨v1, v2⟩ := hv x
 obtain ⟨w', hrun, h1', h2'⟩ := hown.store tkLaw Tryz.underlying113 (by unfold maxLen; omega) (tkKey h0 h1) (plainElem_int Tryz.underlying3 (WalkArith.wf_i64 (n := base + (T.length : Int)) (by omega)))
 unfold Oper.wp
 simp [execOp, hop, hm, hx, hvv, hrun, Result.andThen]
 refine hK w' ?_ h2'.grown
 have hno : has D (.int .i64 x) = false := by
  rw [v1, decide_eq_false_iff_not]
  exact hf
 have hsz : size (D.put (.int .i64 x) (.lit (.int .i64 (base + (T.length : Int))))) = (T ++ [x]).length := by
  rw [size_put (hown.tidy tkLaw), hno, hs, List.length_append]
  rfl
 refine ⟨_, hsz ▸ tk_tight h1', hsz, fun k => ?_⟩
 obtain ⟨u1, u2⟩ := hv k
 rw [dstF_push hf]
 by_cases he : k = x
 ·subst he
  rw [has_put_same hown.isMap (tkLit _) _, atKey_put_same hown.isMap (tkLit _) _ _, if_pos rfl]
  exact ⟨(decide_eq_true (by simp)).symm, fun _ => rfl⟩
 ·rw [has_put_other (tkNe he) _, atKey_put_other (tkNe he) _ _, if_neg he, u1]
  have e : k ∈ T ++ [x] ↔ k ∈ T := by simp [he]
  exact ⟨by simp only [e], fun h => u2 (e.1 h)⟩
end
def keptI (E : List Int) (k : Nat) : List Int := (keptN E k).map fun i : Nat => (i : Int)
theorem keptI_yes {E : List Int} {k : Nat} (h : (k : Int) ∈ E) : keptI E (k + 1) = keptI E k := by
 unfold keptI; rw [keptN_succ, if_pos h]
theorem keptI_no {E : List Int} {k : Nat} (h : (k : Int) ∉ E) : keptI E (k + 1) = keptI E k ++ [(k : Int)] := by
 unfold keptI; rw [keptN_succ, if_neg h, List.map_append]; rfl
theorem keptI_len (E : List Int) (k : Nat) : (keptI E k).length = (keptN E k).length := by unfold keptI; rw [List.length_map]
theorem rowsE_drop {ys : List XE} {k : Nat} (hk : k < ys.length) : rowsE (ys.drop k) = OI (ys.getD k xe0).iv (ys.getD k xe0).ed.i :: OI (ys.getD k xe0).ov (ys.getD k xe0).ed.o :: rowsE (ys.drop (k + 1)) := by
 rw [List.drop_eq_getElem_cons hk, rowsE_cons, List.getD_eq_getElem?_getD, List.getElem?_eq_getElem hk]
 rfl
theorem eds_getD {ys : List XE} {es : List Ed} (h : eds ys = es) {k : Nat} (hk : k < ys.length) : (ys.getD k xe0).ed = es.getD k e0 := by
 subst h
 unfold eds
 rw [List.getD_eq_getElem?_getD, List.getD_eq_getElem?_getD, List.getElem?_map, List.getElem?_eq_getElem hk]
 rfl
def OpenR (g Q p : Gr) (W E : List Int) (B : Nat) (w : World) (e : Ending) (w' : World) : Prop :=
 ∃ (u0 : Value) (xs : List XE) (u1 u2 : Value) (pn : Int) (a1 a2 a3 b1 b2 b3 : Option Addr) (l1 c1 l2 c2 l3 c3 m1 d1 m2 d2 m3 d3 : Nat) (ys : List XE) (f t d : Value), e = .returned (.agg #[.int .i64 ((B : Int) + ((thru p W).length : Int)), u0, u1, u2, .int .i64 pn, .slice a1 l1 c1, .slice a2 l2 c2, .slice a3 l3 c3, .int .i64 Q.n, .slice b1 m1 d1, .slice b2 m2 d2, .slice b3 m3 d3, f, t, d]) ∧ (eds xs = cutEs g E (thru p W) (B : Int) g.es.length ∧ eds ys = Q.es) ∧
  Sep w' [OE u0 xs, OI u1 g.i, OI u2 (g.o.map (dstF (thru p W) (B : Int))), OX3 (.slice b1 m1 d1) ys (.slice b2 m2 d2) Q.i (.slice b3 m3 d3) Q.o, OI f (insL p W), OI t (outsL p W (B : Int)), OI d (keptI E g.es.length), KeepA w]
end Go.Proofs.YtjagjhchnpmngaaGreat

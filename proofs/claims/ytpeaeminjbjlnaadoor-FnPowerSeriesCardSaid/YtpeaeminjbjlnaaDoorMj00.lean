/-
  A row with zeros behind it, and two of them compared. Conditions: the rows have at most 48 elements.
-/
import Derived.Test.YtpeaeminjbjlnaaDoorMk08
import Derived.Laws.CopyOwn
import Derived.Laws.Rows
import Derived.Laws.Tables
import Derived.Laws.StructEq
import Derived.Great.Walk
import Derived.Great.BuildSlice
import Derived.ChangeKeysEq
import Derived.Test.YtpeaeminjbjlnaaDoorMk11
import Derived.Deep.RegionHeld3
namespace Go.Proofs.YtpeaeminjbjlnaaDoor
open Go.RowKit
set_option linter.unusedVariables false

theorem info_pad : (Tryd.prog.info? 243).map (·.size) = some 48 := by kernel_rfl
theorem info_int1 : (Tryd.prog.info? 3).map (·.size) = some 1 := by kernel_rfl
theorem under_pad : Tryd.prog.underlying 243 = some (.array 48 3) := by kernel_rfl
/-- a row with zeros behind it, 48 cells in all -/
def padZ (zs : List Int) : List Value := (zs ++ List.replicate (48 - zs.length) 0).map (Value.int .i64)
def padC (zs : List Int) : Array Value := (padZ zs).toArray
theorem padZ_len {zs : List Int} (h : zs.length ≤ 48) : (padZ zs).length = 48 := by simp [padZ]; omega
theorem padC_size {zs : List Int} (h : zs.length ≤ 48) : (padC zs).size = 48 := by simp [padC, padZ_len h]
theorem padC_one (zs : List Int) : (padC zs).all (·.oneCell') = true := by
  rw [Array.all_eq_true_iff_forall_mem]
  intro v hv
  simp only [padC, padZ, List.mem_toArray, List.mem_map] at hv
  obtain ⟨z, _, rfl⟩ := hv
  rfl
theorem pad_alloc (w : World) : (Instr.alloc 243 true (.tuple #[])).run Tryd.prog w = .ok (.pointer (some ⟨w.heap.size, 0, none⟩)) (w.alloc (.cells (padC []) 243)) := by kernel_rfl
theorem pad_built : Tryd.prog.built 243 [] = some (padC []) := by kernel_rfl
theorem pad_splice {zs : List Int} (h : zs.length ≤ 48) : splice (padZ []) 0 (zs.map (Value.int .i64)) = padZ zs := by
  unfold splice padZ
  have e : (zs.map (Value.int .i64)).length = zs.length := List.length_map ..
  rw [List.take_zero, List.nil_append, List.map_append, e, List.map_nil, List.nil_append, List.length_nil, Nat.zero_add, Nat.sub_zero, ← List.map_drop, List.drop_replicate, List.map_append]
set_option maxRecDepth 100000 in
theorem pad_any (v : Value) (zs : List Int) (w : World) (hv : IntsV w v zs) (hl : zs.length ≤ 48) :
    Calls Tryd.prog 296 #[v] w fun e w' => e = .returned (.agg (padC zs)) ∧ w.grownBy w' none := by
  obtain ⟨a, cap, rfl, hx⟩ := hv
  have HX := Lib.hid hx
  have s0 : (padC []).size = 48 := padC_size (by simp)
  have S0 := Lib.hid s0
  have SL := Lib.hid (padC_size hl)
  clear s0
  clear hx
  have h1 := alloc_heap_new w (.cells (padC []) 243)
  have hs1 : (w.alloc (.cells (padC []) 243)).heap.size = w.heap.size + 1 := by simp
  have h2 := alloc_heap_new (w.alloc (.cells (padC []) 243)) (.cells (padC []) 243)
  have h3 := (alloc_heap_old (w.alloc (.cells (padC []) 243)) (.cells (padC []) 243) w.heap.size (by omega)).trans h1
  rw [hs1] at h2
  have HS1 := Lib.hid hs1; have H2 := Lib.hid h2; have H3 := Lib.hid h3
  have PA := Lib.hid pad_alloc; have PB := Lib.hid pad_built
  generalize hP : padC [] = P0 at *
  have HP := Lib.hid hP
  clear hP h1 hs1 h2 h3
  generalize hPz : padC zs = Pz at *
  have HPZ := Lib.hid hPz
  clear hPz
  go_enter Tryd.func296, Tryd.ntmps296
  go_wp2_with (first
    | (with_reducible refine Great.wpList_allocTo rfl (some 2) rfl (.pointer (some ⟨w.heap.size, 0, none⟩)) (.cells P0 243) ?_ ?_
       · simp only [execOp, Sem.run_bind, PA.out w, Result.andThen_ok, Sem.run_pure])
    | (with_reducible refine Great.wpList_allocTo rfl (some 3) rfl (.pointer (some ⟨w.heap.size + 1, 0, none⟩)) (.cells P0 243) ?_ ?_
       · simp only [execOp, Sem.run_bind, PA.out _, Result.andThen_ok, Sem.run_pure, HS1.out])
    | (with_reducible refine wpList_buildTo rfl 243 #[] rfl (some 4) rfl P0 ?_ ?_
       · go_loud (simpa using PB.out))
    | (with_reducible refine wpList_store_rowTo rfl 243 (.tmp 3) (.tmp 4) rfl rfl (w.heap.size + 1) P0 ?_ ?_ 243 P0 H2.out ?_ rfl ?_ ?_
       · go_loud (rfl)
       · go_loud (rfl)
       · rw [info_pad, S0.out]
       · rw [← HP.out]; exact padC_one []
       have q1 := setRow_heap _ (w.heap.size + 1) P0 P0 243 (0, 0) H2.out
       have q2 := (setRow_other ((w.alloc (.cells P0 243)).alloc (.cells P0 243)) (w.heap.size + 1) w.heap.size P0 (by omega)).trans H3.out
       have q3 : Below w.heap.size w (((w.alloc (.cells P0 243)).alloc (.cells P0 243)).setRow (w.heap.size + 1) P0) := below_setRow (((Below.refl _ w).alloc (Nat.le_refl _) _).alloc (by simp) _) (by omega) _
       generalize ((w.alloc (.cells P0 243)).alloc (.cells P0 243)).setRow (w.heap.size + 1) P0 = w4 at *
       have Q1 := Lib.hid q1; have Q2 := Lib.hid q2; have Q3 := Lib.hid q3
       clear q1 q2 q3)
    | (with_reducible refine wpList_copy_splice rfl (.tmp 5) (.tmp 6) 24 24 rfl 3 Tryd.underlying24 info_int1 (some ⟨w.heap.size + 1, 0, none⟩) a 48 48 zs.length cap ?_ ?_ (w.heap.size + 1) 0 (padZ []) 243 ?_ (zs.map (Value.int .i64)) ?_ ?_ ?_ ?_ (w.heap.size + 1) w4 (Below.refl _ _) (Nat.le_refl _) ?_
       · go_loud (rfl)
       · go_loud (rfl)
       · go_loud (rw [Q1.out, ← HP.out]; rfl)
       · rw [List.length_map]; exact (Nat.min_eq_left hl).symm
       · intro h0
         rw [List.length_map] at h0
         obtain ⟨d, hd, hsp, hdb, hc⟩ := HX.out (by intro h; rw [h] at h0; simp at h0)
         refine ⟨rfl, d, hd, fun j x hj => ?_⟩
         obtain ⟨db, dof, _⟩ := d
         simp only at hsp
         subst hsp
         have hj' : j < zs.length := by
           rcases Nat.lt_or_ge j zs.length with h | h
           · exact h
           · rw [List.getElem?_eq_none (by simpa using h)] at hj; cases hj
         have hcj := (World.cell?_of_block (w := w) (a := ⟨db, dof + j, none⟩) (Q3.out.block db hdb)).trans (hc j hj')
         simp [hj'] at hj
         subst hj
         unfold Addr.add
         split
         · next h0 => subst h0; simpa using hcj
         · exact hcj
       · rw [List.length_map, padZ_len (by simp)]; omega
       · intro x hx
         obtain ⟨z, _, rfl⟩ := List.mem_map.1 hx
         rfl
       intro w5 H5 hb5
       have q5 : w5.heap[w.heap.size + 1]? = some (.cells Pz 243 (0, 0)) := by rw [H5.out, pad_splice hl, ← HPZ.out]; rfl
       have q6 := (hb5.block w.heap.size (by omega)).trans Q2.out
       have Q5 := Lib.hid q5; have Q6 := Lib.hid q6; have Q7 := Lib.hid (Q3.out.trans (hb5.mono (by omega)))
       clear q5 q6 hb5 H5)
    | (with_reducible refine wpList_load_row rfl 243 (.tmp 3) rfl (w.heap.size + 1) ?_ 243 Pz (0, 0) _ Q5.out under_pad rfl ?_ ?_
       · go_loud (rfl)
       · rw [info_pad, SL.out])
    | (with_reducible refine wpList_store_rowTo rfl 243 (.tmp 2) (.tmp 8) rfl rfl w.heap.size Pz ?_ ?_ 243 P0 Q6.out ?_ ?_ ?_ ?_
       · go_loud (rfl)
       · go_loud (rfl)
       · rw [info_pad, SL.out]
       · rw [S0.out, SL.out]
       · rw [← HPZ.out]; exact padC_one zs))
  refine bodyPost_ret_by (v := .agg Pz) ?_ rfl ?_
  · exact results_cell_row rfl _ _ w.heap.size 243 Pz (0, 0) _ rfl (setRow_heap _ w.heap.size P0 Pz 243 (0, 0) Q6.out) under_pad rfl (by rw [info_pad, SL.out])
  · exact ⟨rfl, grown_of_below (below_setRow Q7.out (Nat.le_refl _) _)⟩

theorem cells_int1 : Tryd.prog.cellsOf 3 = 1 := by kernel_rfl
theorem plain_int : Tryd.prog.plainKey 3 = true := by kernel_rfl
theorem pad_guard : Tryd.prog.eqGuardType Tryd.prog.depth 243 = false := by kernel_rfl
theorem padC_at {zs : List Int} (h : zs.length ≤ 48) {i : Nat} (hi : i < 48) : (padC zs)[i]? = some (.int .i64 (zs.getD i 0)) := by
  unfold padC padZ
  rw [List.getElem?_toArray, List.getElem?_map, List.getElem?_append]
  split
  · next h1 => rw [List.getElem?_eq_getElem h1, getD_lt h1]; rfl
  · next h1 =>
    rw [List.getElem?_replicate, if_pos (by omega), List.getD_eq_getElem?_getD, List.getElem?_eq_none (by omega)]
    rfl
theorem pad_items {x y : List Int} (hx : x.length ≤ 48) (hy : y.length ≤ 48) (w : World) : ∀ is : List Nat, (∀ i ∈ is, i < 48) →
    (Op.eqItems 9999 3 1 (padC x) (padC y) is).run Tryd.prog w = .ok (is.all fun i => x.getD i 0 == y.getD i 0) w
  | [], _ => rfl
  | i :: is, h => by
    have hi := h i (by simp)
    have ih := pad_items hx hy w is fun j hj => h j (by simp [hj])
    have e1 := run_part_plain (P := Tryd.prog) w plain_int (off := i * 1) (xs := padC x) (by rw [Nat.mul_one]; exact padC_at hx hi)
    have e2 := run_part_plain (P := Tryd.prog) w plain_int (off := i * 1) (xs := padC y) (by rw [Nat.mul_one]; exact padC_at hy hi)
    have e3 := run_equalIn_int (P := Tryd.prog) w 9998 3 .i64 .i64 (x.getD i 0) (y.getD i 0) Tryd.underlying3
    simp only [Op.eqItems, Sem.run_bind, e1, e2, e3, Result.andThen_ok, List.all_cons]
    cases hb : x.getD i 0 == y.getD i 0
    · simp
    · simp [ih]
theorem pad_eq {x y : List Int} (hx : x.length ≤ 48) (hl : x.length = y.length) (w : World) : (Op.equalIn 10000 243 (.agg (padC x)) (.agg (padC y))).run Tryd.prog w = .ok (x == y) w := by
  obtain ⟨i0, hi, hz0, hz1, hz2⟩ := info_parts info_int
  rw [run_equalIn_array w 9999 (padC x) (padC y) under_pad hi, cells_int1, pad_items hx (by omega) w _ (fun i hi => List.mem_range.1 hi)]
  refine congrArg (fun b => Result.ok b w) ?_
  generalize hr : List.range 48 = r
  rw [Bool.eq_iff_iff, List.all_eq_true, beq_iff_eq]
  constructor
  · intro h
    refine list_ext_getD hl fun j hj => ?_
    have := h j (by rw [← hr]; exact List.mem_range.2 (by omega))
    rwa [beq_iff_eq] at this
  · rintro rfl i _
    exact beq_self_eq_true _
end Go.Proofs.YtpeaeminjbjlnaaDoor

/-
  Coordinates found by elimination, and separators. Plain mathematics. Conditions: the number of elements is a field of the program's kind; the list of rows is reduced.
-/
namespace Go.Proofs.YtpeaeminjbjlnaaDoor
open La
set_option linter.unusedVariables false

def restTo (p : Int) (m : List (List Int)) (v : List Int) : Nat → List Int
  | 0 => v
  | k + 1 => addT p (restTo p m v k) (-((restTo p m v k).getD (leadL (m.getD k [])) 0)) (m.getD k [])
section coord
variable {p : Nat} [NeZero p]
theorem rest_ok {n : Nat} {m : List (List Int)} {v : List Int} (hm : RowsOk p n m) (hv : VecOk p n v) : ∀ k, k ≤ m.length → VecOk p n (restTo p m v k) := by
  intro k
  induction k with
  | zero => intro _; exact hv
  | succ k ih =>
    intro hk
    exact addT_ok _ (ih (by omega)).1 (hm _ (getD_mem (show k < m.length by omega))).1
theorem vec_rest {n : Nat} {m : List (List Int)} {v : List Int} {piv : Nat → Nat} (hf : fldN p = true) (hm : RowsOk p n m) (h : RR m.length n (mx p m) piv) (hv : VecOk p n v) :
    ∀ k, k ≤ m.length → (∀ j, vec p (restTo p m v k) j = vec p v j - S k (fun i => vec p v (piv i) * mx p m i j)) ∧ ∀ i, i < k → (restTo p m v i).getD (leadL (m.getD i [])) 0 = v.getD (leadL (m.getD i [])) 0 := by
  intro k
  induction k with
  | zero => intro _; exact ⟨fun j => by simp only [restTo, S]; grind, fun i hi => by omega⟩
  | succ k ih =>
    intro hk
    obtain ⟨h1, h2⟩ := ih (by omega)
    have hl := lead_piv hf hm h (show k < m.length by omega)
    have hpl := h.lt k (by omega)
    have ok := rest_ok hm hv k (by omega)
    have e : (restTo p m v k).getD (leadL (m.getD k [])) 0 = v.getD (leadL (m.getD k [])) 0 := by
      rw [hl]
      have b1 := ok.2 _ (List.getElem_mem (show piv k < (restTo p m v k).length by rw [ok.1]; exact hpl))
      have b2 := hv.2 _ (List.getElem_mem (show piv k < v.length by rw [hv.1]; exact hpl))
      rw [← getD_lt (by rw [ok.1]; exact hpl)] at b1
      rw [← getD_lt (by rw [hv.1]; exact hpl)] at b2
      refine toF_inj b1.1 b1.2 b2.1 b2.2 ?_
      have h3 := h1 (piv k)
      rw [S_zero' fun i hi => by rw [h.col k i (by omega) (by omega) (by omega), fm0]] at h3
      have h4 : vec p (restTo p m v k) (piv k) = vec p v (piv k) := by rw [h3]; grind
      exact h4
    refine ⟨fun j => ?_, fun i hi => ?_⟩
    · simp only [restTo]
      rw [vec_addT _ (by rw [ok.1, (hm _ (getD_mem (show k < m.length by omega))).1]), h1 j, e, hl, toF_neg]
      simp only [S]
      show _ + -(vec p v (piv k)) * mx p m k j = _
      grind
    · rcases Nat.lt_or_ge i k with hi' | hi'
      · exact h2 i hi'
      · obtain rfl : i = k := by omega
        exact e
/-- What the elimination finds, and whether nothing is left. -/
theorem rest_has {n : Nat} {m : List (List Int)} {v : List Int} (hf : fldN p = true) (hr : IsRed p n m) (hv : VecOk p n v) : zeroB (restTo p m v m.length) = hasB p n m v := by
  have hi := hasB_iff hf hr hv
  obtain ⟨hm, piv, h⟩ := hr
  obtain ⟨h1, _⟩ := vec_rest hf hm h hv m.length (Nat.le_refl _)
  have ok := rest_ok hm hv m.length (Nat.le_refl _)
  have key : zeroB (restTo p m v m.length) = true ↔ Spn p n m (vec p v) := by
    constructor
    · intro hz
      refine ⟨fun i => vec p v (piv i), fun j hj => ?_⟩
      have h2 := h1 j
      have hz' : (restTo p m v m.length).getD j 0 = 0 := by
        unfold zeroB at hz
        rw [beq_iff_eq] at hz
        unfold leadL at hz
        rw [List.findIdx_eq_length] at hz
        rw [getD_lt (by rw [ok.1]; exact hj)]
        have := hz _ (List.getElem_mem (show j < (restTo p m v m.length).length by rw [ok.1]; exact hj))
        rwa [bne_eq_false_iff_eq] at this
      have : vec p (restTo p m v m.length) j = 0 := by unfold vec; rw [hz', toF_zero]
      rw [this] at h2
      unfold comb
      grind
    · intro hs
      have h2 := h.coords hs
      unfold zeroB
      rw [beq_iff_eq]
      refine leadL_end fun j hj => ?_
      rw [ok.1] at hj
      have h3 := h1 j
      have h4 : vec p (restTo p m v m.length) j = 0 := by
        rw [h3, h2 j hj]
        unfold comb
        grind
      have b1 := ok.2 _ (List.getElem_mem (show j < (restTo p m v m.length).length by rw [ok.1]; exact hj))
      rw [vec_at (by rw [ok.1]; exact hj)] at h4
      exact Classical.byContradiction fun hne => toF_ne b1.1 b1.2 hne h4
  rw [Bool.eq_iff_iff, key, hi]
theorem rest_coord {n : Nat} {m : List (List Int)} {v : List Int} (hf : fldN p = true) (hr : IsRed p n m) (hv : VecOk p n v) {i : Nat} (hi : i < m.length) : (restTo p m v i).getD (leadL (m.getD i [])) 0 = v.getD (leadL (m.getD i [])) 0 := by
  obtain ⟨hm, piv, h⟩ := hr
  exact (vec_rest hf hm h hv m.length (Nat.le_refl _)).2 i hi
theorem lead_lt {n : Nat} {m : List (List Int)} (hf : fldN p = true) (hr : IsRed p n m) {i : Nat} (hi : i < m.length) : leadL (m.getD i []) < n := by
  obtain ⟨hm, piv, h⟩ := hr
  rw [lead_piv hf hm h hi]
  exact h.lt i hi

/-! ### products -/
theorem toF_dotTo (x y : List Int) : ∀ k, toF p (dotTo x y k) = S k (fun j => vec p x j * vec p y j) := by
  intro k
  induction k with
  | zero => simp only [dotTo, S]; exact toF_zero
  | succ k ih =>
    simp only [dotTo, S]
    rw [toF_add, toF_mul, ih]
    rfl
def dotP (p : Int) (x y : List Int) : Int := dotTo x y x.length % p
theorem dotP_bd (x y : List Int) : 0 ≤ dotP p x y ∧ dotP p x y < p := ⟨Int.emod_nonneg _ (by have := pos_int p; omega), Int.emod_lt_of_pos _ (pos_int p)⟩
theorem toF_dotP (x y : List Int) : toF p (dotP p x y) = S x.length (fun j => vec p x j * vec p y j) := by
  unfold dotP
  rw [toF_emod, toF_dotTo]
theorem dotP_zero {x y : List Int} : dotP p x y = 0 ↔ S x.length (fun j => vec p x j * vec p y j) = 0 := by
  rw [← toF_dotP]
  have b := dotP_bd (p := p) x y
  constructor
  · intro h; rw [h, toF_zero]
  · intro h; exact Classical.byContradiction fun hne => toF_ne b.1 b.2 hne h

def sepOf (p : Int) (W : List (List Int)) (v : List Int) : Option (List Int) := (W.find? fun w => dotP p w v != 0).map fun w => scaleV p w (invI p (dotP p w v))
theorem sep_none {n : Nat} {m : List (List Int)} {v : List Int} (hf : fldN p = true) (hr : IsRed p n m) (hv : VecOk p n v) : sepOf p (orthL p m n) v = none ↔ hasB p n m v = true := by
  rw [hasB_iff hf hr hv, sep_exists hf hr]
  unfold sepOf
  rw [Option.map_eq_none_iff, List.find?_eq_none]
  have ho := (orth_red hf hr.1).1
  constructor
  · intro h w hw
    have h1 := h w hw
    simp only [bne_iff_ne, ne_eq, Decidable.not_not] at h1
    rw [dotP_zero, (ho w hw).1] at h1
    exact h1
  · intro h w hw
    have h1 := h w hw
    rw [← (ho w hw).1, ← dotP_zero] at h1
    rw [h1]
    simp
theorem sep_some {n : Nat} {m : List (List Int)} {v w : List Int} (hf : fldN p = true) (hr : IsRed p n m) (hv : VecOk p n v) (h : sepOf p (orthL p m n) v = some w) : VecOk p n w ∧ dotP p w v = 1 ∧ ∀ b ∈ m, dotP p w b = 0 := by
  unfold sepOf at h
  rw [Option.map_eq_some_iff] at h
  obtain ⟨u, hu, rfl⟩ := h
  have hne := List.find?_some hu
  have hmem := List.mem_of_find?_eq_some hu
  rw [bne_iff_ne] at hne
  have ho := (orth_red hf hr.1).1 u hmem
  have b := dotP_bd (p := p) u v
  have hinv := toF_inv hf (b := dotP p u v) (by omega) b.2
  have hok := scaleV_ok (p := p) (invI p (dotP p u v)) ho.1
  have hdot : ∀ y : List Int, toF p (dotP p (scaleV p u (invI p (dotP p u v))) y) = toF p (dotP p u y) * toF p (invI p (dotP p u v)) := by
    intro y
    rw [toF_dotP, toF_dotP, hok.1, ho.1, ← S_mulr]
    exact S_congr fun j _ => by rw [vec_scaleV]; grind
  refine ⟨hok, ?_, fun b hb => ?_⟩
  · have b2 := dotP_bd (p := p) (scaleV p u (invI p (dotP p u v))) v
    have := lt_p hf
    refine toF_inj b2.1 b2.2 (by omega) (by omega) ?_
    rw [hdot, hinv, toF_one]
  · have b2 := dotP_bd (p := p) (scaleV p u (invI p (dotP p u v))) b
    have h1 : Spn p n (orthL p m n) (vec p u) := by
      obtain ⟨i, hi, rfl⟩ := List.getElem_of_mem hmem
      have := In.row (n := n) (A := mx p (orthL p m n)) hi
      rwa [mx_at hi] at this
    rw [orth_span hf hr.1] at h1
    obtain ⟨i, hi, rfl⟩ := List.getElem_of_mem hb
    have h2 := h1 i hi
    rw [mx_at hi, ← ho.1, ← dotP_zero] at h2
    refine Classical.byContradiction fun hne => toF_ne b2.1 b2.2 hne ?_
    rw [hdot, h2, toF_zero, f0m]
end coord

/-- the sum that is taken element by element -/
def colTo (p : Int) (k : List Int) (m : List (List Int)) (j : Nat) : Nat → Int
  | 0 => 0
  | i + 1 => (colTo p k m j i + k.getD i 0 * at2 m i j) % p
theorem col_comb {p : Int} {n : Nat} {k : List Int} {m : List (List Int)} (hm : ∀ row ∈ m, row.length = n) {j : Nat} (hj : j < n) : ∀ i, i ≤ m.length → (combTo p k m n i).length = n ∧ (combTo p k m n i).getD j 0 = colTo p k m j i := by
  intro i
  induction i with
  | zero => intro _; exact ⟨by simp [combTo], by simp only [combTo, colTo]; rw [getD_lt (by simpa using hj)]; simp⟩
  | succ i ih =>
    intro hi
    obtain ⟨h1, h2⟩ := ih (by omega)
    have hr := hm _ (getD_mem (show i < m.length by omega))
    refine ⟨by simp only [combTo, addT, List.length_zipWith]; omega, ?_⟩
    simp only [combTo, colTo]
    rw [addT_getD (by rw [h1, hr]) (by rw [h1]; exact hj), h2]
    rfl
end Go.Proofs.YtpeaeminjbjlnaaDoor

/-
  Reduced lists and spaces, checked; spans. Conditions: the sizes are small.
-/
namespace Go.Proofs.YtpeaeminjbjlnaaDoor
open Go.RowKit
set_option linter.unusedVariables false

def redB (p n : Int) (L : List (List Int)) : Bool := decide ((L.length : Int) ≤ n) && (rowsB p n L && (reducedL p n.toNat L == L))
theorem pad_cmp {x y : List Int} (hx : x.length ≤ 48) (hl : x.length = y.length) {b : Bool} (h : (x == y) = b) : ∀ w, (Op.equalIn 10000 243 (.agg (padC x)) (.agg (padC y))).run Tryd.prog w = .ok b w :=
  fun w => by rw [pad_eq hx hl w, h]

set_option maxRecDepth 100000 in
set_option maxHeartbeats 1000000 in
theorem isReduced_any (p : Nat) [NeZero p] (n : Nat) (v : Value) (L : List (List Int)) (w : World) (hf : fldN p = true) (hp2 : p ≤ 1000) (hv : MatV w v L) (hn : n ≤ 24) (hl : L.length ≤ 1000000) (hll : ∀ row ∈ L, row.length ≤ 1000000) :
    Calls Tryd.prog 267 #[.int .i64 p, v, .int .i64 n] w fun e w' => e = .returned (.bool (redB p n L)) ∧ w.grownBy w' none := by
  have HAV := Lib.hid (areVectors_any p n v L w hv hl hll)
  have hsh := hv.shape
  by_cases h1 : L.length ≤ n
  · cases h2 : rowsB p n L
    · have hfin : redB p n L = false := by unfold redB; rw [h2]; simp
      have HF := Lib.hid hfin
      rw [h2] at HAV
      obtain ⟨a, c, rfl⟩ := hsh
      clear hv hll hfin h2
      generalize L.length = l at *
      go_enter Tryd.func267, Tryd.ntmps267
      go_wp2_with (go_at_call 205; with_reducible refine HAV.out.mono ?_; rintro e w' ⟨rfl, rfl⟩)
      go_ret
      exact ⟨by rw [HF.out]; rfl, grownBy_refl _ _⟩
    · have hok := rowsB_ok.1 h2
      have hrk := rank_le hf hok
      have hrl := reducedL_len hf hok
      have hro := (reducedL_red hf hok).1
      have hfin : redB p n L = (reducedL p n L == L) := by unfold redB; rw [h2, decide_eq_true (by omega)]; simp
      have HF := Lib.hid hfin
      have HR := Lib.hid fun w' (hg : w.grownBy w' none) => reduced_any p v L n w' hf hp2 (hv.carry hg) hok (by omega) (by omega)
      have HV := Lib.hid fun w' (hg : w.grownBy w' none) => hv.carry hg
      rw [h2] at HAV
      have HOK := Lib.hid hok; have HRO := Lib.hid hro
      obtain ⟨a, c, rfl⟩ := hsh
      clear hv hll hfin h2 hok hro
      generalize hre : reducedL p n L = red at *
      generalize hlen : L.length = l at *
      have HL := Lib.hid hlen
      have hrr : red.length ≤ l := by omega
      clear hlen hre hrk hrl
      generalize hrlen : red.length = r at *
      have HRL := Lib.hid hrlen
      clear hrlen
      go_enter Tryd.func267, Tryd.ntmps267
      go_wp2_with (first
        | (go_at_call 205; with_reducible refine HAV.out.mono ?_; rintro e w' ⟨rfl, rfl⟩)
        | (go_at_call 126
           with_reducible refine (HR.out w (grownBy_refl _ _)).mono ?_
           rintro e w1 ⟨ra, rc, rfl, hm, hg⟩
           have HM := Lib.hid hm; have HG := Lib.hid hg
           clear hm hg))
      go_loopw [25] (fun i wr => ∃ k : Nat, k ≤ r ∧ i = .int .i64 k ∧ (∀ j, j < k → red.getD j [] = L.getD j []) ∧ w1.grownBy wr none) (fun i _ => r - (intOf i).toNat)
      case atStart => exact ⟨0, by omega, rfl, fun j h => absurd h (by omega), grownBy_refl _ _⟩
      case round =>
        obtain ⟨k, hk, rfl, ho, hg⟩ := hrel
        have HO := Lib.hid ho; have HGR := Lib.hid hg
        clear ho hg
        by_cases hlt : k < r
        · obtain ⟨d, ra2, rc2, rfl, hs, hd, hcell, hrow⟩ := (HM.out.carry HGR.out).row (show k < red.length by rw [HRL.out]; exact hlt)
          obtain ⟨d2, la2, lc2, rfl, hs2, hd2, hcell2, hrow2⟩ := (HV.out wr (HG.out.trans HGR.out)).row (show k < L.length by rw [HL.out]; omega)
          obtain ⟨db, dof, _⟩ := d
          obtain ⟨db2, dof2, _⟩ := d2
          simp only at hs hcell hs2 hcell2 hd hd2
          subst hs hs2
          have e1 := (HRO.out _ (List.getElem_mem (show k < red.length by rw [HRL.out]; exact hlt))).1
          have e2 := (HOK.out _ (List.getElem_mem (show k < L.length by rw [HL.out]; omega))).1
          have g1 : red.getD k [] = red[k]'(by rw [HRL.out]; exact hlt) := by rw [List.getD_eq_getElem?_getD, List.getElem?_eq_getElem]; rfl
          have g2 : L.getD k [] = L[k]'(by rw [HL.out]; omega) := by rw [List.getD_eq_getElem?_getD, List.getElem?_eq_getElem]; rfl
          rw [e1] at hcell hrow
          rw [e2] at hcell2 hrow2
          have HP1 := Lib.hid fun w' (h : wr.grownBy w' none) => pad_any _ _ w' (hrow.carry h) (by omega)
          have HP2 := Lib.hid fun w' (h : wr.grownBy w' none) => pad_any _ _ w' (hrow2.carry h) (by omega)
          have HC2 := Lib.hid fun w' (h : wr.grownBy w' none) => (World.cell?_of_block (w := wr) (a := ⟨db2, dof2 + k, none⟩) (h.block _ hd2 (by simp))).trans hcell2
          have G1 := Lib.hid g1; have G2 := Lib.hid g2
          generalize hx : red[k]'(by rw [HRL.out]; exact hlt) = x at *
          generalize hy : L[k]'(by rw [HL.out]; omega) = y at *
          clear hx hy g1 g2 hrow hrow2 hd hd2
          have k0 : (0 : Int) ≤ (k : Int) := by omega
          have k1 : (k : Int) < (l : Int) := by omega
          have k2 : (k : Int) ≤ (l : Int) := by omega
          have HRD := Lib.hid (show wr.grownBy wr.drew none from ⟨rfl, rfl, rfl, Nat.le_refl _, fun _ _ _ => rfl⟩)
          have HEX : (x == y) = false → (red == L) = false := fun h => by
            rw [beq_eq_false_iff_ne] at h ⊢
            intro h'
            subst h'
            exact h (G1.out.symm.trans G2.out)
          have HEX' := Lib.hid HEX
          clear HEX
          cases hxy : (x == y)
          · have hcmp := pad_cmp (show x.length ≤ 48 by omega) (by omega) hxy
            have HFIN := Lib.hid (HEX'.out hxy)
            have HC := Lib.hid hcmp
            clear hxy hcmp
            generalize padC x = PX at *
            generalize padC y = PY at *
            have hcmp := HC.out
            go_wp2_with fail
            go_region_held3 (fun w' => w'.cell? ⟨db2, dof2 + k, none⟩ = some (.slice la2 n lc2)) (first | with_reducible exact HC2.out _ HRD.out | with_reducible exact HC2.out _ HQ1.out | with_reducible exact HC2.out _ HQ2.out | with_reducible exact HC2.out _ HQ3.out | go_keep)
              (first
                | (go_at_call 296
                   first
                     | (with_reducible refine (HP1.out _ HRD.out).mono ?_
                        rintro e wq ⟨rfl, hgq⟩
                        have HQ1 := Lib.hid (HRD.out.trans hgq); clear hgq)
                     | (with_reducible refine (HP1.out _ HQ2.out).mono ?_
                        rintro e wq2 ⟨rfl, hgq⟩
                        have HQ3 := Lib.hid (HQ2.out.trans hgq); clear hgq)
                     | (with_reducible refine (HP2.out _ HRD.out).mono ?_
                        rintro e wq ⟨rfl, hgq⟩
                        have HQ2 := Lib.hid (HRD.out.trans hgq); clear hgq)
                     | (with_reducible refine (HP2.out _ HQ1.out).mono ?_
                        rintro e wq2 ⟨rfl, hgq⟩
                        have HQ3 := Lib.hid (HQ1.out.trans hgq); clear hgq)))
            all_goals
              go_wp2
              go_ret
              exact ⟨by rw [HF.out, HFIN.out]; rfl, HG.out.trans (HGR.out.trans HQ3.out)⟩
          · have hcmp := pad_cmp (show x.length ≤ 48 by omega) (by omega) hxy
            have HXY := Lib.hid (beq_iff_eq.1 hxy)
            have HC := Lib.hid hcmp
            clear hxy hcmp HEX'
            generalize padC x = PX at *
            generalize padC y = PY at *
            have hcmp := HC.out
            go_wp2_with fail
            go_region_held3 (fun w' => w'.cell? ⟨db2, dof2 + k, none⟩ = some (.slice la2 n lc2)) (first | with_reducible exact HC2.out _ HRD.out | with_reducible exact HC2.out _ HQ1.out | with_reducible exact HC2.out _ HQ2.out | with_reducible exact HC2.out _ HQ3.out | go_keep)
              (first
                | (go_at_call 296
                   first
                     | (with_reducible refine (HP1.out _ HRD.out).mono ?_
                        rintro e wq ⟨rfl, hgq⟩
                        have HQ1 := Lib.hid (HRD.out.trans hgq); clear hgq)
                     | (with_reducible refine (HP1.out _ HQ2.out).mono ?_
                        rintro e wq2 ⟨rfl, hgq⟩
                        have HQ3 := Lib.hid (HQ2.out.trans hgq); clear hgq)
                     | (with_reducible refine (HP2.out _ HRD.out).mono ?_
                        rintro e wq ⟨rfl, hgq⟩
                        have HQ2 := Lib.hid (HRD.out.trans hgq); clear hgq)
                     | (with_reducible refine (HP2.out _ HQ1.out).mono ?_
                        rintro e wq2 ⟨rfl, hgq⟩
                        have HQ3 := Lib.hid (HQ1.out.trans hgq); clear hgq)))
            all_goals
              go_wp2
              go_roundw
              case rel => exact ⟨k + 1, by omega, by go_num, fun j hj => by
                by_cases hjk : j = k
                · subst hjk; rw [G1.out, G2.out, HXY.out]
                · exact HO.out j (by omega), HGR.out.trans HQ3.out⟩
              case measure => simp [intOf]; omega
        · have HR2 := Lib.hid (HR.out wr (HG.out.trans HGR.out))
          have hkr : k = r := by omega
          subst hkr
          by_cases hrl : k = l
          · have hre : (red == L) = true := by
              rw [beq_iff_eq]
              refine List.ext_getElem (by rw [HRL.out, HL.out]; exact hrl) fun j h1 h2 => ?_
              have := HO.out j (by have := HRL.out; omega)
              rw [List.getD_eq_getElem?_getD, List.getElem?_eq_getElem h1, List.getD_eq_getElem?_getD, List.getElem?_eq_getElem h2] at this
              exact this
            have HRE := Lib.hid hre
            have hb : ((k : Int) == (l : Int)) = true := by rw [beq_iff_eq]; omega
            clear hre hrl
            go_wp2_with (go_at_call 126
                         with_reducible refine HR2.out.mono ?_
                         rintro e w2 ⟨ra2, rc2, rfl, hm, hg⟩
                         have HG2 := Lib.hid hg
                         clear hm hg)
            go_ret
            exact ⟨by rw [HF.out, HRE.out]; rfl, HG.out.trans (HGR.out.trans HG2.out)⟩
          · have hre : (red == L) = false := by
              rw [beq_eq_false_iff_ne]
              intro h
              apply hrl
              rw [← HRL.out, ← HL.out, h]
            have HRE := Lib.hid hre
            have hb : ((k : Int) == (l : Int)) = false := by rw [beq_eq_false_iff_ne]; omega
            clear hre hrl
            go_wp2_with (go_at_call 126
                         with_reducible refine HR2.out.mono ?_
                         rintro e w2 ⟨ra2, rc2, rfl, hm, hg⟩
                         have HG2 := Lib.hid hg
                         clear hm hg)
            go_ret
            exact ⟨by rw [HF.out, HRE.out]; rfl, HG.out.trans (HGR.out.trans HG2.out)⟩
  · have hfin : redB p n L = false := by unfold redB; rw [decide_eq_false (by omega)]; simp
    have HF := Lib.hid hfin
    have hgt : (n : Int) < L.length := by omega
    obtain ⟨a, c, rfl⟩ := hsh
    clear hv hll hfin h1
    generalize L.length = l at *
    go_enter Tryd.func267, Tryd.ntmps267
    go_wp2
    go_ret
    exact ⟨by rw [HF.out]; rfl, grownBy_refl _ _⟩

end Go.Proofs.YtpeaeminjbjlnaaDoor

/-
  Spaces checked and spanned. Conditions: the sizes are small.
-/
namespace Go.Proofs.YtpeaeminjbjlnaaDoor
open Go.RowKit
set_option linter.unusedVariables false

/-- what a box of two cells gives the walk -/
theorem bx {w : World} {k : Nat} {x y : Value} {t : TypeId} (h : w.heap[k]? = some (.cells #[x, y] t (0, 0))) :
    w.cell? ⟨k, 0, none⟩ = some x ∧ w.cell? ⟨k, 1, none⟩ = some y ∧ w.frozen? ⟨k, 0, none⟩ = false ∧ w.frozen? ⟨k, 1, none⟩ = false :=
  ⟨cell_blk h 0, cell_blk h 1, free_blk h 0, free_blk h 1⟩
theorem bx_on {w w' : World} {k : Nat} {o : Obj} (h : w.heap[k]? = some o) (hg : w.grownBy w' none) : w'.heap[k]? = some o := (hg.block k (lt_of_blk h) (by simp)).trans h
theorem Pre.only {B : Nat} {S : Nat → Prop} {w w' : World} {v : Value} {L : List (List Int)} (h : Pre B w v L) (ho : Only S w w') (hS : ∀ k, S k → k < B) : Pre B w' v L := by
  obtain ⟨a, m, c, c', vs, R, h1, h2, h3, h4⟩ := h
  exact ⟨a, m, c, c', vs, R, h1, h2.only ho fun k hk hk' => by have := (h2.lt hk).1; have := hS k hk'; omega, h3, h4⟩
theorem Pre.shape {B : Nat} {w : World} {v : Value} {L : List (List Int)} (h : Pre B w v L) : ∃ a c, v = .slice a L.length c := by
  obtain ⟨a, m, c, c', vs, R, h1, _⟩ := h
  exact ⟨a, c', h1⟩
/-- a result's box of two cells is written, nothing old is -/
theorem box_end {w w1 : World} (x y : Value) (hg : w.grownBy w1 none) (hs : w.heap.size < w1.heap.size) : w.grownBy ((w1.setCell ⟨w.heap.size, 0, none⟩ x).setCell ⟨w.heap.size, 1, none⟩ y) none :=
  grown_of_below ((Below.grown (Below.refl _ w) hg (Nat.le_refl _) (by simp)).trans ((one_set (w := w1) w.heap.size x y).below hg.size fun q hq => by omega))

def spaceB (p n : Int) (L : List (List Int)) : Bool := fldB p && (decide (0 ≤ n ∧ n ≤ 24) && redB p n L)
theorem spaceB_parts {p n : Int} {L : List (List Int)} (h : spaceB p n L = true) : fldB p = true ∧ 0 ≤ n ∧ n ≤ 24 ∧ (L.length : Int) ≤ n ∧ rowsB p n L = true ∧ reducedL p n.toNat L = L := by
  unfold spaceB redB at h
  simp only [Bool.and_eq_true, decide_eq_true_eq, beq_iff_eq] at h
  obtain ⟨h1, ⟨h2, h3⟩, h4, h5, h6⟩ := h
  exact ⟨h1, h2, h3, h4, h5, h6⟩
/-- what a space is, in numbers of the program's kind -/
theorem spaceB_nat {p n : Int} {L : List (List Int)} (h : spaceB p n L = true) : ∃ (q : Nat) (_ : NeZero q) (m : Nat), p = q ∧ n = m ∧ fldN q = true ∧ q ≤ 97 ∧ m ≤ 24 ∧ L.length ≤ m ∧ IsRed q m L ∧ RowsOk q m L := by
  obtain ⟨h1, h2, h3, h4, h5, h6⟩ := spaceB_parts h
  obtain ⟨b1, b2⟩ := fldB_bd h1
  obtain ⟨q, rfl⟩ := Int.eq_ofNat_of_zero_le (show 0 ≤ p by omega)
  obtain ⟨m, rfl⟩ := Int.eq_ofNat_of_zero_le h2
  haveI : NeZero q := ⟨by omega⟩
  rw [fldB_nat] at h1
  have hok := rowsB_ok.1 h5
  have hr := reducedL_red h1 hok
  rw [Int.toNat_natCast] at h6
  rw [h6] at hr
  exact ⟨q, inferInstance, m, rfl, rfl, h1, by omega, by omega, by omega, hr, hok⟩

set_option maxRecDepth 100000 in
theorem isSpace_any (p n : Int) (v : Value) (L : List (List Int)) (w : World) (ht : Tab w) (hv : MatV w v L) (hl : L.length ≤ 1000000) (hll : ∀ row ∈ L, row.length ≤ 1000000) :
    Calls Tryd.prog 171 #[.int .i64 p, mxV n v] w fun e w' => e = .returned (.bool (spaceB p n L)) ∧ w.grownBy w' none := by
  unfold mxV
  have hgr := grownBy_alloc w (.cells #[.int .i64 n, v] 74) none
  have HT := Lib.hid (isField_any p _ (ht.alloc (.cells #[.int .i64 n, v] 74)))
  have HGR := Lib.hid hgr
  have HV := Lib.hid (hv.carry hgr)
  have HW := Lib.hid fun w' => within_any n 0 24 w'
  clear hgr hv
  cases h1 : fldB p
  · have hfin : spaceB p n L = false := by unfold spaceB; rw [h1]; rfl
    have HF := Lib.hid hfin
    rw [h1] at HT
    clear h1 hfin
    go_enter Tryd.func171, Tryd.ntmps171
    go_wp2_with (go_at_call 204; with_reducible refine HT.out.mono ?_; rintro e w' ⟨rfl, rfl⟩)
    go_ret
    exact ⟨by rw [HF.out]; rfl, HGR.out⟩
  · cases h2 : decide (0 ≤ n ∧ n ≤ 24)
    · have hfin : spaceB p n L = false := by unfold spaceB; rw [h1, h2]; rfl
      have HF := Lib.hid hfin
      rw [h1] at HT
      rw [h2] at HW
      clear h1 hfin h2
      go_enter Tryd.func171, Tryd.ntmps171
      go_wp2_with (first
        | (go_at_call 204; with_reducible refine HT.out.mono ?_; rintro e w' ⟨rfl, rfl⟩)
        | (go_at_call 125; with_reducible refine (HW.out _).mono ?_; rintro e w' ⟨rfl, rfl⟩))
      go_ret
      exact ⟨by rw [HF.out]; rfl, HGR.out⟩
    · have hfin : spaceB p n L = redB p n L := by unfold spaceB; rw [h1, h2]; rfl
      have HF := Lib.hid hfin
      obtain ⟨b1, b2⟩ := fldB_bd h1
      have b3 := of_decide_eq_true h2
      have h1' := h1
      rw [h1] at HT
      rw [h2] at HW
      clear h1 hfin h2
      obtain ⟨q, rfl⟩ := Int.eq_ofNat_of_zero_le (show 0 ≤ p by omega)
      obtain ⟨m, rfl⟩ := Int.eq_ofNat_of_zero_le (show 0 ≤ n by omega)
      haveI : NeZero q := ⟨by omega⟩
      rw [fldB_nat] at h1'
      have HR := Lib.hid (isReduced_any q m v L _ h1' (by omega) HV.out (by omega) hl hll)
      clear h1' hll
      generalize redB q m L = rb at *
      go_enter Tryd.func171, Tryd.ntmps171
      go_wp2_with (first
        | (go_at_call 204; with_reducible refine HT.out.mono ?_; rintro e w' ⟨rfl, rfl⟩)
        | (go_at_call 125; with_reducible refine (HW.out _).mono ?_; rintro e w' ⟨rfl, rfl⟩)
        | (go_at_call 267
           with_reducible refine HR.out.mono ?_
           rintro e w2 ⟨rfl, hg⟩
           have HG := Lib.hid hg
           clear hg))
      go_ret
      exact ⟨by rw [HF.out]; rfl, HGR.out.trans HG.out⟩

set_option maxRecDepth 100000 in
theorem span_any (p : Nat) [NeZero p] (n : Nat) (v : Value) (L : List (List Int)) (w : World) (hf : fldN p = true) (hp2 : p ≤ 1000) (hv : MatV w v L) (hL : RowsOk p n L) (hm : L.length ≤ 1000) (hn : n ≤ 1000) :
    Calls Tryd.prog 166 #[.int .i64 p, .int .i64 n, v] w fun e w' => ∃ o, e = .returned (mxV n o) ∧ Pre w.heap.size w' o (reducedL p n L) ∧ w.grownBy w' none := by
  have hgr := grownBy_alloc w (.cells #[.int .i64 0, .slice none 0 0] 74) none
  have hs : (w.alloc (.cells #[.int .i64 0, .slice none 0 0] 74)).heap.size = w.heap.size + 1 := by simp
  have HR := Lib.hid (reduced_own p v L n _ hf hp2 (hv.carry hgr) hL hm hn)
  have HS := Lib.hid hs
  unfold mxV
  clear hv hL hgr hs
  generalize reducedL p n L = red at *
  go_enter Tryd.func166, Tryd.ntmps166
  go_wp2_with (
    go_at_call 126
    with_reducible refine HR.out.mono ?_
    rintro e w1 ⟨ra, rc, rfl, hp, hg⟩
    obtain ⟨hbl, hgw⟩ := box1 w _ _ hg
    have HP := Lib.hid hp; have HG := Lib.hid hgw
    have HZ := Lib.hid hg.size
    obtain ⟨c0, c1, f0, f1⟩ := bx hbl
    clear hp hg hbl hgw)
  refine bodyPost_ret_by (v := .agg #[.int .i64 n, .slice ra red.length rc]) ?_ rfl ?_
  · simp [results, go_sem, *]
  · have hp := HP.out
    have hz := HZ.out
    rw [HS.out] at hp hz
    exact ⟨_, rfl, (hp.only (one_set (w := w1) w.heap.size (.int .i64 n) (.slice ra red.length rc)) (fun k hk => by have : k = w.heap.size := hk; omega)).base (by omega), box_end _ _ HG.out (by omega)⟩

def spanB (p n : Int) (L : List (List Int)) : Bool := fldB p && (decide (0 ≤ n ∧ n ≤ 24) && (decide (L.length ≤ 48) && rowsB p n L))
set_option maxRecDepth 100000 in
theorem spanOf_no (p n : Int) (v : Value) (L : List (List Int)) (w : World) (ht : Tab w) (hv : MatV w v L) (hl : L.length ≤ 1000000) (hll : ∀ row ∈ L, row.length ≤ 1000000) (hno : spanB p n L = false) :
    Calls Tryd.prog 79 #[.int .i64 p, .int .i64 n, v] w fun e w' => e = .returned (.tuple #[mxV 0 nilS, .bool false]) ∧ w.grownBy w' none := by
  have hgr := grownBy_alloc w (.cells #[.int .i64 0, .slice none 0 0] 74) none
  have HT := Lib.hid (isField_any p _ (ht.alloc (.cells #[.int .i64 0, .slice none 0 0] 74)))
  have HA := Lib.hid (areVectors_any p n v L _ (hv.carry hgr) hl hll)
  have HW := Lib.hid fun w' => within_any n 0 24 w'
  have HG := Lib.hid hgr
  unfold spanB at hno
  unfold mxV nilS
  obtain ⟨a, c, rfl⟩ := hv.shape
  clear hv hll hgr
  cases h1 : fldB p <;> cases h2 : decide (0 ≤ n ∧ n ≤ 24) <;> cases h4 : rowsB p n L <;> by_cases h3 : L.length ≤ 48
  all_goals
    rw [h1] at HT
    rw [h2] at HW
    rw [h4] at HA
    first
      | (exfalso; rw [h1, h2, h4, decide_eq_true h3] at hno; exact absurd hno (by decide))
      | (clear h1 h2 h4 hno
         generalize L.length = l at *
         try (have h3i : (48 : Int) < (l : Int) := by omega)
         go_enter Tryd.func79, Tryd.ntmps79
         go_wp2_with (first
           | (go_at_call 204; with_reducible refine HT.out.mono ?_; rintro e w' ⟨rfl, rfl⟩)
           | (go_at_call 125; with_reducible refine (HW.out _).mono ?_; rintro e w' ⟨rfl, rfl⟩)
           | (go_at_call 205; with_reducible refine HA.out.mono ?_; rintro e w' ⟨rfl, rfl⟩))
         refine bodyPost_ret_by (v := .tuple #[.agg #[.int .i64 0, .slice none 0 0], .bool false]) ?_ rfl ⟨rfl, HG.out⟩
         simp [results, go_sem, *])
set_option maxRecDepth 100000 in
theorem spanOf_yes (p n : Int) (v : Value) (L : List (List Int)) (w : World) (ht : Tab w) (hv : MatV w v L) (hb : spanB p n L = true) :
    Calls Tryd.prog 79 #[.int .i64 p, .int .i64 n, v] w fun e w' => ∃ o, e = .returned (.tuple #[mxV n o, .bool true]) ∧ Pre w.heap.size w' o (reducedL p n.toNat L) ∧ w.grownBy w' none := by
  unfold spanB at hb
  simp only [Bool.and_eq_true, decide_eq_true_eq] at hb
  obtain ⟨h1, ⟨h2, h2'⟩, h3, h4⟩ := hb
  obtain ⟨b1, b2⟩ := fldB_bd h1
  obtain ⟨q, rfl⟩ := Int.eq_ofNat_of_zero_le (show 0 ≤ p by omega)
  obtain ⟨m, rfl⟩ := Int.eq_ofNat_of_zero_le h2
  haveI : NeZero q := ⟨by omega⟩
  rw [Int.toNat_natCast]
  have hok := rowsB_ok.1 h4
  have hgr := grownBy_alloc w (.cells #[.int .i64 0, .slice none 0 0] 74) none
  have hs : (w.alloc (.cells #[.int .i64 0, .slice none 0 0] 74)).heap.size = w.heap.size + 1 := by simp
  have HT := isField_any q _ (ht.alloc (.cells #[.int .i64 0, .slice none 0 0] 74))
  have HA := areVectors_any q m v L _ (hv.carry hgr) (by omega) (fun row hrow => by rw [(hok row hrow).1]; omega)
  rw [h1] at HT
  rw [h4] at HA
  have HT := Lib.hid HT; have HA := Lib.hid HA
  have HW := within_any m 0 24
  rw [decide_eq_true (show (0 : Int) ≤ m ∧ (m : Int) ≤ 24 by omega)] at HW
  have HW := Lib.hid HW
  rw [fldB_nat] at h1
  have HR := Lib.hid (span_any q m v L _ h1 (by omega) (hv.carry hgr) hok (by omega) (by omega))
  have HS := Lib.hid hs
  unfold mxV at *
  obtain ⟨a, c, rfl⟩ := hv.shape
  clear hv hgr hs h4 hok h1 b1
  have hl3 : ¬ (48 : Int) < (L.length : Int) := by omega
  generalize reducedL q m L = red at *
  generalize L.length = l at *
  go_enter Tryd.func79, Tryd.ntmps79
  go_wp2_with (first
    | (go_at_call 204; with_reducible refine HT.out.mono ?_; rintro e w' ⟨rfl, rfl⟩)
    | (go_at_call 125; with_reducible refine (HW.out _).mono ?_; rintro e w' ⟨rfl, rfl⟩)
    | (go_at_call 205; with_reducible refine HA.out.mono ?_; rintro e w' ⟨rfl, rfl⟩)
    | (go_at_call 166
       with_reducible refine HR.out.mono ?_
       rintro e w1 ⟨o, rfl, hp, hg⟩
       obtain ⟨ra, rc, rfl⟩ := hp.shape
       obtain ⟨hbl, hgw⟩ := box1 w _ _ hg
       have HP := Lib.hid hp; have HG := Lib.hid hgw
       have HZ := Lib.hid hg.size
       obtain ⟨c0, c1, f0, f1⟩ := bx hbl
       clear hp hg hbl hgw))
  refine bodyPost_ret_by (v := .tuple #[.agg #[.int .i64 m, .slice ra red.length rc], .bool true]) ?_ rfl ?_
  · simp [results, go_sem, *]
  · have hp := HP.out
    have hz := HZ.out
    rw [HS.out] at hp hz
    exact ⟨_, rfl, (hp.only (one_set (w := w1) w.heap.size (.int .i64 m) (.slice ra red.length rc)) (fun k hk => by have : k = w.heap.size := hk; omega)).base (by omega), box_end _ _ HG.out (by omega)⟩

end Go.Proofs.YtpeaeminjbjlnaaDoor

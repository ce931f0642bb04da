/-
  Lists of rows of numbers in the laws: read, sized, copied, compared, marked. Conditions: lengths are small.
-/
import Derived.Test.YtghfifpicklonaaDoorBc07
import Derived.Test.YtghfifpicklonaaDoorBc08
namespace Go.Proofs.YtghfifpicklonaaDoor
open Go.RowKit
set_option linter.unusedVariables false
set_option maxRecDepth 100000

theorem Sep.blk {w : World} {A B r : List Asrt} (h : Sep w (A ++ (B ++ r))) : Sep w (B ++ (A ++ r)) :=
  Sep.perm (by rw [← List.append_assoc, ← List.append_assoc]; exact List.Perm.append_right r List.perm_append_comm) h
theorem Sep.blk3 {w : World} {X A B r : List Asrt} (h : Sep w (X ++ (A ++ (B ++ r)))) : Sep w (X ++ (B ++ (A ++ r))) :=
  Sep.perm (List.Perm.append_left X (by rw [← List.append_assoc, ← List.append_assoc]; exact List.Perm.append_right r List.perm_append_comm)) h
theorem Sep.tlN {w : World} {l : List Asrt} : ∀ (A : List Asrt), Sep w (A ++ l) → Sep w l
  | [], h => h
  | _ :: A, h => Sep.tlN A h.tl
theorem Sep.cutA {w : World} {X A r : List Asrt} (h : Sep w (X ++ (A ++ r))) : Sep w (X ++ r) := Sep.tlN A (Sep.blk (A := X) (B := A) h)
abbrev XR := RX
abbrev xr0 : XR := rx0
def rws (xs : List XR) : List (List Int) := xs.map RX.zs
/-- A list of rows that can be read. -/
def RdS (w : World) (v : Value) (L : List (List Int)) : Prop := ∃ xs : List XR, rws xs = L ∧ RdR rowE w v xs ∧ ∀ x ∈ xs, IntsV w x.v x.zs
def rowsS (xs : List XR) : List Asrt := xs.flatMap fun x => [OI x.v x.zs]
/-- A list of rows that is the call's own. -/
def OS (v : Value) (xs : List XR) : Asrt := Bag (OR rowE v xs :: rowsS xs)
theorem OS_own {v : Value} {xs : List XR} : ∀ k, (OS v xs).sees k → (OS v xs).foot k := by
  rintro k ⟨A, hA, hk⟩
  refine ⟨A, hA, ?_⟩
  rcases List.mem_cons.1 hA with rfl | hA
  · exact hk
  · obtain ⟨x, _, hx⟩ := List.mem_flatMap.1 hA
    simp only [List.mem_cons, List.not_mem_nil, or_false] at hx
    subst hx; exact hk
theorem OS.shape {w : World} {v : Value} {xs : List XR} (h : (OS v xs).holds w) : ∃ a c, v = .slice a xs.length c := OwnR.shape (show OwnR rowE 0 w v xs from (show Sep w (OR rowE v xs :: rowsS xs) from h).hd)
theorem OS.read {w : World} {v : Value} {xs : List XR} (h : (OS v xs).holds w) : RdS w v (rws xs) := by
  have ha := Sep.all (show Sep w (OR rowE v xs :: rowsS xs) from h)
  refine ⟨xs, rfl, OwnR.read (show OwnR rowE 0 w v xs from ha (OR rowE v xs) (by simp)), fun x hx => ?_⟩
  exact OwnInts.read (show OwnInts 0 w x.v x.zs from ha (OI x.v x.zs) (List.mem_cons_of_mem _ (List.mem_flatMap.2 ⟨x, hx, by simp⟩)))
theorem RdS.carry {w w' : World} {v : Value} {L : List (List Int)} (h : RdS w v L) (hg : w.grownBy w' none) : RdS w' v L := by
  obtain ⟨xs, h1, h2, h3⟩ := h
  exact ⟨xs, h1, h2.carry hg, fun x hx => (h3 x hx).carry hg⟩
theorem RdS.shape {w : World} {v : Value} {L : List (List Int)} (h : RdS w v L) : ∃ a c, v = .slice a L.length c := by
  obtain ⟨xs, h1, h2, _⟩ := h
  obtain ⟨a, c, rfl, _⟩ := h2
  exact ⟨a, c, by rw [← h1]; simp [rws]⟩
theorem rws_len (xs : List XR) : (rws xs).length = xs.length := by simp [rws]
theorem rws_at {xs : List XR} {i : Nat} : (rws xs).getD i [] = (xs.getD i xr0).zs := by
  unfold rws
  rw [List.getD_eq_getElem?_getD, List.getElem?_map, List.getD_eq_getElem?_getD]
  cases xs[i]? <;> rfl
theorem RdS.at {w : World} {a : Option Addr} {n c : Nat} {L : List (List Int)} (h : RdS w (.slice a n c) L) {i : Nat} (hi : i < L.length) :
    ∃ b o rv, a = some ⟨b, o, none⟩ ∧ b < w.heap.size ∧ w.cell? ⟨b, o + i, none⟩ = some rv ∧ IntsV w rv (L.getD i []) := by
  obtain ⟨xs, rfl, hr, hx⟩ := h
  have hil : i < xs.length := by simpa [rws] using hi
  obtain ⟨b, o, rfl, hb, hc⟩ := hr.at hil
  rw [rws_at, List.getD_eq_getElem?_getD, List.getElem?_eq_getElem hil]
  simp only [Option.getD_some]
  refine ⟨b, o, xs[i].v, rfl, hb, ?_, hx xs[i] (List.getElem_mem _)⟩
  have := hc 0 (by decide)
  rw [show o + i * rowE.sz + 0 = o + i from by show o + i * 1 + 0 = o + i; omega] at this
  exact this
/-! ### how much -/
def totS : List (List Int) → Nat
  | [] => 0
  | r :: L => r.length + totS L
theorem totS_app (A B : List (List Int)) : totS (A ++ B) = totS A + totS B := by
  induction A with
  | nil => simp [totS]
  | cons x A ih => simp only [List.cons_append, totS, ih]; omega
theorem totS_take (L : List (List Int)) (k : Nat) (hk : k < L.length) : totS (L.take (k + 1)) = totS (L.take k) + (L.getD k []).length := by
  rw [List.take_add_one, totS_app, List.getD_eq_getElem?_getD, List.getElem?_eq_getElem hk]
  simp [totS]
theorem totS_le (L : List (List Int)) (k : Nat) : totS (L.take k) ≤ totS L := by
  have h := totS_app (L.take k) (L.drop k)
  rw [List.take_append_drop] at h
  omega
theorem totS_mem {L : List (List Int)} {r : List Int} (h : r ∈ L) : r.length ≤ totS L := by
  induction L with
  | nil => cases h
  | cons y L ih =>
    simp only [totS]
    rcases List.mem_cons.1 h with rfl | h
    · omega
    · have := ih h; omega
def okS (L : List (List Int)) : Prop := L.length ≤ 9223372036854775807 ∧ ∀ r ∈ L, r.length ≤ 9223372036854775807
theorem gm {L : List (List Int)} {k : Nat} (h : k < L.length) : L.getD k [] ∈ L := by rw [List.getD_eq_getElem?_getD, List.getElem?_eq_getElem h]; exact List.getElem_mem _
set_option maxHeartbeats 2000000 in
theorem szIntSS_any (a : Option Addr) (n c : Nat) (L : List (List Int)) (left : Int) (w : World) (hv : RdS w (.slice a n c) L) (hn : n = L.length) (h0 : 0 ≤ left) (h1 : left ≤ 1048576) (hok : okS L) :
    Calls Tryd.prog 28 #[.slice a n c, .int .i64 left] w fun x w' => x = .returned (.int .i64 (lft left (L.length + totS L))) ∧ w.grownBy w' none := by
  have HV := Lib.hid hv; have HOK := Lib.hid hok.2
  have HN := Lib.hid hn
  have hl : n ≤ 9223372036854775807 := by rw [hn]; exact hok.1
  clear hv hok
  have hwr := wrap_id (x := left - n) (by omega) (by omega)
  by_cases h : left - n < 0
  · rw [show lft left (L.length + totS L) = -1 by unfold lft; rw [if_pos (by omega)]]
    clear hn
    go_enter Tryd.func28, Tryd.ntmps28
    go_wp2
    go_ret
    exact ⟨rfl, grownBy_refl _ _⟩
  · obtain ⟨m, hm⟩ : ∃ m, m = left - n := ⟨_, rfl⟩
    have hre : lft left (L.length + totS L) = lft m (totS L) := by
      unfold lft
      rw [← hn, show left - ((n + totS L : Nat) : Int) = m - (totS L : Int) by omega]
    rw [hre]
    have hm0 : 0 ≤ m := by omega
    have hm1 : m ≤ 1048576 := by omega
    have hwr2 : IntKind.i64.wrap (left - (n : Int)) = m := by rw [hm]; exact hwr
    have hm00 : ¬ m < 0 := by omega
    clear hre hn hwr h hm
    go_enter Tryd.func28, Tryd.ntmps28
    go_wp2_with fail
    go_loopw [1, 5] (fun lv i wr => ∃ k : Nat, k ≤ n ∧ i = .int .i64 k ∧ lv = .int .i64 (m - totS (L.take k)) ∧ 0 ≤ m - (totS (L.take k) : Int) ∧ w.grownBy wr none) (fun _ i _ => n - (intOf i).toNat)
    case atStart => exact ⟨0, by omega, rfl, by simp [totS], by simp [totS]; exact hm0, grownBy_refl _ _⟩
    case round =>
      obtain ⟨k, hk, rfl, rfl, hp, hg⟩ := hrel
      have HG := Lib.hid hg
      clear hg
      by_cases hlt : k < n
      · have hke : k < L.length := by rw [← HN.out]; exact hlt
        obtain ⟨b, o, rv, rfl, _, q0, hr⟩ := (HV.out.carry HG.out).at hke
        have HT := Lib.hid (totS_take L k hke)
        have HLE := Lib.hid (totS_le L (k + 1))
        obtain ⟨ra, rc, rfl⟩ := hr.shape
        have HC := Lib.hid (szIntS_any ra (L.getD k []).length rc (m - totS (L.take k)) wr hp (by omega) (HOK.out _ (gm hke)))
        generalize hln : (L.getD k []).length = e at *
        generalize totS (L.take k) = t at *
        generalize hS : totS (L.take (k + 1)) = s at *
        clear hr hke hln
        by_cases h2 : m - (s : Int) < 0
        · rw [if_pos (by have := HT.out; omega)] at HC
          have HF := Lib.hid (show lft m (totS L) = -1 from by unfold lft; rw [if_pos (by have := HLE.out; omega)])
          clear hp h2
          go_wp2_with (
            go_at_call 52
            with_reducible refine HC.out.mono ?_
            rintro x w2 ⟨rfl, rfl⟩)
          go_ret
          exact ⟨(by rw [HF.out]; try rfl), HG.out⟩
        · rw [if_neg (by have := HT.out; omega), show m - (t : Int) - (e : Int) = m - s by have := HT.out; omega] at HC
          have hp2 : ¬ (m - (s : Int)) < 0 := h2
          obtain ⟨r, hr⟩ : ∃ r, r = m - (s : Int) := ⟨_, rfl⟩
          rw [← hr] at HC hp2
          have HR := Lib.hid hr
          clear h2 hr hp
          go_wp2_with (
            go_at_call 52
            with_reducible refine HC.out.mono ?_
            rintro x w2 ⟨rfl, rfl⟩)
          go_roundw
          case rel => exact ⟨k + 1, by omega, by go_num, by rw [hS, HR.out], by rw [hS]; have := HR.out; omega, HG.out⟩
          case measure => simp [intOf]; omega
      · have hkn : k = n := by omega
        subst hkn
        have HF := Lib.hid (show m - (totS (L.take k) : Int) = lft m (totS L) from by
          rw [List.take_of_length_le (by rw [← HN.out]; exact Nat.le_refl _)] at hp ⊢
          unfold lft
          rw [if_neg (by omega)])
        clear hp
        go_wp2
        go_ret
        exact ⟨by rw [HF.out]; try rfl, HG.out⟩
/-! ### a copy -/
theorem rowsS_snoc (xs : List XR) (x : XR) : rowsS (xs ++ [x]) = rowsS xs ++ [OI x.v x.zs] := by
  unfold rowsS
  rw [List.flatMap_append]
  simp
theorem rowsS_cons (x : XR) (xs : List XR) : rowsS (x :: xs) = OI x.v x.zs :: rowsS xs := by simp [rowsS]
theorem zeroRow_cells : (Value.slice none 0 0).cells.toList = rowE.cs xr0 := rfl
theorem row_cell {w : World} {g n cap B : Nat} {xs : List XR} (h : OwnR rowE B w (.slice (some ⟨g, 0, none⟩) n cap) xs) (hn : n = xs.length) {i : Nat} (hi : i < xs.length) : w.cell? ⟨g, i, none⟩ = some (xs.getD i xr0).v := by
  have e : xs.getD i xr0 = xs[i] := by rw [List.getD_eq_getElem?_getD, List.getElem?_eq_getElem hi]; rfl
  rw [e]
  have hc := h.cell hn (i := i) (j := 0) hi (by decide)
  rw [show i * rowE.sz + 0 = i from by show i * 1 + 0 = i; omega] at hc
  exact hc
theorem Sep.setW {w : World} {g n cap : Nat} {xs : List XR} {l : List Asrt} (h : Sep w (OR rowE (.slice (some ⟨g, 0, none⟩) n cap) xs :: l)) (hn : n = xs.length) {i : Nat} (hi : i < xs.length) (y : XR) :
    Sep (w.setCell ⟨g, i, none⟩ y.v) (OR rowE (.slice (some ⟨g, 0, none⟩) n cap) (xs.set i y) :: l) := by
  have h1 := h.setR (E := rowE) hn (i := i) (j := 0) (y := y) (u := y.v) hi (by decide) rfl
  rw [show i * rowE.sz + 0 = i from by show i * 1 + 0 = i; omega] at h1
  exact h1
theorem Sep.bagOne {w : World} {X A : Asrt} {L r : List Asrt} (h : Sep w (X :: A :: Bag L :: r)) : Sep w (X :: Bag (L ++ [A]) :: r) := by
  have h1 := Sep.unbag h.s3
  have h2 : Sep w ((L ++ [A]) ++ (X :: r)) := Sep.perm (by rw [List.append_assoc]; exact List.Perm.append_left L (List.Perm.swap A X r)) h1
  exact (Sep.bag h2).s2
theorem fillR_set {xs : List XR} {n k : Nat} {x : XR} (hl : xs.length = k) (hk : k < n) : (xs ++ List.replicate (n - k) xr0).set k x = (xs ++ [x]) ++ List.replicate (n - (k + 1)) xr0 := by
  rw [List.set_append_right _ _ (by omega), hl, Nat.sub_self, show n - k = (n - (k + 1)) + 1 by omega, List.replicate_succ, List.set_cons_zero, List.append_assoc]
  rfl
theorem rws_take {L : List (List Int)} {xs : List XR} {x : XR} {k : Nat} (h : rws xs = L.take k) (hk : k < L.length) (hx : x.zs = L.getD k []) : rws (xs ++ [x]) = L.take (k + 1) := by
  unfold rws at h ⊢
  rw [List.map_append, h, List.take_succ_eq_append_getElem hk, List.map_cons, List.map_nil, hx, List.getD_eq_getElem?_getD, List.getElem?_eq_getElem hk]
  rfl
/-- What hands back a list of rows of its own. -/
def OwnS (L : List (List Int)) (w : World) (e : Ending) (w' : World) : Prop := ∃ a c xs, e = .returned (.slice a L.length c) ∧ rws xs = L ∧ Sep w' [OS (.slice a L.length c) xs, KeepA w]
set_option maxHeartbeats 2000000 in
theorem toIntSS_any (v : Value) (L : List (List Int)) (w : World) (hv : RdS w v L) (hl : L.length ≤ 2000000) (hle : ∀ r ∈ L, r.length ≤ 2000000) :
    Calls Tryd.prog 32 #[v] w (OwnS L w) := by
  obtain ⟨i0, hi, hz0, hz1, hz2⟩ := info_parts info_row
  have HI := Lib.hid hi; have HZ0 := Lib.hid hz0; have HZ1 := Lib.hid hz1; have HZ2 := Lib.hid hz2
  have HV := Lib.hid hv; have HLE := Lib.hid hle
  obtain ⟨a, cap, rfl⟩ := hv.shape
  generalize hlen : L.length = n at *
  have HL := Lib.hid hlen
  clear hi hz0 hz1 hz2 hv hlen hle
  go_enter Tryd.func32, Tryd.ntmps32
  go_wp2_with (
    at_make
    refine wpList_make_full _ rfl _ _ 22 rfl w.heap.size 27 i0 _ 1 Tryd.underlying22 HI.out HZ0.out HZ1.out _ _ _ _ n rfl rfl rfl rfl (by rw [HZ2.out]; omega) (by unfold maxLen; omega) (Nat.le_refl _) ?_
    intro w1 hown' hgr'
    have hs0 : Sep w1 [OR rowE (.slice (some ⟨w.heap.size, 0, none⟩) n n) (List.replicate n xr0), KeepA w] := (Sep.start w).newR hgr' (OwnR.made zeroRow_cells hown')
    have HS := Lib.hid hs0
    clear hs0 hown' hgr')
  go_loopw [4] (fun i wr => ∃ (k : Nat) (xs : List XR), k ≤ n ∧ i = .int .i64 k ∧ xs.length = k ∧ rws xs = L.take k ∧ Sep wr [OR rowE (.slice (some ⟨w.heap.size, 0, none⟩) n n) (xs ++ List.replicate (n - k) xr0), Bag (rowsS xs), KeepA w]) (fun i _ => n - (intOf i).toNat)
  case atStart => exact ⟨0, [], by omega, rfl, rfl, rfl, by simpa [rowsS] using (HS.out.s2.noBag.s3 : Sep _ (OR rowE _ _ :: Bag [] :: KeepA w :: []))⟩
  case round =>
    obtain ⟨k, xs, hk, rfl, hxl, hxe, hs⟩ := hrel
    have HSX := Lib.hid hs; have HXE := Lib.hid hxe; have HXL := Lib.hid hxl
    clear hs hxe hxl HS
    by_cases hlt : k < n
    · have hke : k < L.length := by rw [HL.out]; exact hlt
      obtain ⟨b, o, rv, rfl, _, q0, hr⟩ := (HV.out.carry HSX.out.tl.tl.hd).at hke
      have HT := Lib.hid (toIntS_any rv (L.getD k []) wr hr (HLE.out _ (gm hke)))
      have HTK := Lib.hid fun (x : XR) (hx : x.zs = L.getD k []) => rws_take HXE.out hke hx
      have HFS := Lib.hid fun x => @fillR_set xs n k x HXL.out hlt
      have HLL := Lib.hid (show n = (xs ++ List.replicate (n - k) xr0).length by rw [List.length_append, List.length_replicate, HXL.out]; omega)
      obtain ⟨ra, rc, rfl⟩ := hr.shape
      clear hr hke
      generalize L.getD k [] = y at *
      go_wp2_with (
        go_at_call 58
        with_reducible refine HT.out.mono ?_
        rintro e w2 ⟨s1, r1, rfl, hsg⟩
        have hs3 := (HSX.out.graft1 hsg OI_own).s2
        have f0 := (show OwnR rowE 0 w2 _ _ from hs3.hd).free HLL.out k
        have d0 := row_cell (show OwnR rowE 0 w2 _ _ from hs3.hd) HLL.out (i := k) (by rw [← HLL.out]; exact hlt)
        have hs4 := hs3.setW HLL.out (i := k) (by rw [← HLL.out]; exact hlt) ⟨.slice (some ⟨s1, 0, none⟩) y.length r1, y⟩
        rw [HFS.out] at hs4
        have hs5 := hs4.bagOne
        rw [← rowsS_snoc xs ⟨.slice (some ⟨s1, 0, none⟩) y.length r1, y⟩] at hs5
        have HS3 := Lib.hid hs5
        clear hsg hs3 hs4 hs5)
      go_roundw
      case rel => exact ⟨k + 1, xs ++ [⟨.slice (some ⟨s1, 0, none⟩) y.length r1, y⟩], by omega, by go_num, by rw [List.length_append, HXL.out]; rfl, HTK.out _ rfl, HS3.out⟩
      case measure => simp [intOf]; omega
    · have hkn : k = n := by omega
      subst hkn
      have hs := HSX.out
      rw [Nat.sub_self, List.replicate_zero, List.append_nil] at hs
      have hxe := HXE.out
      rw [List.take_of_length_le (by rw [HL.out]; exact Nat.le_refl _)] at hxe
      have HF := Lib.hid hs.intoBag
      have HXF := Lib.hid hxe
      clear hs hxe hlt
      go_wp2
      go_ret
      exact ⟨_, _, xs, by rw [HL.out]; rfl, HXF.out, by rw [HL.out]; exact HF.out⟩
/-! ### comparing -/
set_option maxHeartbeats 2000000 in
theorem eqIntSS_same (v1 v2 : Value) (L : List (List Int)) (w : World) (h1 : RdS w v1 L) (h2 : RdS w v2 L) (l1 : L.length ≤ 2000000) (hle : ∀ r ∈ L, r.length ≤ 1000000000) :
    Calls Tryd.prog 38 #[v1, v2] w fun e w' => e = .returned (.bool true) ∧ w.grownBy w' none := by
  have H1 := Lib.hid h1; have H2 := Lib.hid h2; have HLE := Lib.hid hle
  obtain ⟨a1, c1, rfl⟩ := h1.shape
  obtain ⟨a2, c2, rfl⟩ := h2.shape
  clear h1 h2 hle
  generalize hlx : L.length = l at *
  have HLX := Lib.hid hlx
  clear hlx
  go_enter Tryd.func38, Tryd.ntmps38
  go_wp2
  go_loopw [5] (fun i wr => ∃ k : Nat, k ≤ l ∧ i = .int .i64 k ∧ w.grownBy wr none) (fun i _ => l - (intOf i).toNat)
  case atStart => exact ⟨0, by omega, rfl, grownBy_refl _ _⟩
  case round =>
    obtain ⟨k, hk, rfl, hg⟩ := hrel
    have HG := Lib.hid hg
    clear hg
    by_cases hlt : k < l
    · have hke : k < L.length := by rw [HLX.out]; exact hlt
      have hdr : w.grownBy wr.drew none := ⟨HG.out.os, HG.out.tape, HG.out.output, HG.out.size, HG.out.block⟩
      obtain ⟨b1, o1, i1, rfl, _, p0, hi1⟩ := (H1.out.carry HG.out).at hke
      obtain ⟨b2, o2, i2, rfl, _, q0, hi2⟩ := (H2.out.carry HG.out).at hke
      have hlm := HLE.out _ (gm hke)
      have hdw : wr.grownBy wr.drew none := ⟨rfl, rfl, rfl, Nat.le_refl _, fun _ _ _ => rfl⟩
      have hc := eqIntS_any i1 i2 (L.getD k []) (L.getD k []) wr.drew (hi1.carry hdw) (hi2.carry hdw) hlm hlm
      rw [decide_eq_true rfl] at hc
      have HC := Lib.hid hc
      have HDR := Lib.hid hdr
      obtain ⟨s1, r1, rfl⟩ := hi1.shape
      obtain ⟨s2, r2, rfl⟩ := hi2.shape
      generalize (L.getD k []).length = m1 at *
      clear hke hlm hdw hdr hi1 hi2 hc
      go_wp2_with fail
      refine wp_region_still_tail 8 (by kernel_rfl) (by kernel_rfl) ?_
      simp only [List.take_succ_cons, List.take_zero, List.drop_succ_cons, List.drop_zero]
      repeat still_step
      refine wpStill_nil ?_
      change wpList _ _ _ _ _ wr.drew
      go_wp2_with (
        go_at_call 37
        with_reducible refine HC.out.mono ?_
        rintro e w2 ⟨rfl, hg⟩
        have HG2 := Lib.hid (grownBy_trans HDR.out hg)
        clear hg)
      go_roundw
      case rel => exact ⟨k + 1, by omega, by go_num, HG2.out⟩
      case measure => simp [intOf]; omega
    · have hkl : k = l := by omega
      subst hkl
      go_wp2
      go_ret
      exact ⟨rfl, HG.out⟩
/-! ### marking -/
def mkXR (k : Int) (x : XR) : XR := ⟨x.v, cntI k x.zs.length⟩
def mkXRs (k : Int) : List XR → List XR
  | [] => []
  | x :: r => mkXR k x :: mkXRs (k + x.zs.length) r
theorem mkXRs_len (xs : List XR) : ∀ k : Int, (mkXRs k xs).length = xs.length := by
  induction xs with
  | nil => intro k; rfl
  | cons x r ih => intro k; simp only [mkXRs, List.length_cons, ih]
theorem mkXRs_snoc (A : List XR) (x : XR) : ∀ k : Int, mkXRs k (A ++ [x]) = mkXRs k A ++ [mkXR (k + totS (rws A)) x] := by
  induction A with
  | nil => intro k; simp [mkXRs, rws, totS]
  | cons y A ih =>
    intro k
    simp only [List.cons_append, mkXRs, ih, rws, List.map_cons, totS]
    rw [show k + (y.zs.length : Int) + (totS (List.map RX.zs A) : Int) = k + ((y.zs.length + totS (List.map RX.zs A) : Nat) : Int) by omega]
theorem OwnR.sameC {α : Type} {E : Lay α} {B : Nat} {w : World} {v : Value} {xs ys : List α} (h : OwnR E B w v xs) (hl : ys.length = xs.length) (hc : ys.flatMap E.cs = xs.flatMap E.cs) : OwnR E B w v ys := by
  unfold OwnR at h ⊢
  rw [hl, hc]
  exact h
set_option maxHeartbeats 4000000 in
theorem markIntSS_any (a : Option Addr) (n c : Nat) (xs : List XR) (k : Int) (w : World) (l : List Asrt) (hs : Sep w (OS (.slice a n c) xs :: l)) (hn : n = xs.length) (hn2 : n ≤ 2000000) (hl : totS (rws xs) ≤ 2000000) (h0 : 0 ≤ k) (h1 : k ≤ 50000000) :
    Calls Tryd.prog 39 #[.slice a n c, .int .i64 k] w fun e w' => e = .returned (.int .i64 (k + totS (rws xs))) ∧ Sep w' (OS (.slice a n c) (mkXRs k xs) :: l) := by
  have HS := Lib.hid hs.outBag; have HL := Lib.hid hn.symm
  clear hs hn
  go_enter Tryd.func39, Tryd.ntmps39
  go_wp2
  go_loopw [1, 5] (fun kv i wr => ∃ (j : Nat) (A R : List XR) (q : Int), j ≤ n ∧ i = .int .i64 j ∧ xs = A ++ R ∧ A.length = j ∧ kv = .int .i64 q ∧ q = k + totS (rws A) ∧ Sep wr (OR rowE (.slice a n c) (mkXRs k A ++ R) :: Bag (rowsS (mkXRs k A)) :: Bag (rowsS R) :: l)) (fun _ i _ => n - (intOf i).toNat)
  case atStart => exact ⟨0, [], xs, k, by omega, rfl, rfl, rfl, rfl, by simp [rws, totS], by simpa [mkXRs, rowsS] using HS.out.noBag.s2⟩
  case round =>
    obtain ⟨j, A, R, q, hj, rfl, hx, hA, rfl, hq, hs⟩ := hrel
    have HQ := Lib.hid hq
    have HSX := Lib.hid hs; have HX := Lib.hid hx; have HA := Lib.hid hA
    have hwl : totS (rws A) + totS (rws R) = totS (rws xs) := by rw [hx]; unfold rws; rw [List.map_append, totS_app]
    clear hs hx hA HS
    by_cases hlt : j < n
    · have hRl : 0 < R.length := by
        have h1 := HL.out
        rw [HX.out, List.length_append, HA.out] at h1
        omega
      obtain ⟨x, R', rfl⟩ : ∃ x R', R = x :: R' := by
        cases R with
        | nil => simp at hRl
        | cons x R' => exact ⟨x, R', rfl⟩
      have hll : n = (mkXRs k A ++ x :: R').length := by
        have h1 := HL.out
        rw [HX.out, List.length_append] at h1
        rw [List.length_append, mkXRs_len]
        omega
      have hjl : j < (mkXRs k A ++ x :: R').length := by rw [← hll]; exact hlt
      have hget : (mkXRs k A ++ x :: R').getD j xr0 = x := by
        rw [List.getD_eq_getElem?_getD, List.getElem?_append_right (by rw [mkXRs_len, HA.out]; exact Nat.le_refl _), mkXRs_len, HA.out, Nat.sub_self]
        rfl
      obtain ⟨g, cap, he, _, _, _⟩ := OwnR.parts (show OwnR rowE 0 wr (.slice a n c) (mkXRs k A ++ x :: R') from HSX.out.hd) (by omega)
      rw [← hll] at he
      cases he
      have hq1 : q ≤ 52000000 := by omega
      have hq0 : 0 ≤ q := by omega
      obtain ⟨i1, d1, hiv⟩ : ∃ a c, x.v = .slice a x.zs.length c := own_shape (show OwnInts 0 wr x.v x.zs from (by have h := HSX.out.s3; rw [rowsS_cons] at h; exact h.outBag.hd))
      have p0 := row_cell HSX.out.hd hll hjl
      rw [hget] at p0
      have h2 := HSX.out
      rw [rowsS_cons] at h2
      have h3 := h2.s3.outBag
      have hwx : totS (rws A) + x.zs.length ≤ totS (rws xs) := by rw [← hwl]; simp only [rws, List.map_cons, totS]; omega
      obtain ⟨xiv, xi⟩ := x
      simp only at hiv hwx p0
      subst hiv
      have h3' : Sep _ (OI (.slice i1 xi.length d1) xi :: Bag (rowsS R') :: OR rowE (.slice (some ⟨g, 0, none⟩) n c) (mkXRs k A ++ ⟨.slice i1 xi.length d1, xi⟩ :: R') :: Bag (rowsS (mkXRs k A)) :: l) := h3
      have HS3 := Lib.hid h3'
      obtain ⟨q3, e3⟩ : ∃ q3, q3 = q + (xi.length : Int) := ⟨_, rfl⟩
      have HM1 := Lib.hid fun W l (h : Sep W (OI (.slice i1 xi.length d1) xi :: l)) => markIntS_any i1 xi.length d1 xi q W l h rfl (by omega) (by omega) (by omega)
      rw [← e3] at HM1
      have HQ4 := Lib.hid (show q3 = k + (totS (rws (A ++ [⟨.slice i1 xi.length d1, xi⟩])) : Int) by
        rw [show rws (A ++ [(⟨.slice i1 xi.length d1, xi⟩ : XR)]) = rws A ++ [xi] by simp [rws], totS_app]
        simp only [totS]
        omega)
      have HEND := Lib.hid (show mkXRs k (A ++ [⟨.slice i1 xi.length d1, xi⟩]) = mkXRs k A ++ [⟨.slice i1 xi.length d1, cntI q xi.length⟩] by rw [mkXRs_snoc, ← hq]; rfl)
      have HPUT := Lib.hid fun W l' (h : Sep W (OR rowE (.slice (some ⟨g, 0, none⟩) n c) (mkXRs k A ++ ⟨.slice i1 xi.length d1, xi⟩ :: R') :: l')) =>
        show Sep W (OR rowE (.slice (some ⟨g, 0, none⟩) n c) ((mkXRs k A ++ [⟨.slice i1 xi.length d1, cntI q xi.length⟩]) ++ R') :: l') from by
          rw [List.append_assoc]
          exact h.upd' (A' := OR rowE (.slice (some ⟨g, 0, none⟩) n c) _) (Only.refl _ _) (OwnR.sameC (E := rowE) h.hd (by simp) (by simp [rowE])) (fun k hk => Or.inl hk)
      have HXN := Lib.hid (show xs = (A ++ [⟨.slice i1 xi.length d1, xi⟩]) ++ R' by rw [HX.out]; simp)
      have HAL := Lib.hid (show (A ++ [(⟨.slice i1 xi.length d1, xi⟩ : XR)]).length = j + 1 by rw [List.length_append, HA.out]; rfl)
      clear h2 h3 h3' hll hjl hget e3 hq hwx hwl hq0 hq1
      have HMA := Lib.hid (HM1.out _ _ HS3.out)
      clear HS3 HM1 HSX
      generalize xi.length = m1 at *
      go_wp2_with (
        go_at_call 41
        with_reducible refine HMA.out.mono ?_
        rintro e w5 ⟨rfl, hs5⟩
        have hs7 := HPUT.out _ _ (Sep.bagOne (hs5.s3.under (fun h => h.under (fun h => h.s2) (by simp +contextual)) (by simp +contextual)))
        have HS7 := Lib.hid hs7
        clear hs5 hs7)
      go_roundw
      case rel =>
        have h := HS7.out
        refine ⟨j + 1, _, R', q3, by omega, by go_num, HXN.out, HAL.out, rfl, HQ4.out, ?_⟩
        rw [HEND.out, rowsS_snoc]
        exact h
      case measure => simp [intOf]; omega
    · have hjn : j = n := by omega
      subst hjn
      have hR : R = [] := by
        have h1 := HL.out
        rw [HX.out, List.length_append, HA.out] at h1
        exact List.length_eq_zero_iff.1 (by omega)
      subst hR
      have hxa : xs = A := by rw [HX.out, List.append_nil]
      have hs := HSX.out
      rw [List.append_nil] at hs
      have hs2 := (hs.under (fun h => h.drop2) (by simp +contextual)).intoBag
      rw [← hxa] at hs2 hq
      have HF := Lib.hid hs2
      have HQF := Lib.hid hq
      clear hs hs2 hq hxa hlt hwl HQ
      go_wp2
      go_ret
      exact ⟨by rw [HQF.out]; rfl, HF.out⟩
end Go.Proofs.YtghfifpicklonaaDoor

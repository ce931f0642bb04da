/-
  Lists of lists: all joined; is a list a permutation; the program's check that each number occurs once. Conditions: lengths are small.
-/
import Derived.Test.YtlpgjnjhhgjkmaaDoorHg00
import Derived.Test.YtlpgjnjhhgjkmaaDoorBa05
import Derived.Test.YtlpgjnjhhgjkmaaDoorBa07
namespace Go.Proofs.YtlpgjnjhhgjkmaaDoor
open Go.RowKit
set_option linter.unusedVariables false
set_option maxRecDepth 100000

/-- A list with the slice that holds it. -/
structure RX where
  v : Value
  zs : List Int
def rowE : Lay RX := ⟨24, 1, fun x => [x.v], fun _ => rfl, by decide⟩
def rx0 : RX := ⟨nilS, []⟩
theorem info_row : (Tryd.prog.info? rowE.ty).map (fun i => (i.zero, i.size, i.bytes)) = some (some (.slice none 0 0), rowE.sz, 24) := by kernel_rfl
/-- A list of lists that can be read. -/
def RdL (w : World) (v : Value) (xs : List RX) : Prop := RdR rowE w v xs ∧ ∀ x ∈ xs, IntsV w x.v x.zs
theorem RdL.carry {w w' : World} {v : Value} {xs : List RX} (h : RdL w v xs) (hg : w.grownBy w' none) : RdL w' v xs := ⟨h.1.carry hg, fun x hx => (h.2 x hx).carry hg⟩
def joinL (xs : List RX) : List Int := xs.flatMap RX.zs
theorem joinL_take {xs : List RX} {k : Nat} (hk : k < xs.length) : joinL (xs.take (k + 1)) = joinL (xs.take k) ++ (xs.getD k rx0).zs := by
  unfold joinL
  rw [List.take_succ_eq_append_getElem hk, List.flatMap_append, List.getD_eq_getElem?_getD, List.getElem?_eq_getElem hk]
  simp
theorem joinL_le (xs : List RX) (k : Nat) : (joinL (xs.take k)).length ≤ (joinL xs).length := by
  have h : joinL xs = joinL (xs.take k) ++ joinL (xs.drop k) := by unfold joinL; rw [← List.flatMap_append, List.take_append_drop]
  rw [h, List.length_append]
  omega
theorem RdL.at {w : World} {a : Option Addr} {n c : Nat} {xs : List RX} (h : RdL w (.slice a n c) xs) {i : Nat} (hi : i < xs.length) : ∃ b o, a = some ⟨b, o, none⟩ ∧ w.cell? ⟨b, o + i, none⟩ = some (xs.getD i rx0).v ∧ IntsV w (xs.getD i rx0).v (xs.getD i rx0).zs := by
  obtain ⟨b, o, ha, _, hc⟩ := h.1.at hi
  have e : xs.getD i rx0 = xs[i] := by rw [List.getD_eq_getElem?_getD, List.getElem?_eq_getElem hi]; rfl
  rw [e]
  refine ⟨b, o, ha, ?_, h.2 _ (List.getElem_mem _)⟩
  have := hc 0 (by decide)
  simpa [rowE] using this
set_option maxHeartbeats 1000000 in
theorem joined_any (v : Value) (xs : List RX) (w : World) (hv : RdL w v xs) (hl : xs.length ≤ 1000000) (hj : (joinL xs).length ≤ 1000000) :
    Calls Tryd.prog 69 #[v] w fun e w' => ∃ u, e = .returned u ∧ Sep w' [OI u (joinL xs), KeepA w] := by
  have HV := Lib.hid hv; have HJ := Lib.hid hj
  obtain ⟨a, c, rfl⟩ := hv.1.shape
  clear hv hj
  generalize hn : xs.length = n at *
  have HN := Lib.hid hn
  clear hn
  have HS0 := Lib.hid ((Sep.start w).emptyI)
  go_enter Tryd.func69, Tryd.ntmps69
  go_wp2_with fail
  go_loopw [3, 5, 9] (fun ov _ i wr => ∃ k : Nat, k ≤ n ∧ i = .int .i64 k ∧ Sep wr [OI ov (joinL (xs.take k)), KeepA w]) (fun _ _ i _ => n - (intOf i).toNat)
  case atStart => exact ⟨0, by omega, rfl, by simpa [joinL] using HS0.out⟩
  case round =>
    obtain ⟨k, hk, rfl, hs⟩ := hrel
    have HSX := Lib.hid hs
    clear hs HS0
    by_cases hlt : k < n
    · have hkx : k < xs.length := by rw [HN.out]; exact hlt
      obtain ⟨b, o, rfl, hc, hi⟩ := (HV.out.carry HSX.out.tl.hd).at hkx
      have HT := Lib.hid (joinL_take hkx)
      have hle := joinL_le xs (k + 1)
      have hle2 := HJ.out
      rw [HT.out, List.length_append] at hle
      have HL := Lib.hid (show (joinL (xs.take k)).length + (xs.getD k rx0).zs.length ≤ 1000000000 by omega)
      generalize xs.getD k rx0 = y at *
      obtain ⟨yv, yz⟩ := y
      simp only at hc hi HL
      have HI := Lib.hid hi
      obtain ⟨a1, c1, rfl⟩ := hi.shape
      obtain ⟨a2, c2, rfl⟩ := own_shape (show OwnInts 0 wr u3 _ from HSX.out.hd)
      clear hkx hle hle2 hi
      go_wp2_with (
        refine app_intsS rfl (.tmp 13) (.tmp 14) rfl rfl rfl HSX.out HI.out HL.out ?_
        intro v' w' h'
        have HS2 := Lib.hid h'
        clear h')
      go_roundw
      case rel => exact ⟨k + 1, by omega, by go_num, by rw [HT.out]; exact HS2.out⟩
      case measure => simp [intOf]; omega
    · have hkn : k = n := by omega
      subst hkn
      have hs := HSX.out
      rw [List.take_of_length_le (by rw [HN.out]; exact Nat.le_refl _)] at hs
      have HF := Lib.hid hs
      clear hs hlt
      go_wp2
      go_ret
      exact ⟨_, rfl, HF.out⟩
end Go.Proofs.YtlpgjnjhhgjkmaaDoor

/-
  Is a list a permutation; does each number occur once. Conditions: lengths are small.
-/
namespace Go.Proofs.YtlpgjnjhhgjkmaaDoor
open Go.RowKit
set_option linter.unusedVariables false
set_option maxRecDepth 100000

theorem take_mem_split {zs : List Int} {k : Nat} (hk : k < zs.length) : zs.take (k + 1) = zs.take k ++ [zs.getD k 0] := by
  rw [List.take_succ_eq_append_getElem hk, List.getD_eq_getElem?_getD, List.getElem?_eq_getElem hk]; rfl
theorem perm_bad_rng {zs : List Int} {m k : Nat} (hk : k < zs.length) (h : ¬ (0 ≤ zs.getD k 0 ∧ zs.getD k 0 ≤ (m : Int) - 1)) : permB zs m = false := by
  unfold permB
  have : rngB m zs = false := by
    cases hr : rngB m zs
    · rfl
    · have := rngB_iff.1 hr _ (getD_mem (d := 0) hk)
      omega
  rw [this]
  simp
theorem perm_bad_dup {zs : List Int} {m k : Nat} (hk : k < zs.length) (h : zs.getD k 0 ∈ zs.take k) : permB zs m = false := by
  unfold permB
  have : ¬ zs.Nodup := by
    intro hd
    have h2 : (zs.take (k + 1)).Nodup := List.Nodup.sublist (List.take_sublist _ _) hd
    rw [take_mem_split hk] at h2
    have := (List.nodup_append.1 h2).2.2
    exact this _ h _ (by simp) rfl
  rw [decide_eq_false this]
  simp
theorem perm_good {zs : List Int} {m : Nat} (hl : zs.length = m) (hr : ∀ x ∈ zs, 0 ≤ x ∧ x < (m : Int)) (hd : zs.Nodup) : permB zs m = true := by
  unfold permB
  rw [decide_eq_true (by omega : ((zs.length : Int) = m)), rngB_iff.2 hr, decide_eq_true hd]
  rfl
theorem perm_step {zs : List Int} {m k : Nat} (hk : k < zs.length) (h : ¬ zs.getD k 0 ∈ zs.take k) (hd : (zs.take k).Nodup) : (zs.take (k + 1)).Nodup := by
  rw [take_mem_split hk, List.nodup_append]
  refine ⟨hd, by simp, fun a ha b hb e => ?_⟩
  have hb' : b = zs.getD k 0 := List.mem_singleton.1 hb
  exact h (by rw [← hb', ← e]; exact ha)
set_option maxHeartbeats 2000000 in
theorem isPermutation_any (v : Value) (zs : List Int) (m : Nat) (w : World) (hv : IntsV w v zs) (hm : m ≤ 1000000) (hl : zs.length ≤ 1000000) :
    Calls Tryd.prog 68 #[v, .int .i64 m] w fun e w' => e = .returned (.bool (permB zs m)) ∧ w.grownBy w' none := by
  obtain ⟨i0, hi, hz0, hz1, hz2⟩ := info_parts info_bool
  have HBI := Lib.hid hi; have HZ0 := Lib.hid hz0; have HZ1 := Lib.hid hz1; have HZ2 := Lib.hid hz2
  have HV := Lib.hid hv
  obtain ⟨a, c, rfl⟩ := hv.shape
  clear hi hz0 hz1 hz2 hv
  generalize hn : zs.length = n at *
  have HN := Lib.hid hn
  clear hn
  by_cases hne : n = m
  · subst hne
    have hn1 : ((n : Int) != (n : Int)) = false := by simp
    have hwr : IntKind.i64.wrap ((n : Int) - 1) = (n : Int) - 1 := by rw [IntKind.wrap_i64]; omega
    go_enter Tryd.func68, Tryd.ntmps68
    go_wp2_with (
      at_make
      refine wpList_make_full _ rfl _ _ 87 rfl w.heap.size 4 i0 _ 1 Tryd.underlying87 HBI.out HZ0.out HZ1.out _ _ _ _ n rfl rfl rfl rfl (by rw [HZ2.out]; omega) (by unfold maxLen; omega) (Nat.le_refl _) ?_
      intro w1 hown' hgr'
      have hs1 := (Sep.start w).newR hgr' (OwnR.made (E := boolE) falseCells hown')
      rw [← seen_nil] at hs1
      have HS1 := Lib.hid hs1
      clear hs1 hown' hgr')
    go_loopw [7, 16] (fun _ i wr => ∃ k : Nat, k ≤ n ∧ i = .int .i64 k ∧ (zs.take k).Nodup ∧ (∀ x ∈ zs.take k, 0 ≤ x ∧ x < (n : Int)) ∧ Sep wr [OR boolE (.slice (some ⟨w.heap.size, 0, none⟩) n n) (seenL n (zs.take k)), KeepA w]) (fun _ i _ => n - (intOf i).toNat)
    case atStart => exact ⟨0, by omega, rfl, by simp, by simp, by simpa using HS1.out⟩
    case round =>
      obtain ⟨k, hk, rfl, hd, hr, hs⟩ := hrel
      have HSX := Lib.hid hs; have HD := Lib.hid hd; have HR := Lib.hid hr
      clear hs hd hr HS1
      by_cases hlt : k < n
      · have hkx : k < zs.length := by rw [HN.out]; exact hlt
        obtain ⟨b, o, rfl⟩ := IntsV.addr HV.out (by omega)
        have hc0 := (HV.out.carry HSX.out.tl.hd).cellN hkx
        have HTK := Lib.hid (take_mem_split hkx)
        have HBR := Lib.hid (@perm_bad_rng zs n k hkx)
        have HBD := Lib.hid (@perm_bad_dup zs n k hkx)
        have HST := Lib.hid (fun h => @perm_step zs n k hkx h HD.out)
        generalize zs.getD k 0 = x at *
        have HW := Lib.hid fun W => within_any x 0 ((n : Int) - 1) W
        by_cases hin : 0 ≤ x ∧ x ≤ (n : Int) - 1
        · rw [decide_eq_true hin] at HW
          obtain ⟨j, rfl⟩ := Int.eq_ofNat_of_zero_le hin.1
          have hjm : j < n := by omega
          have hsc := bool_cell HSX.out.hd (seen_len n _).symm hjm
          have hsf := bool_free HSX.out.hd (seen_len n _).symm j
          rw [seen_at hjm] at hsc
          by_cases hold : (j : Int) ∈ zs.take k
          · rw [decide_eq_true hold] at hsc
            have HF := Lib.hid (HBD.out hold)
            have HK := Lib.hid (show w.grownBy wr none from HSX.out.tl.hd)
            clear hold hin hkx
            go_wp2_with (go_at_call 64; with_reducible refine (HW.out _).mono ?_; rintro e w3 ⟨rfl, rfl⟩)
            go_ret
            exact ⟨by rw [HF.out]; try rfl, HK.out⟩
          · rw [decide_eq_false hold] at hsc
            have hsn := seen_new hjm hold
            have h1 := HSX.out.setBo (seen_len n _).symm hjm true
            rw [← hsn.1, ← HTK.out] at h1
            have HF := Lib.hid h1
            have HD2 := Lib.hid (HST.out hold)
            have HR2 := Lib.hid (show ∀ x ∈ zs.take (k + 1), 0 ≤ x ∧ x < (n : Int) from by
              intro x hx
              rw [HTK.out] at hx
              rcases List.mem_append.1 hx with hx | hx
              · exact HR.out x hx
              · simp at hx
                omega)
            clear hold hin hkx hsn h1
            go_wp2_with (go_at_call 64; with_reducible refine (HW.out _).mono ?_; rintro e w3 ⟨rfl, rfl⟩)
            go_roundw
            case rel => exact ⟨k + 1, by omega, by go_num, HD2.out, HR2.out, HF.out⟩
            case measure => simp [intOf]; omega
        · rw [decide_eq_false hin] at HW
          have HF := Lib.hid (HBR.out hin)
          have HK := Lib.hid (show w.grownBy wr none from HSX.out.tl.hd)
          clear hin hkx
          go_wp2_with (go_at_call 64; with_reducible refine (HW.out _).mono ?_; rintro e w3 ⟨rfl, rfl⟩)
          go_ret
          exact ⟨by rw [HF.out]; try rfl, HK.out⟩
      · have hkn : k = n := by omega
        subst hkn
        have hd := HD.out
        have hr := HR.out
        rw [List.take_of_length_le (by rw [HN.out]; exact Nat.le_refl _)] at hd hr
        have HF := Lib.hid (perm_good HN.out hr hd)
        have HK := Lib.hid (show w.grownBy wr none from HSX.out.tl.hd)
        clear hlt hd hr
        go_wp2
        go_ret
        exact ⟨by rw [HF.out]; try rfl, HK.out⟩
  · have hn1 : ((n : Int) != (m : Int)) = true := by simp; omega
    have HF := Lib.hid (show permB zs m = false by unfold permB; rw [HN.out, decide_eq_false (by omega)]; simp)
    clear hne
    go_enter Tryd.func68, Tryd.ntmps68
    go_wp2
    go_ret
    exact ⟨by rw [HF.out]; try rfl, grownBy_refl _ _⟩
theorem occursOnce_any (v : Value) (xs : List RX) (m : Nat) (w : World) (hv : RdL w v xs) (hm : m ≤ 1000000) (hl : xs.length ≤ 1000000) (hj : (joinL xs).length ≤ 1000000) :
    Calls Tryd.prog 56 #[.int .i64 m, v] w fun e w' => e = .returned (.bool (permB (joinL xs) m)) ∧ w.grownBy w' none := by
  have HA := Lib.hid (joined_any v xs w hv hl hj)
  have HB := Lib.hid fun u W (h : IntsV W u (joinL xs)) => isPermutation_any u (joinL xs) m W h hm hj
  obtain ⟨a, c, rfl⟩ := hv.1.shape
  clear hv
  generalize permB (joinL xs) m = b at *
  go_enter Tryd.func56, Tryd.ntmps56
  go_wp2_with (first
    | (go_at_call 69
       with_reducible refine HA.out.mono ?_
       rintro e w2 ⟨u, rfl, hs⟩
       have HC := Lib.hid (HB.out u w2 (OwnInts.read (show OwnInts 0 w2 u _ from hs.hd)))
       have HK := Lib.hid (show w.grownBy w2 none from hs.tl.hd)
       clear hs)
    | (go_at_call 68
       with_reducible refine HC.out.mono ?_
       rintro e w3 ⟨rfl, hg⟩
       have HK2 := Lib.hid (grownBy_trans HK.out hg)
       clear hg))
  go_ret
  exact ⟨rfl, HK2.out⟩
end Go.Proofs.YtlpgjnjhhgjkmaaDoor

/-
  Is a graph monogamous, in the program. Conditions: lengths are small.
-/
namespace Go.Proofs.YtlpgjnjhhgjkmaaDoor
open Go.RowKit
set_option linter.unusedVariables false
set_option maxRecDepth 100000

theorem row_own {w : World} {l : List Asrt} (h : Sep w l) (a : Option Addr) (n c : Nat) (is : List Int) (b : Nat) (hb : b = w.heap.size) :
    Sep (w.alloc (.cells #[.slice a n c] 24)) (OR rowE (.slice (some ⟨b, 0, none⟩) 1 1) [⟨.slice a n c, is⟩] :: l) := by
  subst hb
  refine h.newR (grownBy_alloc w _ none) ?_
  refine ⟨rfl, Or.inr ⟨w.heap.size, 1, #[.slice a n c], rfl, Nat.le_refl _, ?_, Nat.le_refl _, ?_, rfl, rfl⟩⟩
  · exact alloc_heap_new _ _
  · decide
section
variable {α : Type} {E : Lay α} {ops : Array Oper} {rest : List Oper} {o : Oper} {a : Act} {Q : Exit → Act → World → Prop} {w : World} {v : Value} {xs : List α} {l : List Asrt} {y : α} {t : TypeId} {z : Value} {bytes b : Nat}
theorem app_RB (hinfo : (Tryd.prog.info? E.ty).map (fun i => (i.zero, i.size, i.bytes)) = some (some z, E.sz, bytes)) (hzs : z.cells.size = E.sz) (hby : bytes ≤ 10000) (ht : Tryd.prog.underlying t = some (.slice E.ty)) (hone : ∀ u ∈ E.cs y, u.oneCell' = true)
    (hgd : o.guard = none) (s x : Operand) (ho : o.op = .call { callee := .builtin .append, args := #[s, x], argTypes := #[t, t] })
    (hs : a.eval s = v) (hx : a.eval x = .slice (some ⟨b, 0, none⟩) 1 1) (hb : b = w.heap.size) {cs : Array Value} (hcs : cs.toList = E.cs y) (H : Sep w (OR E v xs :: l)) (hl : xs.length ≤ 10000000)
    (h : ∀ g cap w', Sep w' (OR E (.slice (some ⟨g, 0, none⟩) (xs.length + 1) cap) (xs ++ [y]) :: l) → wpList Tryd.prog ops Q rest (a.put o.dst (.slice (some ⟨g, 0, none⟩) (xs.length + 1) cap)) w') :
    wpList Tryd.prog ops Q (o :: rest) a (w.alloc (.cells cs E.ty)) := by
  subst hb
  exact app_R hinfo hzs hby ht hone hgd s x ho hs hx hcs H hl h
end
theorem joinL_snoc (xs : List RX) (x : RX) : joinL (xs ++ [x]) = joinL xs ++ x.zs := by unfold joinL; rw [List.flatMap_append]; simp
theorem RdL.of {w : World} {v : Value} {xs : List RX} (h : (OR rowE v xs).holds w) (hi : ∀ x ∈ xs, IntsV w x.v x.zs) : RdL w v xs := ⟨OwnR.read (show OwnR rowE 0 w v xs from h), hi⟩
theorem grB_n {g : Gr} (h : grB g = true) : ∃ m : Nat, g.n = m ∧ m ≤ 100 ∧ g.es.length ≤ 60 ∧ g.i.length ≤ 12 ∧ g.o.length ≤ 12 ∧ rngB g.n (wiresL g) = true ∧ (∀ e ∈ g.es, e.i.length ≤ 2 ∧ e.o.length ≤ 2) ∧ g.es.all edB = true := by
  have h0 := h
  rw [grB_spec] at h
  simp only [Bool.and_eq_true, decide_eq_true_iff] at h
  obtain ⟨h1, h2, h3, h4, h5, h6, h7, h8⟩ := h
  rw [inB_iff] at h1
  obtain ⟨m, hm⟩ := Int.eq_ofNat_of_zero_le h1.1
  refine ⟨m, hm, by omega, h2, h3, h4, ?_, edge_small h7, ?_⟩
  · unfold grB at h0
    simp only [Bool.and_eq_true] at h0
    exact h0.1.2
  · unfold grB at h0
    simp only [Bool.and_eq_true] at h0
    exact h0.1.1.2
set_option maxHeartbeats 4000000 in
theorem isMonogamous_any (ev iv ov : Value) (g : Gr) (w : World) (he : RdE edgeE w ev g.es) (hi : IntsV w iv g.i) (ho : IntsV w ov g.o) (l0 : g.es.length ≤ 2000000) (l1 : g.i.length ≤ 2000000) (l2 : g.o.length ≤ 2000000) :
    Calls Tryd.prog 40 #[grV g.n ev iv ov] w fun e w' => e = .returned (.bool (grB g && monB g)) ∧ w.grownBy w' none := by
  have HIG := Lib.hid fun W (h : w.grownBy W none) => isGraph_any ev iv ov g W (he.carry h) (hi.carry h) (ho.carry h) l0 l1 l2
  have HE := Lib.hid he; have HI := Lib.hid hi; have HO := Lib.hid ho
  unfold grV at *
  obtain ⟨ea, ec, rfl⟩ := he.shape
  obtain ⟨ia, ic, rfl⟩ := hi.shape
  obtain ⟨oa, oc, rfl⟩ := ho.shape
  clear he hi ho l0 l1 l2
  have HS0 := Lib.hid ((Sep.start w).box #[.int .i64 g.n, .slice ea g.es.length ec, .slice ia g.i.length ic, .slice oa g.o.length oc] 34)
  have HK0 := Lib.hid (show w.grownBy _ none from HS0.out.tl.hd)
  cases hb : grB g
  · rw [hb] at HIG
    rw [Bool.false_and]
    clear hb
    generalize g.es.length = m0 at *
    generalize g.i.length = m1 at *
    generalize g.o.length = m2 at *
    generalize g.n = n at *
    go_enter Tryd.func40, Tryd.ntmps40
    go_wp2_with (
      go_at_call 54
      with_reducible refine (HIG.out _ HK0.out).mono ?_
      rintro e w2 ⟨rfl, hg⟩
      have HK2 := Lib.hid (grownBy_trans HK0.out hg)
      clear hg)
    go_ret
    exact ⟨rfl, HK2.out⟩
  · rw [hb] at HIG
    rw [Bool.true_and]
    obtain ⟨m, hm, hm1, hg1, hg2, hg3, hg4, hg5, _⟩ := grB_n hb
    clear hb
    obtain ⟨gn, es, is, os⟩ := g
    rw [show monB ⟨gn, es, is, os⟩ = (permB (is ++ outE es) gn && permB (os ++ inE es) gn) from rfl]
    simp only at *
    subst hm
    have HLE := Lib.hid hg5
    have HES := Lib.hid hg1
    have hlo : ∀ k, (outE (es.take k)).length ≤ 120 := by
      intro k
      have h1 := outE_le es k
      have h2 := flat_small (fun e => e.o) es (fun e he => (hg5 e he).2)
      unfold outE at h1 ⊢
      omega
    have hli : ∀ k, (inE (es.take k)).length ≤ 120 := by
      intro k
      have h1 := inE_le es k
      have h2 := flat_small (fun e => e.i) es (fun e he => (hg5 e he).1)
      unfold inE at h1 ⊢
      omega
    have HLO := Lib.hid hlo; have HLI := Lib.hid hli
    have HMM := Lib.hid (show m ≤ 1000000 by omega)
    have HIS := Lib.hid hg2; have HOS := Lib.hid hg3
    generalize hes : es.length = m0 at *
    have HM0 := Lib.hid hes
    clear hg4 hg5 hlo hli hm1 hes
    generalize hil : is.length = m1 at *
    generalize hol : os.length = m2 at *
    have HIL := Lib.hid hil; have HOL := Lib.hid hol
    clear hil hol
    go_enter Tryd.func40, Tryd.ntmps40
    go_upto_region 3 with (
      go_at_call 54
      with_reducible refine (HIG.out _ HK0.out).mono ?_
      rintro e w2 ⟨rfl, hg⟩
      have hs2 := HS0.out.grown hg
      obtain ⟨x0, x1, x2, x3, _⟩ := bq4 hs2.hd
      have HS2 := Lib.hid hs2
      clear hg hs2)
    go_cut [3, 4] from 10 to 15 (fun xv yv wx => ∃ (b1 b2 : Nat), xv = .slice (some ⟨b1, 0, none⟩) 1 1 ∧ yv = .slice (some ⟨b2, 0, none⟩) 1 1 ∧ Sep wx [OR rowE (.slice (some ⟨b1, 0, none⟩) 1 1) [⟨.slice ia m1 ic, is⟩], OR rowE (.slice (some ⟨b2, 0, none⟩) 1 1) [⟨.slice oa m2 oc, os⟩], BxA w.heap.size #[.int .i64 m, .slice ea m0 ec, .slice ia m1 ic, .slice oa m2 oc] 34, KeepA w])
    case first =>
      have y2 := fun o => (bq4 (HS2.out.al o).hd).2.2.1
      have y3 := fun o => (bq4 (HS2.out.al o).hd).2.2.2.1
      have HA := Lib.hid (row_own (row_own HS2.out ia m1 ic is w2.heap.size rfl) oa m2 oc os (w2.heap.size + 1) (by simp)).s2.dr
      have HB := Lib.hid (row_own (row_own HS2.out oa m2 oc os w2.heap.size rfl) ia m1 ic is (w2.heap.size + 1) (by simp)).dr
      go_region
      all_goals
        go_wp2_with fail
        go_meet
      . exact ⟨_, _, rfl, rfl, HA.out⟩
      . exact ⟨_, _, rfl, rfl, HB.out⟩
    case rest =>
      obtain ⟨b1, b2, rfl, rfl, hs⟩ := hcut
      have HS3 := Lib.hid hs
      obtain ⟨x0, x1, x2, x3, _⟩ := bq4 hs.tl.tl.hd
      clear hs HS2 HIG
      go_wp2_with fail
      go_loopw [3, 4, 6, 19] (fun xv yv _ i wr => ∃ (k : Nat) (xs ys : List RX), k ≤ m0 ∧ i = .int .i64 k ∧ xs.length = k + 1 ∧ ys.length = k + 1 ∧ joinL xs = is ++ outE (es.take k) ∧ joinL ys = os ++ inE (es.take k) ∧ (∀ x ∈ xs, IntsV w x.v x.zs) ∧ (∀ x ∈ ys, IntsV w x.v x.zs) ∧
        Sep wr [OR rowE xv xs, OR rowE yv ys, BxA w.heap.size #[.int .i64 m, .slice ea m0 ec, .slice ia m1 ic, .slice oa m2 oc] 34, KeepA w]) (fun _ _ _ i _ => m0 - (intOf i).toNat)
      case atStart => exact ⟨0, [⟨.slice ia m1 ic, is⟩], [⟨.slice oa m2 oc, os⟩], by omega, rfl, rfl, rfl, by simp [joinL, outE], by simp [joinL, inE], by simpa using HI.out, by simpa using HO.out, HS3.out⟩
      case round =>
        obtain ⟨k, xs, ys, hk, rfl, hxl, hyl, hxj, hyj, hxi, hyi, hs⟩ := hrel
        have HSX := Lib.hid hs; have HXL := Lib.hid hxl; have HYL := Lib.hid hyl; have HXJ := Lib.hid hxj; have HYJ := Lib.hid hyj; have HXI := Lib.hid hxi; have HYI := Lib.hid hyi
        obtain ⟨p1, p2, he1⟩ := OwnR.shape (show OwnR rowE 0 wr u3 xs from hs.hd)
        obtain ⟨q1, q2, he2⟩ := OwnR.shape (show OwnR rowE 0 wr u4 ys from hs.tl.hd)
        rw [hxl] at he1
        rw [hyl] at he2
        subst he1 he2
        obtain ⟨x0, x1, x2, x3, _⟩ := bq4 hs.tl.tl.hd
        clear hs HS3 hxl hyl hxj hyj hxi hyi
        by_cases hlt : k < m0
        · have hke : k < es.length := by rw [HM0.out]; exact hlt
          obtain ⟨eb, eo, u1, u2, rfl, hat⟩ := HE.out.atK rfl rfl hke
          obtain ⟨⟨q0, q1', q2', q3⟩, hi, ho⟩ := hat wr HSX.out.tl.tl.tl.hd
          obtain ⟨_, hi0, ho0⟩ := hat w (grownBy_refl _ _)
          have HTO := Lib.hid (outE_take es k hke); have HTI := Lib.hid (inE_take es k hke)
          generalize es.getD k e0 = y at *
          obtain ⟨yk, yv, yi, yo⟩ := y
          simp only at q0 q1' q2' q3 hi ho hi0 ho0
          have HI0 := Lib.hid hi0; have HO0 := Lib.hid ho0
          obtain ⟨s1, r1, rfl⟩ := hi.shape
          obtain ⟨s2, r2, rfl⟩ := ho.shape
          have hb := (HSX.out.box #[.int .i64 yk, .int .i64 yv, .slice s1 yi.length r1, .slice s2 yo.length r2] 70).s2
          have HSB := Lib.hid hb
          clear hi ho hi0 ho0 hat hke hb
          go_wp2_with (first
            | (refine app_RB (E := rowE) (y := ⟨.slice s2 yo.length r2, yo⟩) info_row rfl (by decide) Tryd.underlying77 (by intro u hu; simp [rowE] at hu; subst hu; rfl) rfl (.tmp 23) (.tmp 26) rfl rfl rfl (by simp) rfl HSB.out (by rw [HXL.out]; omega) ?_
               intro g c w4 h4
               rw [HXL.out] at h4 ⊢
               obtain ⟨z0, z1, z2, z3, _⟩ := bq4 h4.tl.hd
               have HS4 := Lib.hid h4.s3
               clear h4)
            | (refine app_RB (E := rowE) (y := ⟨.slice s1 yi.length r1, yi⟩) info_row rfl (by decide) Tryd.underlying77 (by intro u hu; simp [rowE] at hu; subst hu; rfl) rfl (.tmp 28) (.tmp 31) rfl rfl rfl rfl rfl HS4.out (by rw [HYL.out]; omega) ?_
               intro g2 c2 w5 h5
               rw [HYL.out] at h5 ⊢
               have HS5 := Lib.hid (h5.s2.under (fun h => h.under Sep.tl (by simp +contextual)) (by simp +contextual))
               clear h5))
          go_roundw
          case rel => exact ⟨k + 1, xs ++ [⟨.slice s2 yo.length r2, yo⟩], ys ++ [⟨.slice s1 yi.length r1, yi⟩], by omega, by go_num, by rw [List.length_append, HXL.out]; rfl, by rw [List.length_append, HYL.out]; rfl, by rw [joinL_snoc, HXJ.out, HTO.out, List.append_assoc], by rw [joinL_snoc, HYJ.out, HTI.out, List.append_assoc], by
              intro x hx
              rcases List.mem_append.1 hx with hx | hx
              · exact HXI.out x hx
              · rw [List.mem_singleton.1 hx]; exact HO0.out, by
              intro x hx
              rcases List.mem_append.1 hx with hx | hx
              · exact HYI.out x hx
              · rw [List.mem_singleton.1 hx]; exact HI0.out, HS5.out⟩
          case measure => simp [intOf]; omega
        · have hkm : k = m0 := by omega
          subst hkm
          have htk : es.take k = es := List.take_of_length_le (by rw [HM0.out]; exact Nat.le_refl _)
          rw [htk] at HXJ HYJ
          have hkp : w.grownBy wr none := HSX.out.tl.tl.tl.hd
          have hjl : (joinL xs).length ≤ 1000000 := by rw [HXJ.out, List.length_append]; have := HLO.out k; rw [htk] at this; have := HIS.out; have := HIL.out; omega
          have hjl2 : (joinL ys).length ≤ 1000000 := by rw [HYJ.out, List.length_append]; have := HLI.out k; rw [htk] at this; have := HOS.out; have := HOL.out; omega
          have HOA := Lib.hid fun W (h : wr.grownBy W none) => occursOnce_any _ xs m W ((RdL.of HSX.out.hd (fun x hx => (HXI.out x hx).carry hkp)).carry h) HMM.out (by rw [HXL.out]; omega) hjl
          have HOB := Lib.hid fun W (h : wr.grownBy W none) => occursOnce_any _ ys m W ((RdL.of HSX.out.tl.hd (fun x hx => (HYI.out x hx).carry hkp)).carry h) HMM.out (by rw [HYL.out]; omega) hjl2
          rw [HXJ.out] at HOA
          rw [HYJ.out] at HOB
          have hKW := Lib.hid hkp
          have HBX := Lib.hid (show Sep wr [BxA w.heap.size #[.int .i64 m, .slice ea k ec, .slice ia m1 ic, .slice oa m2 oc] 34, KeepA w] from HSX.out.tl.tl)
          clear hlt htk hkp hjl hjl2
          cases hb1 : permB (is ++ outE es) m
          · rw [hb1] at HOA
            have HB1 := Lib.hid hb1
            clear hb1
            go_wp2_with (
              go_at_call 56
              with_reducible refine (HOA.out _ (grownBy_refl _ _)).mono ?_
              rintro e w6 ⟨rfl, hg⟩
              have HK6 := Lib.hid (grownBy_trans hKW.out hg)
              clear hg)
            go_ret
            exact ⟨by rw [HB1.out]; rfl, HK6.out⟩
          · rw [hb1] at HOA
            have HB1 := Lib.hid hb1
            clear hb1
            obtain ⟨b2, hb2⟩ : ∃ b, b = permB (os ++ inE es) m := ⟨_, rfl⟩
            rw [← hb2] at HOB
            have HB2 := Lib.hid hb2
            clear hb2
            go_wp2_with (first
              | (go_at_call 56
                 with_reducible refine (HOA.out _ (grownBy_refl _ _)).mono ?_
                 rintro e w6 ⟨rfl, hg⟩
                 have HG6 := Lib.hid hg
                 obtain ⟨z0, z1, z2, z3, _⟩ := bq4 (HBX.out.grown hg).hd
                 have HK6 := Lib.hid (grownBy_trans hKW.out hg)
                 clear hg)
              | (go_at_call 56
                 with_reducible refine (HOB.out _ HG6.out).mono ?_
                 rintro e w7 ⟨rfl, hg⟩
                 have HK7 := Lib.hid (grownBy_trans HK6.out hg)
                 clear hg))
            go_ret
            exact ⟨by rw [HB1.out, ← HB2.out]; rfl, HK7.out⟩
end Go.Proofs.YtlpgjnjhhgjkmaaDoor

/-
  Own copies of graphs, in the reference and in the program. Conditions: the graph is valid.
-/
namespace Go.Proofs.YtlpgjnjhhgjkmaaDoor
open Go.RowKit
set_option linter.unusedVariables false
set_option maxRecDepth 100000

theorem ofL_up {n : Nat} {x : Int} (h0 : 0 ≤ x) (h1 : x < n) : ofL (upL n) x = x := by
  obtain ⟨k, rfl⟩ := Int.eq_ofNat_of_zero_le h0
  unfold ofL upL
  rw [Int.toNat_natCast, List.getD_eq_getElem?_getD, List.getElem?_map, List.getElem?_range (by omega)]
  rfl
theorem map_up {n : Nat} {l : List Int} (h : ∀ x ∈ l, 0 ≤ x ∧ x < (n : Int)) : l.map (ofL (upL n)) = l := by
  conv => rhs; rw [← List.map_id l]
  exact List.map_congr_left fun x hx => ofL_up (h x hx).1 (h x hx).2
theorem mapE_up {g : Gr} {n : Nat} (h : ∀ x ∈ wiresL g, 0 ≤ x ∧ x < (n : Int)) : g.es.map (mapE (upL n)) = g.es := by
  conv => rhs; rw [← List.map_id g.es]
  refine List.map_congr_left fun e he => ?_
  obtain ⟨gn, es, is, os⟩ := g
  unfold mapE
  rw [map_up (fun x hx => h x ((wires_edge he).1 hx)), map_up (fun x hx => h x ((wires_edge he).2 hx))]
  rfl
/-- What a call hands back that makes a graph of its own. -/
def OwnG (g : Gr) (w : World) (e : Ending) (w' : World) : Prop :=
  ∃ u0 xs u1 u2, e = .returned (grV g.n u0 u1 u2) ∧ eds xs = g.es ∧ Sep w' [OE u0 xs, OI u1 g.i, OI u2 g.o, KeepA w]
set_option maxHeartbeats 2000000 in
theorem hgOwn_any (ev iv ov : Value) (g : Gr) (w : World) (he : RdE edgeE w ev g.es) (hi : IntsV w iv g.i) (ho : IntsV w ov g.o) (hg : grB g = true) :
    Calls Tryd.prog 24 #[grV g.n ev iv ov] w (OwnG g w) := by
  obtain ⟨m, hm, hm1, hg1, hg2, hg3, hg4, hg5, _⟩ := grB_n hg
  have hr : ∀ x ∈ wiresL g, 0 ≤ x ∧ x < (m : Int) := fun x hx => by rw [← hm]; exact rngB_iff.1 hg4 x hx
  have HM := Lib.hid fun tv W (h : w.grownBy W none) (ht : IntsV W tv (upL m)) => hgMap_any ev iv ov tv g g.n (upL m) W (he.carry h) (hi.carry h) (ho.carry h) ht (by omega) (by omega) (by omega) (fun e h => by have := hg5 e h; omega) (by rw [upL_len]; exact hr)
  rw [mapE_up hr, map_up (fun x hx => hr x (by unfold wiresL; simp [hx])), map_up (fun x hx => hr x (by unfold wiresL; simp [hx]))] at HM
  obtain ⟨i0, hbi, hz0, hz1, hz2⟩ := info_parts info_int
  have HBI := Lib.hid hbi; have HZ0 := Lib.hid hz0; have HZ1 := Lib.hid hz1; have HZ2 := Lib.hid hz2
  clear hbi hz0 hz1 hz2
  unfold grV at *
  obtain ⟨ea, ec, rfl⟩ := he.shape
  obtain ⟨ia, ic, rfl⟩ := hi.shape
  obtain ⟨oa, oc, rfl⟩ := ho.shape
  clear he hi ho hg hr hg1 hg2 hg3 hg4 hg5
  unfold OwnG grV
  rw [hm]
  rw [hm] at HM
  generalize g.es.length = m0 at *
  generalize g.i.length = n1 at *
  generalize g.o.length = n2 at *
  have HMM := Lib.hid hm1
  clear hm
  have hs0 := ((Sep.start w).box #[.int .i64 m, .slice ea m0 ec, .slice ia n1 ic, .slice oa n2 oc] 34).box #[.int .i64 0, .slice none 0 0, .slice none 0 0, .slice none 0 0] 34
  have e1 : (w.alloc (.cells #[.int .i64 m, .slice ea m0 ec, .slice ia n1 ic, .slice oa n2 oc] 34)).heap.size = w.heap.size + 1 := by simp
  rw [e1] at hs0
  obtain ⟨x0, x1, x2, x3, _⟩ := bq4 hs0.tl.hd
  have HS0 := Lib.hid hs0
  clear hs0 e1
  go_enter Tryd.func24, Tryd.ntmps24
  go_wp2_with (
    at_make
    refine wpList_make_full _ rfl _ _ 24 rfl _ 3 i0 (.int .i64 0) 1 Tryd.underlying24 HBI.out HZ0.out HZ1.out _ _ _ _ m rfl rfl rfl rfl (by rw [HZ2.out]; omega) (by unfold maxLen; omega) (Nat.le_refl _) ?_
    intro w1 hown' hgr'
    have hs1 := HS0.out.newI (zs := List.replicate m 0) hgr' (by rw [madeCells_int] at hown'; unfold OwnInts; rw [List.length_replicate]; exact hown')
    rw [show ((w.alloc (.cells #[.int .i64 m, .slice ea m0 ec, .slice ia n1 ic, .slice oa n2 oc] 34)).alloc (.cells #[.int .i64 0, .slice none 0 0, .slice none 0 0, .slice none 0 0] 34)).heap.size = w.heap.size + 1 + 1 by simp] at hs1
    have HS1 := Lib.hid hs1
    clear hs1 hown' hgr')
  go_loopw [4, 10] (fun _ i wr => ∃ k : Nat, k ≤ m ∧ i = .int .i64 k ∧ Sep wr [OI (.slice (some ⟨w.heap.size + 1 + 1, 0, none⟩) m m) (upL k ++ List.replicate (m - k) 0), BxA (w.heap.size + 1) #[.int .i64 0, .slice none 0 0, .slice none 0 0, .slice none 0 0] 34, BxA w.heap.size #[.int .i64 m, .slice ea m0 ec, .slice ia n1 ic, .slice oa n2 oc] 34, KeepA w]) (fun _ i _ => m - (intOf i).toNat)
  case atStart => exact ⟨0, by omega, rfl, by simpa [upL] using HS1.out⟩
  case round =>
    obtain ⟨k, hk, rfl, hs⟩ := hrel
    have HSX := Lib.hid hs
    clear hs HS1 x0 x1 x2 x3
    by_cases hlt : k < m
    · have hll : m = (upL k ++ List.replicate (m - k) (0 : Int)).length := by rw [List.length_append, upL_len, List.length_replicate]; omega
      have hf := HSX.out.hd.free hll k
      obtain ⟨q, hc0⟩ := HSX.out.hd.cellQ hll (j := k) hlt
      have hset := HSX.out.setI hll k (k : Int)
      rw [up_set hlt] at hset
      have HSET := Lib.hid hset
      clear hll hset
      go_wp2
      go_roundw
      case rel => exact ⟨k + 1, by omega, by go_num, HSET.out⟩
      case measure => simp [intOf]; omega
    · have hkn : k = m := by omega
      subst hkn
      have hs := HSX.out
      rw [Nat.sub_self, List.replicate_zero, List.append_nil] at hs
      obtain ⟨x0, x1, x2, x3, _⟩ := bq4 hs.tl.tl.hd
      have HC := Lib.hid (HM.out _ wr hs.tl.tl.tl.hd (OwnInts.read (show OwnInts 0 wr _ _ from hs.hd)))
      have HSY := Lib.hid hs
      clear hlt hs
      go_wp2_with (
        go_at_call 43
        with_reducible refine HC.out.mono ?_
        rintro e w3 ⟨u0, xs, u1, u2, rfl, hxs, hsg⟩
        have HXS := Lib.hid hxs
        obtain ⟨s0, r0, rfl⟩ := OE.shape hsg.hd
        obtain ⟨s1, r1, rfl⟩ := own_shape hsg.tl.hd
        obtain ⟨s2, r2, rfl⟩ := own_shape hsg.tl.tl.hd
        have hs1 := (HSY.out.graft3 hsg OE_own OI_own OI_own).s5
        obtain ⟨y0, y1, y2, y3, z0, z1, z2, z3⟩ := bq4 hs1.hd
        have hs2 := (((hs1.setB 0 (.int .i64 k)).setB 1 (.slice s0 xs.length r0)).setB 2 (.slice s1 g.i.length r1)).setB 3 (.slice s2 g.o.length r2)
        obtain ⟨k0, k1, k2, k3, _⟩ := bq4 hs2.hd
        have HSF := Lib.hid (hs2.tl.under (fun h => h.under (fun h => h.under (fun h => h.tl.tl) (by simp +contextual)) (by simp +contextual)) (by simp +contextual))
        clear hsg hs1 hs2 hxs)
      refine bodyPost_ret_by (v := .agg #[.int .i64 k, .slice s0 xs.length r0, .slice s1 g.i.length r1, .slice s2 g.o.length r2]) ?_ rfl ⟨_, xs, _, _, rfl, HXS.out, HSF.out⟩
      simp [results, go_sem, *]
set_option maxHeartbeats 2000000 in
theorem gcopy_any (ev iv ov : Value) (g : Gr) (w : World) (he : RdE edgeE w ev g.es) (hi : IntsV w iv g.i) (ho : IntsV w ov g.o) (hg : grB g = true) :
    Calls Tryd.prog 45 #[grV g.n ev iv ov] w (OwnG g w) := by
  obtain ⟨m, hm, hm1, hg1, hg2, hg3, hg4, hg5, _⟩ := grB_n hg
  have hr : ∀ x ∈ wiresL g, 0 ≤ x ∧ x < (m : Int) := fun x hx => by rw [← hm]; exact rngB_iff.1 hg4 x hx
  have HM := Lib.hid fun tv W (h : w.grownBy W none) (ht : IntsV W tv (upL m)) => moved_any ev iv ov tv g g.n (upL m) W (he.carry h) (hi.carry h) (ho.carry h) ht (by omega) (by omega) (by omega) (fun e h => by have := hg5 e h; omega) (by rw [upL_len]; exact hr)
  rw [mapE_up hr, map_up (fun x hx => hr x (by unfold wiresL; simp [hx])), map_up (fun x hx => hr x (by unfold wiresL; simp [hx]))] at HM
  have HU := Lib.hid fun W => upTo_any m W (by omega)
  unfold grV at *
  obtain ⟨ea, ec, rfl⟩ := he.shape
  obtain ⟨ia, ic, rfl⟩ := hi.shape
  obtain ⟨oa, oc, rfl⟩ := ho.shape
  clear he hi ho hg hr hg1 hg2 hg3 hg4 hg5
  unfold OwnG grV
  rw [hm]
  rw [hm] at HM
  generalize g.es.length = m0 at *
  generalize g.i.length = n1 at *
  generalize g.o.length = n2 at *
  have HMM := Lib.hid hm1
  clear hm
  have hs0 := ((Sep.start w).box #[.int .i64 m, .slice ea m0 ec, .slice ia n1 ic, .slice oa n2 oc] 34).box #[.int .i64 0, .slice none 0 0, .slice none 0 0, .slice none 0 0] 34
  have e1 : (w.alloc (.cells #[.int .i64 m, .slice ea m0 ec, .slice ia n1 ic, .slice oa n2 oc] 34)).heap.size = w.heap.size + 1 := by simp
  rw [e1] at hs0
  have HSD := Lib.hid hs0.dr
  have SX := Lib.hid fun (W : World) (l : List Asrt) (h : Sep W (BxA w.heap.size #[.int .i64 m, .slice ea m0 ec, .slice ia n1 ic, .slice oa n2 oc] 34 :: l)) => And.intro (bq4 h.hd).1 (And.intro (bq4 h.hd).2.1 (And.intro (bq4 h.hd).2.2.1 (bq4 h.hd).2.2.2.1))
  have X0 := Lib.hid (SX.out _ _ HSD.out.tl)
  clear hs0 e1
  go_enter Tryd.func45, Tryd.ntmps45
  go_upto_region 1 with fail
  refine AnyL.start (fun w' => w'.cell? ⟨w.heap.size, 0, none⟩ = some (.int .i64 m) ∧ w'.cell? ⟨w.heap.size, 1, none⟩ = some (.slice ea m0 ec) ∧ w'.cell? ⟨w.heap.size, 2, none⟩ = some (.slice ia n1 ic) ∧ w'.cell? ⟨w.heap.size, 3, none⟩ = some (.slice oa n2 oc)) (fun _ => True) 99 (by kernel_rfl) ?_
  refine AnyL.take (i := 0) (v := ?vx1) (by rfl) (by kernel_rfl) (by kernel_rfl) (by kernel_rfl) rfl (by exact fun _ _ _ h => h) (by rfl) ?hyx1 (by exact ⟨X0.out, fun _ => trivial⟩) ?restx1
  case hyx1 => intro W hSW; (try dsimp only at hSW); first | (go_simp; done) | (go_simp; with_reducible rfl)
  try simp only [Act.put, List.setIfInBounds_toArray, List.set_cons_zero, List.set_cons_succ]
  refine AnyL.take (i := 1) (v := ?vx2) (by rfl) (by kernel_rfl) (by kernel_rfl) (by kernel_rfl) rfl (by exact fun _ _ _ h => h) (by rfl) ?hyx2 (by exact ⟨X0.out, fun _ => trivial⟩) ?restx2
  case hyx2 => intro W hSW; (try dsimp only at hSW); first | (go_simp; done) | (go_simp; with_reducible rfl)
  try simp only [Act.put, List.setIfInBounds_toArray, List.set_cons_zero, List.set_cons_succ]
  refine AnyL.take (i := 2) (v := ?vx3) (by rfl) (by kernel_rfl) (by kernel_rfl) (by kernel_rfl) rfl (by exact fun _ _ _ h => h) (by rfl) ?hyx3 (by exact ⟨X0.out, fun _ => trivial⟩) ?restx3
  case hyx3 => intro W hSW; (try dsimp only at hSW); first | (go_simp; done) | (go_simp; with_reducible rfl)
  try simp only [Act.put, List.setIfInBounds_toArray, List.set_cons_zero, List.set_cons_succ]
  refine AnyL.take (i := 3) (v := ?vx4) (by rfl) (by kernel_rfl) (by kernel_rfl) (by kernel_rfl) rfl (by exact fun _ _ _ h => h) (by rfl) ?hyx4 (by exact ⟨X0.out, fun _ => trivial⟩) ?restx4
  case hyx4 => intro W hSW; (try dsimp only at hSW); first | (go_simp; done) | (go_simp; with_reducible rfl)
  try simp only [Act.put, List.setIfInBounds_toArray, List.set_cons_zero, List.set_cons_succ]
  refine AnyL.take (i := 4) (v := ?vx5) (by rfl) (by kernel_rfl) (by kernel_rfl) (by kernel_rfl) rfl (by exact fun _ _ _ h => h) (by rfl) ?hyx5 (by exact ⟨X0.out, fun _ => trivial⟩) ?restx5
  case hyx5 => intro W hSW; (try dsimp only at hSW); first | (go_simp; done) | (go_simp; with_reducible rfl)
  try simp only [Act.put, List.setIfInBounds_toArray, List.set_cons_zero, List.set_cons_succ]
  refine AnyL.step (i := 5) (by kernel_rfl) (by rfl) (fun K hK => ?_)
  go_simp
  go_at_call 60
  with_reducible refine (HU.out _).mono ?_
  rintro e w2 ⟨tb, tc, rfl, hsg⟩
  have HS2 := Lib.hid (HSD.out.graft1 hsg OI_own)
  have X2 := Lib.hid (SX.out _ _ HS2.out.tl.tl)
  have HC := Lib.hid (HM.out _ w2 (show w.grownBy w2 none from HS2.out.tl.tl.tl.hd) (OwnInts.read (show OwnInts 0 w2 _ _ from HS2.out.hd)))
  clear hsg
  refine hK.out _ _ (by exact X2.out) (by exact fun _ => trivial) ?_
  clear hK K
  try simp only [Act.put, List.setIfInBounds_toArray, List.set_cons_zero, List.set_cons_succ]
  refine AnyL.step (i := 6) (by kernel_rfl) (by rfl) (fun K hK => ?_)
  go_simp
  go_at_call 59
  with_reducible refine HC.out.mono ?_
  rintro e w3 ⟨u0, xs, u1, u2, rfl, hxs, hsg⟩
  have HXS := Lib.hid hxs
  obtain ⟨s0, r0, rfl⟩ := OE.shape hsg.hd
  obtain ⟨s1, r1, rfl⟩ := own_shape hsg.tl.hd
  obtain ⟨s2, r2, rfl⟩ := own_shape hsg.tl.tl.hd
  have HSY := HS2
  have hs1 := (HSY.out.graft3 hsg OE_own OI_own OI_own).s5
  obtain ⟨y0, y1, y2, y3, z0, z1, z2, z3⟩ := bq4 hs1.hd
  have hs2 := (((hs1.setB 0 (.int .i64 m)).setB 1 (.slice s0 xs.length r0)).setB 2 (.slice s1 g.i.length r1)).setB 3 (.slice s2 g.o.length r2)
  obtain ⟨k0, k1, k2, k3, _⟩ := bq4 hs2.hd
  have X3 := Lib.hid (SX.out _ _ hs1.tl.tl.tl.tl.tl)
  have X4 := Lib.hid (SX.out _ _ hs2.tl.tl.tl.tl.tl)
  have HSF := Lib.hid (hs2.tl.under (fun h => h.under (fun h => h.under (fun h => h.tl.tl) (by simp +contextual)) (by simp +contextual)) (by simp +contextual))
  clear hsg hs1 hs2 hxs
  refine hK.out _ _ (by exact X3.out) (by exact fun _ => trivial) ?_
  clear hK K
  try simp only [Act.put, List.setIfInBounds_toArray, List.set_cons_zero, List.set_cons_succ]
  refine AnyL.step (i := 7) (by kernel_rfl) (by rfl) (fun K hK => ?_)
  go_simp
  refine hK.out _ _ (by exact X4.out) (by exact fun _ => trivial) ?_
  clear hK K
  try simp only [Act.put, List.setIfInBounds_toArray, List.set_cons_zero, List.set_cons_succ]
  refine AnyL.done (by kernel_rfl) ?_ _
  go_wp2_with fail
  refine bodyPost_ret_by (v := .agg #[.int .i64 m, .slice s0 xs.length r0, .slice s1 g.i.length r1, .slice s2 g.o.length r2]) ?_ rfl ⟨_, xs, _, _, rfl, HXS.out, HSF.out⟩
  simp [results, go_sem, *]
end Go.Proofs.YtlpgjnjhhgjkmaaDoor

/-
  Own copies of lists of graphs, in the program and in the reference. Conditions: the graphs are valid; at most 1,000 of them.
-/
namespace Go.Proofs.YtlpgjnjhhgjkmaaDoor
open Go.RowKit
set_option linter.unusedVariables false
set_option maxRecDepth 100000

theorem Sep.emptyG {w : World} {l : List Asrt} (h : Sep w l) : Sep (w.alloc (.cells #[] graphE.ty)) (OR graphE (.slice (some ⟨w.heap.size, 0, none⟩) 0 0) [] :: l) :=
  h.newR (grownBy_alloc w _ none) ⟨rfl, Or.inr ⟨w.heap.size, 0, #[], rfl, Nat.le_refl _, alloc_heap_new _ _, Nat.le_refl _, Nat.zero_le _, by simp, by simp⟩⟩
theorem graph_one (n : Int) (a1 : Option Addr) (n1 c1 : Nat) (xs : List XE) (a2 : Option Addr) (n2 c2 : Nat) (is : List Int) (a3 : Option Addr) (n3 c3 : Nat) (os : List Int) :
    ∀ u ∈ graphE.cs ⟨n, .slice a1 n1 c1, xs, .slice a2 n2 c2, is, .slice a3 n3 c3, os⟩, u.oneCell' = true := by
  intro u hu
  simp only [graphE, graphC, List.mem_cons, List.not_mem_nil, or_false] at hu
  rcases hu with rfl | rfl | rfl | rfl <;> rfl
theorem grs_snoc (ys : List XG) (y : XG) : grs (ys ++ [y]) = grs ys ++ [y.gr] := by simp [grs]
theorem take_snoc {gs : List Gr} {k : Nat} (hk : k < gs.length) : gs.take (k + 1) = gs.take k ++ [gs.getD k gr00] := by
  rw [List.take_succ_eq_append_getElem hk, List.getD_eq_getElem?_getD, List.getElem?_eq_getElem hk]; rfl
/-- A graph's three parts go into the bag; a box behind them is let go. -/
theorem Sep.graphIn {w : World} {X A B C D : Asrt} {L r : List Asrt} (h : Sep w (X :: A :: B :: C :: D :: Bag L :: r)) : Sep w (X :: Bag (L ++ [A, B, C]) :: r) :=
  (h.under (fun h => h.under (fun h => h.under (fun h => h.under (fun h => h.tl) (by simp +contextual)) (by simp +contextual)) (by simp +contextual)) (by simp +contextual)).bagThree
set_option maxHeartbeats 2000000 in
theorem copyGraphs_any (v : Value) (gs : List Gr) (w : World) (hv : RdGs graphE edgeE w v gs) (hg : ∀ g ∈ gs, grB g = true) (hl : gs.length ≤ 1000) :
    Calls Tryd.prog 44 #[v] w fun e w' => ∃ u ys, e = .returned u ∧ grs ys = gs ∧ Sep w' [OG u ys, KeepA w] := by
  have HV := Lib.hid hv; have HGB := Lib.hid hg
  obtain ⟨a, c, rfl⟩ := hv.shape
  clear hv hg
  generalize hn : gs.length = n at *
  have HN := Lib.hid hn
  clear hn
  have HS0 := Lib.hid (by simpa [rowsG] using ((Sep.start w).noBag.emptyG) : Sep (w.alloc (.cells #[] graphE.ty)) [OR graphE (.slice (some ⟨w.heap.size, 0, none⟩) 0 0) [], Bag (rowsG []), KeepA w])
  go_enter Tryd.func44, Tryd.ntmps44
  go_wp2_with fail
  go_loopw [3, 5, 9] (fun ov _ i wr => ∃ (k : Nat) (ys : List XG), k ≤ n ∧ i = .int .i64 k ∧ ys.length = k ∧ grs ys = gs.take k ∧ Sep wr [OR graphE ov ys, Bag (rowsG ys), KeepA w]) (fun _ _ i _ => n - (intOf i).toNat)
  case atStart => exact ⟨0, [], by omega, rfl, rfl, rfl, HS0.out⟩
  case round =>
    obtain ⟨k, ys, hk, rfl, hyl, hyg, hs⟩ := hrel
    have HYL := Lib.hid hyl; have HYG := Lib.hid hyg
    obtain ⟨oa, oc, rfl⟩ := OwnR.shape (show OwnR graphE 0 wr u3 ys from hs.hd)
    rw [hyl] at hs ⊢
    have HSX := Lib.hid hs
    clear hs hyl hyg HS0
    by_cases hlt : k < n
    · have hkx : k < gs.length := by rw [HN.out]; exact hlt
      obtain ⟨b, o, ev, iv, ov, rfl, hat⟩ := HV.out.atK rfl rfl hkx
      obtain ⟨⟨q0, q1, q2, q3⟩, he, hi, ho⟩ := hat wr HSX.out.tl.tl.hd
      have HTK := Lib.hid (take_snoc hkx)
      have HGY := Lib.hid (HGB.out _ (getD_mem (d := gr00) hkx))
      generalize gs.getD k gr00 = y at *
      obtain ⟨b1, d1, rfl⟩ := he.shape
      obtain ⟨b2, d2, rfl⟩ := hi.shape
      obtain ⟨b3, d3, rfl⟩ := ho.shape
      have HSB := Lib.hid (HSX.out.box #[.int .i64 y.n, .slice b1 y.es.length d1, .slice b2 y.i.length d2, .slice b3 y.o.length d3] 34)
      have hgb := gr1 wr (.cells #[.int .i64 y.n, .slice b1 y.es.length d1, .slice b2 y.i.length d2, .slice b3 y.o.length d3] 34)
      have HC := Lib.hid (gcopy_any _ _ _ y _ (he.carry hgb) (hi.carry hgb) (ho.carry hgb) HGY.out)
      unfold OwnG grV at HC
      clear he hi ho hat hkx hgb
      obtain ⟨yn, ye, yi, yo⟩ := y
      simp only at q0 q1 q2 q3 HC HSB HTK HGY
      generalize ye.length = l1 at *
      generalize hl2 : yi.length = l2 at *
      generalize hl3 : yo.length = l3 at *
      have HL2 := Lib.hid hl2; have HL3 := Lib.hid hl3
      clear hl2 hl3
      go_wp2_with (first
        | (go_at_call 45
           with_reducible refine HC.out.mono ?_
           rintro e w2 ⟨u0, xs, u1, u2, rfl, hxs, hsg⟩
           have HXS := Lib.hid hxs
           obtain ⟨s0, r0, rfl⟩ := OE.shape hsg.hd
           obtain ⟨s1, r1, rfl⟩ := own_shape (show OwnInts 0 w2 u1 yi from hsg.tl.hd)
           obtain ⟨s2, r2, rfl⟩ := own_shape (show OwnInts 0 w2 u2 yo from hsg.tl.tl.hd)
           have hs2 := (HSB.out.graft3 hsg OE_own OI_own OI_own).s5
           have HS2 := Lib.hid hs2
           clear hsg hs2 hxs)
        | (refine app_RB (E := graphE) (y := ⟨yn, .slice s0 xs.length r0, xs, .slice s1 yi.length r1, yi, .slice s2 yo.length r2, yo⟩) info_graph rfl (by decide) Tryd.underlying31 (graph_one _ _ _ _ _ _ _ _ _ _ _ _ _) rfl (.tmp 13) (.tmp 16) rfl rfl rfl rfl rfl HS2.out (by rw [HYL.out]; omega) ?_
           intro g c w4 h4
           rw [HYL.out] at h4 ⊢
           have h5 := h4.graphIn
           rw [← rowsG_snoc ys ⟨yn, .slice s0 xs.length r0, xs, .slice s1 yi.length r1, yi, .slice s2 yo.length r2, yo⟩] at h5
           have HS5 := Lib.hid h5
           clear h4 h5))
      go_roundw
      case rel => exact ⟨k + 1, ys ++ [(⟨yn, .slice s0 xs.length r0, xs, .slice s1 yi.length r1, yi, .slice s2 yo.length r2, yo⟩ : XG)], by omega, by go_num, by rw [List.length_append, HYL.out]; rfl, by rw [grs_snoc, HYG.out, HTK.out]; unfold XG.gr; rw [HXS.out], HS5.out⟩
      case measure => simp [intOf]; omega
    · have hkn : k = n := by omega
      subst hkn
      have hyg := HYG.out
      rw [List.take_of_length_le (by rw [HN.out]; exact Nat.le_refl _)] at hyg
      have HF := Lib.hid HSX.out.intoBag
      have HYF := Lib.hid hyg
      clear hlt hyg
      go_wp2
      go_ret
      exact ⟨_, ys, rfl, HYF.out, HF.out⟩
set_option maxHeartbeats 2000000 in
theorem snGraphs_any (v : Value) (gs : List Gr) (w : World) (hv : RdGs graphE edgeE w v gs) (hg : ∀ g ∈ gs, grB g = true) (hl : gs.length ≤ 1000) :
    Calls Tryd.prog 23 #[v] w fun e w' => ∃ u ys, e = .returned u ∧ grs ys = gs ∧ Sep w' [OG u ys, KeepA w] := by
  have HV := Lib.hid hv; have HGB := Lib.hid hg
  obtain ⟨a, c, rfl⟩ := hv.shape
  clear hv hg
  generalize hn : gs.length = n at *
  have HN := Lib.hid hn
  clear hn
  have HS0 := Lib.hid (by simpa [rowsG, nilS] using ((Sep.start w).noBag.nilR graphE) : Sep w [OR graphE (.slice none 0 0) [], Bag (rowsG []), KeepA w])
  go_enter Tryd.func23, Tryd.ntmps23
  go_wp2_with fail
  go_loopw [3, 5, 8] (fun ov _ i wr => ∃ (k : Nat) (ys : List XG), k ≤ n ∧ i = .int .i64 k ∧ ys.length = k ∧ grs ys = gs.take k ∧ Sep wr [OR graphE ov ys, Bag (rowsG ys), KeepA w]) (fun _ _ i _ => n - (intOf i).toNat)
  case atStart => exact ⟨0, [], by omega, rfl, rfl, rfl, HS0.out⟩
  case round =>
    obtain ⟨k, ys, hk, rfl, hyl, hyg, hs⟩ := hrel
    have HYL := Lib.hid hyl; have HYG := Lib.hid hyg
    obtain ⟨oa, oc, rfl⟩ := OwnR.shape (show OwnR graphE 0 wr u3 ys from hs.hd)
    rw [hyl] at hs ⊢
    have HSX := Lib.hid hs
    clear hs hyl hyg HS0
    by_cases hlt : k < n
    · have hkx : k < gs.length := by rw [HN.out]; exact hlt
      obtain ⟨b, o, ev, iv, ov, rfl, hat⟩ := HV.out.atK rfl rfl hkx
      obtain ⟨⟨q0, q1, q2, q3⟩, he, hi, ho⟩ := hat wr HSX.out.tl.tl.hd
      have HTK := Lib.hid (take_snoc hkx)
      have HGY := Lib.hid (HGB.out _ (getD_mem (d := gr00) hkx))
      generalize gs.getD k gr00 = y at *
      obtain ⟨b1, d1, rfl⟩ := he.shape
      obtain ⟨b2, d2, rfl⟩ := hi.shape
      obtain ⟨b3, d3, rfl⟩ := ho.shape
      have HSB := Lib.hid (HSX.out.box #[.int .i64 y.n, .slice b1 y.es.length d1, .slice b2 y.i.length d2, .slice b3 y.o.length d3] 34)
      have hgb := gr1 wr (.cells #[.int .i64 y.n, .slice b1 y.es.length d1, .slice b2 y.i.length d2, .slice b3 y.o.length d3] 34)
      have HC := Lib.hid (hgOwn_any _ _ _ y _ (he.carry hgb) (hi.carry hgb) (ho.carry hgb) HGY.out)
      unfold OwnG grV at HC
      clear he hi ho hat hkx hgb
      obtain ⟨yn, ye, yi, yo⟩ := y
      simp only at q0 q1 q2 q3 HC HSB HTK HGY
      generalize ye.length = l1 at *
      generalize hl2 : yi.length = l2 at *
      generalize hl3 : yo.length = l3 at *
      have HL2 := Lib.hid hl2; have HL3 := Lib.hid hl3
      clear hl2 hl3
      go_wp2_with (first
        | (go_at_call 24
           with_reducible refine HC.out.mono ?_
           rintro e w2 ⟨u0, xs, u1, u2, rfl, hxs, hsg⟩
           have HXS := Lib.hid hxs
           obtain ⟨s0, r0, rfl⟩ := OE.shape hsg.hd
           obtain ⟨s1, r1, rfl⟩ := own_shape (show OwnInts 0 w2 u1 yi from hsg.tl.hd)
           obtain ⟨s2, r2, rfl⟩ := own_shape (show OwnInts 0 w2 u2 yo from hsg.tl.tl.hd)
           have hs2 := (HSB.out.graft3 hsg OE_own OI_own OI_own).s5
           have HS2 := Lib.hid hs2
           clear hsg hs2 hxs)
        | (refine app_RB (E := graphE) (y := ⟨yn, .slice s0 xs.length r0, xs, .slice s1 yi.length r1, yi, .slice s2 yo.length r2, yo⟩) info_graph rfl (by decide) Tryd.underlying31 (graph_one _ _ _ _ _ _ _ _ _ _ _ _ _) rfl (.tmp 12) (.tmp 15) rfl rfl rfl rfl rfl HS2.out (by rw [HYL.out]; omega) ?_
           intro g c w4 h4
           rw [HYL.out] at h4 ⊢
           have h5 := h4.graphIn
           rw [← rowsG_snoc ys ⟨yn, .slice s0 xs.length r0, xs, .slice s1 yi.length r1, yi, .slice s2 yo.length r2, yo⟩] at h5
           have HS5 := Lib.hid h5
           clear h4 h5))
      go_roundw
      case rel => exact ⟨k + 1, ys ++ [(⟨yn, .slice s0 xs.length r0, xs, .slice s1 yi.length r1, yi, .slice s2 yo.length r2, yo⟩ : XG)], by omega, by go_num, by rw [List.length_append, HYL.out]; rfl, by rw [grs_snoc, HYG.out, HTK.out]; unfold XG.gr; rw [HXS.out], HS5.out⟩
      case measure => simp [intOf]; omega
    · have hkn : k = n := by omega
      subst hkn
      have hyg := HYG.out
      rw [List.take_of_length_le (by rw [HN.out]; exact Nat.le_refl _)] at hyg
      have HF := Lib.hid HSX.out.intoBag
      have HYF := Lib.hid hyg
      clear hlt hyg
      go_wp2
      go_ret
      exact ⟨_, ys, rfl, HYF.out, HF.out⟩
end Go.Proofs.YtlpgjnjhhgjkmaaDoor

/-
  Is a graph monogamous, in the reference. Conditions: the graph is valid; lengths are small.
-/
namespace Go.Proofs.YtlpgjnjhhgjkmaaDoor
open Go.RowKit
set_option linter.unusedVariables false
set_option maxRecDepth 100000

theorem cnt_perm {P : List Int} {m : Nat} (hr : ∀ x ∈ P, 0 ≤ x ∧ x < (m : Int)) : ((cntL m P).all fun n => decide (1 ≤ n ∧ n ≤ 1)) = permB P m := by
  have h := perm_count hr
  have hb : rngB m P = true := rngB_iff.2 hr
  rw [Bool.eq_iff_iff]
  unfold permB cntL
  rw [hb]
  simp only [List.all_eq_true, List.mem_map, List.mem_range, Bool.and_eq_true, decide_eq_true_iff]
  constructor
  · intro hh
    have := h.2 (fun w hw => by
      have := hh ((P.count (w : Int) : Nat) : Int) ⟨w, hw, rfl⟩
      omega)
    exact ⟨⟨by omega, trivial⟩, this.2⟩
  · rintro ⟨⟨h1, _⟩, h2⟩ x ⟨w, hw, rfl⟩
    have := h.1 ⟨by omega, h2⟩ w hw
    omega
theorem wires_len {g : Gr} (h1 : g.es.length ≤ 60) (h2 : ∀ e ∈ g.es, e.i.length ≤ 2 ∧ e.o.length ≤ 2) : (outE g.es).length ≤ 120 ∧ (inE g.es).length ≤ 120 := by
  have a := flat_small (fun e => e.o) g.es (fun e he => (h2 e he).2)
  have b := flat_small (fun e => e.i) g.es (fun e he => (h2 e he).1)
  unfold outE inE
  omega
theorem hgMono_any (ev iv ov : Value) (g : Gr) (w : World) (he : RdE edgeE w ev g.es) (hi : IntsV w iv g.i) (ho : IntsV w ov g.o) (hg : grB g = true) :
    Calls Tryd.prog 50 #[grV g.n ev iv ov] w fun e w' => e = .returned (.bool (monB g)) ∧ w.grownBy w' none := by
  obtain ⟨m, hm, hm1, hg1, hg2, hg3, hg4, hg5, _⟩ := grB_n hg
  have hw := wires_len hg1 hg5
  have HCN := Lib.hid fun W (h : w.grownBy W none) => hgCounts_any ev iv ov g m W (he.carry h) (hi.carry h) (ho.carry h) hm (by omega) hg4 (by omega) (by omega) (by omega) (by omega) (by omega)
  have hfr : ∀ x ∈ fromL g, 0 ≤ x ∧ x < (m : Int) := fun x hx => by rw [← hm]; exact rngB_iff.1 hg4 x (mem_wires.2 (Or.inl hx))
  have hto : ∀ x ∈ toL g, 0 ≤ x ∧ x < (m : Int) := fun x hx => by rw [← hm]; exact rngB_iff.1 hg4 x (mem_wires.2 (Or.inr hx))
  have HLA := Lib.hid fun v W (h : IntsV W v (cntL m (fromL g))) => l1All_any 1 1 v _ W h (by rw [cntL_len]; omega)
  have HLB := Lib.hid fun v W (h : IntsV W v (cntL m (toL g))) => l1All_any 1 1 v _ W h (by rw [cntL_len]; omega)
  rw [cnt_perm hfr] at HLA
  rw [cnt_perm hto] at HLB
  rw [show monB g = (permB (fromL g) m && permB (toL g) m) by unfold monB; rw [hm]]
  generalize permB (fromL g) m = b1 at *
  generalize permB (toL g) m = b2 at *
  generalize cntL m (fromL g) = q1 at *
  generalize cntL m (toL g) = q2 at *
  unfold grV at *
  obtain ⟨ea, ec, rfl⟩ := he.shape
  obtain ⟨ia, ic, rfl⟩ := hi.shape
  obtain ⟨oa, oc, rfl⟩ := ho.shape
  clear he hi ho hg hfr hto hg1 hg2 hg3 hg4 hg5 hw hm
  generalize g.n = n at *
  generalize g.es.length = m0 at *
  generalize g.i.length = m1 at *
  generalize g.o.length = m2 at *
  have HK0 := Lib.hid fun o => gr1 w o
  cases b1
  · go_enter Tryd.func50, Tryd.ntmps50
    go_wp2_with (first
      | (go_at_call 62
         with_reducible refine (HCN.out _ (HK0.out _)).mono ?_
         rintro e w2 ⟨v1, v2, rfl, hs⟩
         have H1 := Lib.hid (HLA.out v1 w2 (OwnInts.read (show OwnInts 0 w2 v1 _ from hs.hd)))
         have H2 := Lib.hid (HLB.out v2 w2 (OwnInts.read (show OwnInts 0 w2 v2 _ from hs.tl.hd)))
         obtain ⟨s1, r1, rfl⟩ := own_shape (show OwnInts 0 w2 v1 _ from hs.hd)
         obtain ⟨s2, r2, rfl⟩ := own_shape (show OwnInts 0 w2 v2 _ from hs.tl.hd)
         have HK := Lib.hid (grownBy_trans (HK0.out _) hs.tl.tl.hd)
         clear hs)
      | (go_at_call 63; with_reducible refine H1.out.mono ?_; rintro e w3 ⟨rfl, rfl⟩))
    go_ret
    exact ⟨rfl, HK.out⟩
  · go_enter Tryd.func50, Tryd.ntmps50
    go_wp2_with (first
      | (go_at_call 62
         with_reducible refine (HCN.out _ (HK0.out _)).mono ?_
         rintro e w2 ⟨v1, v2, rfl, hs⟩
         have H1 := Lib.hid (HLA.out v1 w2 (OwnInts.read (show OwnInts 0 w2 v1 _ from hs.hd)))
         have H2 := Lib.hid (HLB.out v2 w2 (OwnInts.read (show OwnInts 0 w2 v2 _ from hs.tl.hd)))
         obtain ⟨s1, r1, rfl⟩ := own_shape (show OwnInts 0 w2 v1 _ from hs.hd)
         obtain ⟨s2, r2, rfl⟩ := own_shape (show OwnInts 0 w2 v2 _ from hs.tl.hd)
         have HK := Lib.hid (grownBy_trans (HK0.out _) hs.tl.tl.hd)
         clear hs)
      | (go_at_call 63; with_reducible refine H1.out.mono ?_; rintro e w3 ⟨rfl, rfl⟩)
      | (go_at_call 63; with_reducible refine H2.out.mono ?_; rintro e w4 ⟨rfl, rfl⟩))
    go_ret
    exact ⟨rfl, HK.out⟩
end Go.Proofs.YtlpgjnjhhgjkmaaDoor

/-
  Are numbers elements of a field. Conditions: the table of small primes holds what its text lays.
-/
namespace Go.Proofs.YtlpgjnjhhgjkmaaDoor
open Go.RowKit
set_option linter.unusedVariables false
set_option maxRecDepth 100000

set_option maxHeartbeats 1000000 in
theorem areElements_any (p : Int) (v : Value) (zs : List Int) (w : World) (ht : Tab w) (hv : IntsV w v zs) (hl : zs.length ≤ 1000) :
    Calls Tryd.prog 37 #[.int .i64 p, v] w fun e w' => e = .returned (.bool (fldB p && zs.all (elB p))) ∧ w' = w := by
  have HF := Lib.hid (isField_any p w ht)
  have HV := Lib.hid hv
  obtain ⟨a, c, rfl⟩ := hv.shape
  clear hv ht
  generalize hn : zs.length = n at *
  have HN := Lib.hid hn
  clear hn
  cases hf : fldB p
  · rw [hf] at HF
    have HB := Lib.hid hf
    clear hf
    go_enter Tryd.func37, Tryd.ntmps37
    go_wp2_with (go_at_call 52; with_reducible refine HF.out.mono ?_; rintro e w3 ⟨rfl, rfl⟩)
    go_ret
    exact ⟨rfl, rfl⟩
  · rw [hf] at HF
    have HB := Lib.hid hf
    clear hf
    go_enter Tryd.func37, Tryd.ntmps37
    go_wp2_with (go_at_call 52; with_reducible refine HF.out.mono ?_; rintro e w3 ⟨rfl, rfl⟩)
    go_loopw [6, 12] (fun _ i wr => ∃ k : Nat, k ≤ n ∧ i = .int .i64 k ∧ (zs.take k).all (elB p) = true ∧ wr = w) (fun _ i _ => n - (intOf i).toNat)
    case atStart => exact ⟨0, by omega, rfl, by simp, rfl⟩
    case round =>
      obtain ⟨k, hk, rfl, ha, hwr⟩ := hrel
      subst hwr
      have HA := Lib.hid ha
      clear ha
      by_cases hlt : k < n
      · have hkx : k < zs.length := by rw [HN.out]; exact hlt
        obtain ⟨b, o, rfl⟩ := IntsV.addr HV.out (by omega)
        have hc0 := HV.out.cellN hkx
        have htk : (zs.take (k + 1)).all (elB p) = ((zs.take k).all (elB p) && elB p (zs.getD k 0)) := by
          rw [List.take_succ_eq_append_getElem hkx, List.all_append, List.getD_eq_getElem?_getD, List.getElem?_eq_getElem hkx]; simp
        have hbad : elB p (zs.getD k 0) = false → zs.all (elB p) = false := fun h => by
          cases hb : zs.all (elB p)
          · rfl
          · have := List.all_eq_true.1 hb _ (getD_mem (d := 0) hkx)
            rw [h] at this
            cases this
        have HTK := Lib.hid htk; have HBD := Lib.hid hbad
        generalize zs.getD k 0 = x at *
        have HE := Lib.hid fun W => isElement_any p x W
        clear htk hbad hkx
        cases hx : elB p x
        · rw [hx] at HE
          have HR := Lib.hid (HBD.out hx)
          clear hx
          go_wp2_with (go_at_call 53; with_reducible refine (HE.out _).mono ?_; rintro e w3 ⟨rfl, rfl⟩)
          go_ret
          exact ⟨by rw [HR.out]; rfl, rfl⟩
        · rw [hx] at HE
          have HR := Lib.hid (show (zs.take (k + 1)).all (elB p) = true by rw [HTK.out, HA.out, hx]; rfl)
          clear hx
          go_wp2_with (go_at_call 53; with_reducible refine (HE.out _).mono ?_; rintro e w3 ⟨rfl, rfl⟩)
          go_roundw
          case rel => exact ⟨k + 1, by omega, by go_num, HR.out, by trivial⟩
          case measure => simp [intOf]; omega
      · have hkn : k = n := by omega
        subst hkn
        have ha := HA.out
        rw [List.take_of_length_le (by rw [HN.out]; exact Nat.le_refl _)] at ha
        have HR := Lib.hid ha
        clear ha hlt
        go_wp2
        go_ret
        exact ⟨by rw [HR.out]; rfl, rfl⟩
theorem fdTwo_any (p a b : Int) (w : World) : Calls Tryd.prog 33 #[.int .i64 p, .int .i64 a, .int .i64 b] w fun e w' => e = .returned (.bool (fldB p && (elB p a && elB p b))) ∧ w' = w := by
  have HF := Lib.hid (fdGood_any p w)
  cases hf : fldB p
  · rw [hf] at HF
    clear hf
    go_enter Tryd.func33, Tryd.ntmps33
    go_wp2_with (go_at_call 47; with_reducible refine HF.out.mono ?_; rintro e w3 ⟨rfl, rfl⟩)
    go_ret
    exact ⟨rfl, rfl⟩
  · rw [hf] at HF
    have hp : 2 ≤ p ∧ p ≤ 97 := by unfold fldB at hf; rw [decide_eq_true_iff] at hf; exact ⟨hf.1, hf.2.1⟩
    have hw : IntKind.i64.wrap (p - 1) = p - 1 := by rw [IntKind.wrap_i64]; omega
    have he : ∀ x, decide (0 ≤ x ∧ x ≤ p - 1) = elB p x := fun x => by
      unfold elB
      rw [decide_eq_decide]
      omega
    have HA := Lib.hid fun W => l1In_any a 0 (p - 1) W
    have HB := Lib.hid fun W => l1In_any b 0 (p - 1) W
    rw [he] at HA HB
    clear hf hp he
    cases ha : elB p a
    · rw [ha] at HA
      clear ha
      go_enter Tryd.func33, Tryd.ntmps33
      go_wp2_with (first
        | (go_at_call 47; with_reducible refine HF.out.mono ?_; rintro e w3 ⟨rfl, rfl⟩)
        | (go_at_call 48; with_reducible refine (HA.out _).mono ?_; rintro e w3 ⟨rfl, rfl⟩))
      go_ret
      exact ⟨rfl, rfl⟩
    · rw [ha] at HA
      clear ha
      generalize elB p b = y at *
      go_enter Tryd.func33, Tryd.ntmps33
      go_wp2_with (first
        | (go_at_call 47; with_reducible refine HF.out.mono ?_; rintro e w3 ⟨rfl, rfl⟩)
        | (go_at_call 48; with_reducible refine (HA.out _).mono ?_; rintro e w3 ⟨rfl, rfl⟩)
        | (go_at_call 48; with_reducible refine (HB.out _).mono ?_; rintro e w3 ⟨rfl, rfl⟩))
      go_ret
      exact ⟨rfl, rfl⟩
end Go.Proofs.YtlpgjnjhhgjkmaaDoor

/-
  Is it a graph over a field. Conditions: the table of small primes holds what its text lays; lengths are small.
-/
namespace Go.Proofs.YtlpgjnjhhgjkmaaDoor
open Go.RowKit
set_option linter.unusedVariables false
set_option maxRecDepth 100000

def vB (p : Int) (e : Ed) : Bool := decide (e.v < p)
/-- Is it a graph over a field? -/
def ovB (p : Int) (g : Gr) : Bool := fldB p && (grB g && g.es.all (vB p))
theorem vall_take {p : Int} {es : List Ed} {k : Nat} (hk : k < es.length) : (es.take (k + 1)).all (vB p) = ((es.take k).all (vB p) && vB p (es.getD k e0)) := by
  rw [List.take_succ_eq_append_getElem hk, List.all_append, List.getD_eq_getElem?_getD, List.getElem?_eq_getElem hk]; simp
theorem vall_bad {p : Int} {es : List Ed} {k : Nat} (hk : k < es.length) (h : vB p (es.getD k e0) = false) : es.all (vB p) = false := by
  cases hb : es.all (vB p)
  · rfl
  · have := List.all_eq_true.1 hb _ (getD_mem (d := e0) hk)
    rw [h] at this
    cases this
theorem edB_v {e : Ed} (h : edB e = true) (hv : hvB e.k = false) : e.v = 0 := by
  unfold edB at h
  simp only [Bool.and_eq_true] at h
  have h2 := h.1.2
  rw [valB_hv, hv] at h2
  simpa using h2
set_option maxHeartbeats 2000000 in
theorem isGraphOver_any (p : Int) (ev iv ov : Value) (g : Gr) (w : World) (ht : Tab w) (he : RdE edgeE w ev g.es) (hi : IntsV w iv g.i) (ho : IntsV w ov g.o) (l0 : g.es.length ≤ 2000000) (l1 : g.i.length ≤ 2000000) (l2 : g.o.length ≤ 2000000) :
    Calls Tryd.prog 39 #[.int .i64 p, grV g.n ev iv ov] w fun e w' => e = .returned (.bool (ovB p g)) ∧ w.grownBy w' none := by
  have HF := Lib.hid fun W (h : w.grownBy W none) => isField_any p W (ht.grown h)
  have HIG := Lib.hid fun W (h : w.grownBy W none) => isGraph_any ev iv ov g W (he.carry h) (hi.carry h) (ho.carry h) l0 l1 l2
  have HE := Lib.hid he
  unfold grV at *
  obtain ⟨ea, ec, rfl⟩ := he.shape
  obtain ⟨ia, ic, rfl⟩ := hi.shape
  obtain ⟨oa, oc, rfl⟩ := ho.shape
  clear he hi ho l0 l1 l2
  have HS0 := Lib.hid ((Sep.start w).box #[.int .i64 g.n, .slice ea g.es.length ec, .slice ia g.i.length ic, .slice oa g.o.length oc] 34)
  have HK0 := Lib.hid (show w.grownBy _ none from HS0.out.tl.hd)
  unfold ovB
  cases hf : fldB p
  · rw [hf] at HF
    clear hf
    generalize g.es.length = m0 at *
    generalize g.i.length = m1 at *
    generalize g.o.length = m2 at *
    generalize g.n = n at *
    go_enter Tryd.func39, Tryd.ntmps39
    go_wp2_with (go_at_call 52; with_reducible refine (HF.out _ HK0.out).mono ?_; rintro e w3 ⟨rfl, rfl⟩)
    go_ret
    exact ⟨rfl, HK0.out⟩
  · rw [hf] at HF
    cases hb : grB g
    · rw [hb] at HIG
      clear hb
      generalize g.es.length = m0 at *
      generalize g.i.length = m1 at *
      generalize g.o.length = m2 at *
      generalize g.n = n at *
      go_enter Tryd.func39, Tryd.ntmps39
      go_wp2_with (first
        | (go_at_call 52; with_reducible refine (HF.out _ HK0.out).mono ?_; rintro e w3 ⟨rfl, rfl⟩)
        | (go_at_call 54
           with_reducible refine (HIG.out _ HK0.out).mono ?_
           rintro e w4 ⟨rfl, hg⟩
           have HK4 := Lib.hid (grownBy_trans HK0.out hg)
           clear hg))
      go_ret
      exact ⟨rfl, HK4.out⟩
    · rw [hb] at HIG
      have HP := Lib.hid (show 2 ≤ p by unfold fldB at hf; rw [decide_eq_true_iff] at hf; exact hf.1)
      obtain ⟨m, hm, hm1, hg1, hg2, hg3, hg4, hg5, hg6⟩ := grB_n hb
      have HG6 := Lib.hid hg6
      obtain ⟨gn, es, is, os⟩ := g
      simp only at HIG HS0 HK0 HG6 HE hg1 ⊢
      clear hf hb hm hm1 hg2 hg3 hg4 hg5 hg6
      generalize hes : es.length = m0 at *
      have HM0 := Lib.hid hes
      generalize is.length = m1 at *
      generalize os.length = m2 at *
      clear hes
      go_enter Tryd.func39, Tryd.ntmps39
      go_wp2_with (first
        | (go_at_call 52; with_reducible refine (HF.out _ HK0.out).mono ?_; rintro e w3 ⟨rfl, rfl⟩)
        | (go_at_call 54
           with_reducible refine (HIG.out _ HK0.out).mono ?_
           rintro e w4 ⟨rfl, hg⟩
           have hs4 := HS0.out.grown hg
           obtain ⟨x0, x1, x2, x3, _⟩ := bq4 hs4.hd
           have HK4 := Lib.hid (show w.grownBy w4 none from hs4.tl.hd)
           clear hg hs4))
      go_loopw [6, 18] (fun _ i wr => ∃ k : Nat, k ≤ m0 ∧ i = .int .i64 k ∧ (es.take k).all (vB p) = true ∧ w.grownBy wr none) (fun _ i _ => m0 - (intOf i).toNat)
      case atStart => exact ⟨0, by omega, rfl, by simp, HK4.out⟩
      case round =>
        obtain ⟨k, hk, rfl, ha, hg⟩ := hrel
        have HA := Lib.hid ha; have HG := Lib.hid hg
        clear ha hg x0 x1 x2 x3
        by_cases hlt : k < m0
        · have hke : k < es.length := by rw [HM0.out]; exact hlt
          obtain ⟨eb, eo, u1, u2, rfl, hat⟩ := HE.out.atK rfl rfl hke
          obtain ⟨⟨q0, q1, q2, q3⟩, hi, ho⟩ := hat wr HG.out
          have HTK := Lib.hid (vall_take (p := p) hke)
          have HBD := Lib.hid (vall_bad (p := p) hke)
          have HED := Lib.hid (List.all_eq_true.1 HG6.out _ (getD_mem (d := e0) hke))
          generalize es.getD k e0 = y at *
          obtain ⟨yk, yv, yi, yo⟩ := y
          simp only at q0 q1 q2 q3 hi ho
          obtain ⟨s1, r1, rfl⟩ := hi.shape
          obtain ⟨s2, r2, rfl⟩ := ho.shape
          clear hi ho hat hke
          generalize yi.length = n1 at *
          generalize yo.length = n2 at *
          have HK5 := Lib.hid fun o => grownBy_trans HG.out (gr1 wr o)
          have HH := Lib.hid fun W => hasValue_any yk W
          cases hh : hvB yk
          · rw [hh] at HH
            have HN := Lib.hid (show (es.take (k + 1)).all (vB p) = true by
              rw [HTK.out, HA.out, show vB p ⟨yk, yv, yi, yo⟩ = true from decide_eq_true (by have h0 := edB_v HED.out hh; have := HP.out; simp only at h0; show yv < p; omega)]
              rfl)
            clear hh
            go_wp2_with (go_at_call 55; with_reducible refine (HH.out _).mono ?_; rintro e w5 ⟨rfl, rfl⟩)
            go_roundw
            case rel => exact ⟨k + 1, by omega, by go_num, HN.out, HK5.out _⟩
            case measure => simp [intOf]; omega
          · rw [hh] at HH
            clear hh
            by_cases hv : yv < p
            · have HN := Lib.hid (show (es.take (k + 1)).all (vB p) = true by
                rw [HTK.out, HA.out, show vB p ⟨yk, yv, yi, yo⟩ = true from decide_eq_true hv]
                rfl)
              have hv1 : ¬ p ≤ yv := by omega
              go_wp2_with (go_at_call 55; with_reducible refine (HH.out _).mono ?_; rintro e w5 ⟨rfl, rfl⟩)
              go_roundw
              case rel => exact ⟨k + 1, by omega, by go_num, HN.out, HK5.out _⟩
              case measure => simp [intOf]; omega
            · have HR := Lib.hid (HBD.out (show vB p ⟨yk, yv, yi, yo⟩ = false from decide_eq_false hv))
              have hv1 : p ≤ yv := by omega
              go_wp2_with (go_at_call 55; with_reducible refine (HH.out _).mono ?_; rintro e w5 ⟨rfl, rfl⟩)
              go_ret
              exact ⟨by rw [HR.out]; simp, HK5.out _⟩
        · have hkm : k = m0 := by omega
          subst hkm
          have ha := HA.out
          rw [List.take_of_length_le (by rw [HM0.out]; exact Nat.le_refl _)] at ha
          have HR := Lib.hid ha
          clear ha hlt
          go_wp2
          go_ret
          exact ⟨by rw [HR.out]; rfl, HG.out⟩
set_option maxHeartbeats 2000000 in
theorem hgGood_any (p : Int) (ev iv ov : Value) (g : Gr) (w : World) (he : RdE edgeE w ev g.es) (hi : IntsV w iv g.i) (ho : IntsV w ov g.o) (l0 : g.es.length ≤ 2000000) (l1 : g.i.length ≤ 2000000) (l2 : g.o.length ≤ 2000000) :
    Calls Tryd.prog 49 #[.int .i64 p, grV g.n ev iv ov] w fun e w' => e = .returned (.bool (ovB p g)) ∧ w.grownBy w' none := by
  have HF := Lib.hid fun W (h : w.grownBy W none) => fdGood_any p W
  have HIG := Lib.hid fun W (h : w.grownBy W none) => hgValid_any ev iv ov g W (he.carry h) (hi.carry h) (ho.carry h) l0 l1 l2
  have HE := Lib.hid he
  unfold grV at *
  obtain ⟨ea, ec, rfl⟩ := he.shape
  obtain ⟨ia, ic, rfl⟩ := hi.shape
  obtain ⟨oa, oc, rfl⟩ := ho.shape
  clear he hi ho l0 l1 l2
  have HS0 := Lib.hid ((Sep.start w).box #[.int .i64 g.n, .slice ea g.es.length ec, .slice ia g.i.length ic, .slice oa g.o.length oc] 34)
  have HK0 := Lib.hid (show w.grownBy _ none from HS0.out.tl.hd)
  unfold ovB
  cases hf : fldB p
  · rw [hf] at HF
    clear hf
    generalize g.es.length = m0 at *
    generalize g.i.length = m1 at *
    generalize g.o.length = m2 at *
    generalize g.n = n at *
    go_enter Tryd.func49, Tryd.ntmps49
    go_wp2_with (go_at_call 47; with_reducible refine (HF.out _ HK0.out).mono ?_; rintro e w3 ⟨rfl, rfl⟩)
    go_ret
    exact ⟨rfl, HK0.out⟩
  · rw [hf] at HF
    cases hb : grB g
    · rw [hb] at HIG
      clear hb
      generalize g.es.length = m0 at *
      generalize g.i.length = m1 at *
      generalize g.o.length = m2 at *
      generalize g.n = n at *
      go_enter Tryd.func49, Tryd.ntmps49
      go_wp2_with (first
        | (go_at_call 47; with_reducible refine (HF.out _ HK0.out).mono ?_; rintro e w3 ⟨rfl, rfl⟩)
        | (go_at_call 61
           with_reducible refine (HIG.out _ HK0.out).mono ?_
           rintro e w4 ⟨rfl, hg⟩
           have HK4 := Lib.hid (grownBy_trans HK0.out hg)
           clear hg))
      go_ret
      exact ⟨rfl, HK4.out⟩
    · rw [hb] at HIG
      have HP := Lib.hid (show 2 ≤ p by unfold fldB at hf; rw [decide_eq_true_iff] at hf; exact hf.1)
      obtain ⟨m, hm, hm1, hg1, hg2, hg3, hg4, hg5, hg6⟩ := grB_n hb
      have HG6 := Lib.hid hg6
      obtain ⟨gn, es, is, os⟩ := g
      simp only at HIG HS0 HK0 HG6 HE hg1 ⊢
      clear hf hb hm hm1 hg2 hg3 hg4 hg5 hg6
      generalize hes : es.length = m0 at *
      have HM0 := Lib.hid hes
      generalize is.length = m1 at *
      generalize os.length = m2 at *
      clear hes
      go_enter Tryd.func49, Tryd.ntmps49
      go_wp2_with (first
        | (go_at_call 47; with_reducible refine (HF.out _ HK0.out).mono ?_; rintro e w3 ⟨rfl, rfl⟩)
        | (go_at_call 61
           with_reducible refine (HIG.out _ HK0.out).mono ?_
           rintro e w4 ⟨rfl, hg⟩
           have hs4 := HS0.out.grown hg
           obtain ⟨x0, x1, x2, x3, _⟩ := bq4 hs4.hd
           have HK4 := Lib.hid (show w.grownBy w4 none from hs4.tl.hd)
           clear hg hs4))
      go_loopw [6, 18] (fun _ i wr => ∃ k : Nat, k ≤ m0 ∧ i = .int .i64 k ∧ (es.take k).all (vB p) = true ∧ w.grownBy wr none) (fun _ i _ => m0 - (intOf i).toNat)
      case atStart => exact ⟨0, by omega, rfl, by simp, HK4.out⟩
      case round =>
        obtain ⟨k, hk, rfl, ha, hg⟩ := hrel
        have HA := Lib.hid ha; have HG := Lib.hid hg
        clear ha hg x0 x1 x2 x3
        by_cases hlt : k < m0
        · have hke : k < es.length := by rw [HM0.out]; exact hlt
          obtain ⟨eb, eo, u1, u2, rfl, hat⟩ := HE.out.atK rfl rfl hke
          obtain ⟨⟨q0, q1, q2, q3⟩, hi, ho⟩ := hat wr HG.out
          have HTK := Lib.hid (vall_take (p := p) hke)
          have HBD := Lib.hid (vall_bad (p := p) hke)
          have HED := Lib.hid (List.all_eq_true.1 HG6.out _ (getD_mem (d := e0) hke))
          generalize es.getD k e0 = y at *
          obtain ⟨yk, yv, yi, yo⟩ := y
          simp only at q0 q1 q2 q3 hi ho
          obtain ⟨s1, r1, rfl⟩ := hi.shape
          obtain ⟨s2, r2, rfl⟩ := ho.shape
          clear hi ho hat hke
          generalize yi.length = n1 at *
          generalize yo.length = n2 at *
          have HK5 := Lib.hid fun o => grownBy_trans HG.out (gr1 wr o)
          by_cases hv : yv < p
          · have HN := Lib.hid (show (es.take (k + 1)).all (vB p) = true by
              rw [HTK.out, HA.out, show vB p ⟨yk, yv, yi, yo⟩ = true from decide_eq_true hv]
              rfl)
            have hv1 : ¬ p ≤ yv := by omega
            go_wp2_with fail
            go_roundw
            case rel => exact ⟨k + 1, by omega, by go_num, HN.out, HK5.out _⟩
            case measure => simp [intOf]; omega
          · have HR := Lib.hid (HBD.out (show vB p ⟨yk, yv, yi, yo⟩ = false from decide_eq_false hv))
            have hv1 : p ≤ yv := by omega
            go_wp2_with fail
            go_ret
            exact ⟨by rw [HR.out]; simp, HK5.out _⟩
        · have hkm : k = m0 := by omega
          subst hkm
          have ha := HA.out
          rw [List.take_of_length_le (by rw [HM0.out]; exact Nat.le_refl _)] at ha
          have HR := Lib.hid ha
          clear ha hlt
          go_wp2
          go_ret
          exact ⟨by rw [HR.out]; rfl, HG.out⟩
end Go.Proofs.YtlpgjnjhhgjkmaaDoor

/-
  A session that came in: its graphs can be read. Conditions: none.
-/
namespace Go.Proofs.YtlpgjnjhhgjkmaaDoor
open Go.ChangeShapes Go.WideShapes Go.ChangeAt Go.RowKit Go.Deep Go.Joins
set_option linter.unusedVariables false
set_option maxRecDepth 100000

/-- A session: three numbers, graphs before, the graph now, graphs behind, the goal. -/
structure Se where
  p : Int
  k : Int
  l : Int
  past : List Gr
  now : Gr
  fut : List Gr
  goal : Gr
def seV (p k l : Int) (pv : Value) (n1 : Int) (e1 i1 o1 fv : Value) (n2 : Int) (e2 i2 o2 : Value) : Value :=
  .agg #[.int .i64 p, .int .i64 k, .int .i64 l, pv, .int .i64 n1, e1, i1, o1, fv, .int .i64 n2, e2, i2, o2]
/-- A session that can be read. -/
structure RdSe (E : Lay XG) (F : Lay XE) (w : World) (s : Se) (pv e1 i1 o1 fv e2 i2 o2 : Value) : Prop where
  past : RdGs E F w pv s.past
  es1 : RdE F w e1 s.now.es
  is1 : IntsV w i1 s.now.i
  os1 : IntsV w o1 s.now.o
  fut : RdGs E F w fv s.fut
  es2 : RdE F w e2 s.goal.es
  is2 : IntsV w i2 s.goal.i
  os2 : IntsV w o2 s.goal.o
theorem RdSe.carry {E : Lay XG} {F : Lay XE} {w w' : World} {s : Se} {pv e1 i1 o1 fv e2 i2 o2 : Value} (h : RdSe E F w s pv e1 i1 o1 fv e2 i2 o2) (hg : w.grownBy w' none) : RdSe E F w' s pv e1 i1 o1 fv e2 i2 o2 :=
  ⟨h.past.carry hg, h.es1.carry hg, h.is1.carry hg, h.os1.carry hg, h.fut.carry hg, h.es2.carry hg, h.is2.carry hg, h.os2.carry hg⟩
def okGs (gs : List Gr) : Prop := gs.length ≤ 9223372036854775807 ∧ ∀ g ∈ gs, okG g
def okS (s : Se) : Prop := okGs s.past ∧ okG s.now ∧ okGs s.fut ∧ okG s.goal
section
variable {H : Type} {enc : TypeId × Value → H} {W : World} {sp : Nat → Bool} {held : Bool}
/-- The seven fields of a struct, each read. -/
theorem trod_seven {t : TypeId} {f0 f1 f2 f3 f4 f5 f6 : Field} {fuel : Nat} {cs : List Value} {x : DataW H × List MemPlace} (ht : Tryd.prog.underlying t = some (.struct #[f0, f1, f2, f3, f4, f5, f6])) (h : DataW.trod enc Tryd.prog W 0 sp held fuel t cs = some x) :
    cs.length = Tryd.prog.cellsOf t ∧ ∃ y0 y1 y2 y3 y4 y5 y6 n, DataW.trod enc Tryd.prog W 0 sp held n f0.type ((cs.drop f0.offset).take (Tryd.prog.cellsOf f0.type)) = some y0 ∧
      DataW.trod enc Tryd.prog W 0 sp held n f1.type ((cs.drop f1.offset).take (Tryd.prog.cellsOf f1.type)) = some y1 ∧ DataW.trod enc Tryd.prog W 0 sp held n f2.type ((cs.drop f2.offset).take (Tryd.prog.cellsOf f2.type)) = some y2 ∧
      DataW.trod enc Tryd.prog W 0 sp held n f3.type ((cs.drop f3.offset).take (Tryd.prog.cellsOf f3.type)) = some y3 ∧ DataW.trod enc Tryd.prog W 0 sp held n f4.type ((cs.drop f4.offset).take (Tryd.prog.cellsOf f4.type)) = some y4 ∧
      DataW.trod enc Tryd.prog W 0 sp held n f5.type ((cs.drop f5.offset).take (Tryd.prog.cellsOf f5.type)) = some y5 ∧ DataW.trod enc Tryd.prog W 0 sp held n f6.type ((cs.drop f6.offset).take (Tryd.prog.cellsOf f6.type)) = some y6 := by
  obtain ⟨xs, n, _, -, hl, hlen, hf⟩ := DataW.trod_struct ht h
  refine ⟨hl, ?_⟩
  match xs, hlen with
  | [y0, y1, y2, y3, y4, y5, y6], _ => exact ⟨y0, y1, y2, y3, y4, y5, y6, n, by simpa using hf 0 f0 rfl, by simpa using hf 1 f1 rfl, by simpa using hf 2 f2 rfl, by simpa using hf 3 f3 rfl, by simpa using hf 4 f4 rfl, by simpa using hf 5 f5 rfl, by simpa using hf 6 f6 rfl⟩
theorem thirteen {α : Type} {l : List α} (h : l.length = 13) : ∃ c0 c1 c2 c3 c4 c5 c6 c7 c8 c9 ca cb cc, l = [c0, c1, c2, c3, c4, c5, c6, c7, c8, c9, ca, cb, cc] := by
  match l, h with
  | [c0, c1, c2, c3, c4, c5, c6, c7, c8, c9, ca, cb, cc], _ => exact ⟨c0, c1, c2, c3, c4, c5, c6, c7, c8, c9, ca, cb, cc, rfl⟩
/-- Four cells that are a graph. -/
theorem graph4_in {fuel : Nat} {c0 c1 c2 c3 : Value} {x : DataW H × List MemPlace} (h : DataW.trod enc Tryd.prog W 0 sp held fuel 26 [c0, c1, c2, c3] = some x) :
    ∃ y : XG, [c0, c1, c2, c3] = graphC y ∧ RdE argEdE W y.ev y.gr.es ∧ IntsV W y.iv y.gr.i ∧ IntsV W y.ov y.gr.o ∧ okG y.gr := by
  have hc1 : Tryd.prog.cellsOf 3 = 1 := by kernel_rfl
  have hcl : Tryd.prog.cellsOf 24 = 1 := by kernel_rfl
  have hce : Tryd.prog.cellsOf 23 = 1 := by kernel_rfl
  obtain ⟨y0, y1, y2, y3, k, _, _, f0, f1, f2, f3⟩ := trod_struct4 Tryd.underlying26 h
  simp only [hc1, hcl, hce] at f0 f1 f2 f3
  obtain ⟨n0, e0, _⟩ := DataW.trod_int Tryd.underlying3 f0
  obtain ⟨v1, es, e1, r1, b1, b1'⟩ := edges_in f1
  obtain ⟨v2, z2, e2, r2, b2⟩ := ints_in f2
  obtain ⟨v3, z3, e3, r3, b3⟩ := ints_in f3
  simp at e0 e1 e2 e3
  subst e0 e1 e2 e3
  obtain ⟨xs, hxs, hr⟩ := r1
  subst hxs
  exact ⟨⟨n0, c1, xs, c2, z2, c3, z3⟩, rfl, ⟨xs, rfl, hr⟩, r2, r3, b1, b1', b2, b3⟩
theorem graphs_in {fuel : Nat} {cs : List Value} {x : DataW H × List MemPlace} (h : DataW.trod enc Tryd.prog W 0 sp held fuel 22 cs = some x) : ∃ v gs, cs = [v] ∧ RdGs argGrE argEdE W v gs ∧ okGs gs := by
  rcases open_slice Tryd.underlying22 h with ⟨hcs, _⟩ | ⟨a, len, cap, m, n, D, Pl, rfl, hb, hl, hm, hmm, rfl, hx⟩
  · exact ⟨_, [], hcs, ⟨[], rfl, RdR.nil argGrE W, by simp⟩, by decide, by simp⟩
  · unfold maxLen at hm
    have hlm : len ≤ m := by rw [hmm]; split <;> omega
    have hc4 : Tryd.prog.cellsOf 26 = 4 := by kernel_rfl
    have each : ∀ i, i < len → ∃ g : XG, (∀ j, j < 4 → W.cell? ((a.add (i * 4)).add j) = (graphC g)[j]?) ∧ RdE argEdE W g.ev g.gr.es ∧ IntsV W g.iv g.gr.i ∧ IntsV W g.ov g.gr.o ∧ okG g.gr := by
      intro i hi
      obtain ⟨cs', h1, h2⟩ := hx i (by omega)
      rw [hc4] at h1
      obtain ⟨_, hlen, hcell⟩ := World.cells?_some h1
      match cs', hlen with
      | [c0, c1, c2, c3], _ =>
        obtain ⟨y, hy, r⟩ := graph4_in h2
        exact ⟨y, fun j hj => by rw [← hy]; exact hcell j hj, r⟩
    have hch : ∃ G : Nat → XG, ∀ i, i < len → (∀ j, j < 4 → W.cell? ((a.add (i * 4)).add j) = (graphC (G i))[j]?) ∧ RdE argEdE W (G i).ev (G i).gr.es ∧ IntsV W (G i).iv (G i).gr.i ∧ IntsV W (G i).ov (G i).gr.o ∧ okG (G i).gr := by
      haveI : Inhabited XG := ⟨xg0⟩
      exact choose_lt each
    obtain ⟨G, hG⟩ := hch
    refine ⟨_, grs ((List.range len).map G), rfl, ⟨(List.range len).map G, rfl, ⟨some a, cap, by simp, fun hne => ?_⟩, fun x hx => ?_⟩, by simp [grs]; omega, fun e he => ?_⟩
    · have h0 : 0 < len := by
        rcases Nat.eq_zero_or_pos len with h | h
        · subst h; exact absurd rfl hne
        · exact h
      obtain ⟨b, off, spot⟩ := a
      have hc00 : W.cell? ((⟨b, off, spot⟩ : Addr).add (0 * 4) |>.add 0) = some (.int .i64 (G 0).n) := (hG 0 h0).1 0 (by omega)
      have hspot : spot = none := by
        have := World.cell?_spot hc00
        simpa [Addr.add] using this
      subst hspot
      refine ⟨⟨b, off, none⟩, rfl, rfl, ?_, fun i hi j hj => ?_⟩
      · have h1 := World.block_lt_of_cell? W _ hc00
        simpa [Addr.add] using h1
      · have hi' : i < len := by simpa using hi
        have h1 := (hG i hi').1 j hj
        rw [add_off, add_off] at h1
        show W.cell? ⟨b, off + i * 4 + j, none⟩ = _
        rw [h1]
        simp [argGrE]
    · obtain ⟨i, hi, rfl⟩ := List.mem_map.1 hx
      have := hG i (List.mem_range.1 hi)
      exact ⟨this.2.1, this.2.2.1, this.2.2.2.1⟩
    · obtain ⟨x, hx, rfl⟩ := List.mem_map.1 he
      obtain ⟨i, hi, rfl⟩ := List.mem_map.1 hx
      exact (hG i (List.mem_range.1 hi)).2.2.2.2
theorem session_in {r : Reach} {b0 : Nat} {v : Value} {d : DataW H} {p : List MemPlace} (hv : Value.okWide Tryd.prog W r b0 28 v) (h : DataW.Trod enc Tryd.prog W 0 sp held 28 v d p) :
    ∃ s pv e1 i1 o1 fv e2 i2 o2, v = seV s.p s.k s.l pv s.now.n e1 i1 o1 fv s.goal.n e2 i2 o2 ∧ RdSe argGrE argEdE W s pv e1 i1 o1 fv e2 i2 o2 ∧ okS s := by
  obtain ⟨cs, rfl, hsz⟩ := okWide_struct Tryd.underlying28 hv
  obtain ⟨l⟩ := cs
  have hc1 : Tryd.prog.cellsOf 3 = 1 := by kernel_rfl
  have hcl : Tryd.prog.cellsOf 22 = 1 := by kernel_rfl
  have hcg : Tryd.prog.cellsOf 26 = 4 := by kernel_rfl
  have hcs : Tryd.prog.cellsOf 28 = 13 := by kernel_rfl
  obtain ⟨c0, c1, c2, c3, c4, c5, c6, c7, c8, c9, ca, cb, cc, rfl⟩ := thirteen (show l.length = 13 from hsz.trans hcs)
  obtain ⟨fuel, hf⟩ := h
  obtain ⟨-, y0, y1, y2, y3, y4, y5, y6, k, f0, f1, f2, f3, f4, f5, f6⟩ := trod_seven Tryd.underlying28 hf
  simp only [hc1, hcl, hcg, Value.cells] at f0 f1 f2 f3 f4 f5 f6
  obtain ⟨n0, e0, _⟩ := DataW.trod_int Tryd.underlying3 f0
  obtain ⟨n1, e1, _⟩ := DataW.trod_int Tryd.underlying3 f1
  obtain ⟨n2, e2, _⟩ := DataW.trod_int Tryd.underlying3 f2
  obtain ⟨v3, gs3, e3, r3, b3⟩ := graphs_in f3
  obtain ⟨g4, e4, r4, r4', r4'', b4⟩ := graph4_in (c0 := c4) (c1 := c5) (c2 := c6) (c3 := c7) f4
  obtain ⟨v5, gs5, e5, r5, b5⟩ := graphs_in f5
  obtain ⟨g6, e6, r6, r6', r6'', b6⟩ := graph4_in (c0 := c9) (c1 := ca) (c2 := cb) (c3 := cc) f6
  simp [graphC] at e0 e1 e2 e3 e4 e5 e6
  obtain ⟨e40, e41, e42, e43⟩ := e4
  obtain ⟨e60, e61, e62, e63⟩ := e6
  subst e0 e1 e2 e3 e40 e41 e42 e43 e5 e60 e61 e62 e63
  exact ⟨⟨n0, n1, n2, gs3, g4.gr, gs5, g6.gr⟩, _, _, _, _, _, _, _, _, rfl, ⟨r3, r4, r4', r4'', r5, r6, r6', r6''⟩, b3, b4, b5, b6⟩
end
end Go.Proofs.YtlpgjnjhhgjkmaaDoor

/-
  Is a list a permutation; does each number occur once. Conditions: lengths are small.
-/
import Derived.Test.YtghfifpicklonaaDoorBc08
import Derived.Test.YtghfifpicklonaaDoorBc07
namespace Go.Proofs.YtghfifpicklonaaDoor
open Go.RowKit
set_option linter.unusedVariables false
set_option maxRecDepth 100000

theorem take_mem_split {zs : List Int} {k : Nat} (hk : k < zs.length) : zs.take (k + 1) = zs.take k ++ [zs.getD k 0] := by
  rw [List.take_succ_eq_append_getElem hk, List.getD_eq_getElem?_getD, List.getElem?_eq_getElem hk]; rfl
theorem perm_bad_rng {zs : List Int} {m k : Nat} (hk : k < zs.length) (h : ¬ (0 ≤ zs.getD k 0 ∧ zs.getD k 0 ≤ (m : Int) - 1)) : permB zs m = false := by
  unfold permB
  have : rngB m zs = false := by
    cases hr : rngB m zs
    · rfl
    · have := rngB_iff.1 hr _ (getD_mem (d := 0) hk)
      omega
  rw [this]
  simp
theorem perm_bad_dup {zs : List Int} {m k : Nat} (hk : k < zs.length) (h : zs.getD k 0 ∈ zs.take k) : permB zs m = false := by
  unfold permB
  have : ¬ zs.Nodup := by
    intro hd
    have h2 : (zs.take (k + 1)).Nodup := List.Nodup.sublist (List.take_sublist _ _) hd
    rw [take_mem_split hk] at h2
    have := (List.nodup_append.1 h2).2.2
    exact this _ h _ (by simp) rfl
  rw [decide_eq_false this]
  simp
theorem perm_good {zs : List Int} {m : Nat} (hl : zs.length = m) (hr : ∀ x ∈ zs, 0 ≤ x ∧ x < (m : Int)) (hd : zs.Nodup) : permB zs m = true := by
  unfold permB
  rw [decide_eq_true (by omega : ((zs.length : Int) = m)), rngB_iff.2 hr, decide_eq_true hd]
  rfl
theorem perm_step {zs : List Int} {m k : Nat} (hk : k < zs.length) (h : ¬ zs.getD k 0 ∈ zs.take k) (hd : (zs.take k).Nodup) : (zs.take (k + 1)).Nodup := by
  rw [take_mem_split hk, List.nodup_append]
  refine ⟨hd, by simp, fun a ha b hb e => ?_⟩
  have hb' : b = zs.getD k 0 := List.mem_singleton.1 hb
  exact h (by rw [← hb', ← e]; exact ha)
set_option maxHeartbeats 2000000 in
theorem isPermutation_any (v : Value) (zs : List Int) (m : Nat) (w : World) (hv : IntsV w v zs) (hm : m ≤ 1000000) (hl : zs.length ≤ 1000000) :
    Calls Tryd.prog 137 #[v, .int .i64 m] w fun e w' => e = .returned (.bool (permB zs m)) ∧ w.grownBy w' none := by
  obtain ⟨i0, hi, hz0, hz1, hz2⟩ := info_parts info_bool
  have HBI := Lib.hid hi; have HZ0 := Lib.hid hz0; have HZ1 := Lib.hid hz1; have HZ2 := Lib.hid hz2
  have HV := Lib.hid hv
  obtain ⟨a, c, rfl⟩ := hv.shape
  clear hi hz0 hz1 hz2 hv
  generalize hn : zs.length = n at *
  have HN := Lib.hid hn
  clear hn
  by_cases hne : n = m
  · subst hne
    have hn1 : ((n : Int) != (n : Int)) = false := by simp
    have hwr : IntKind.i64.wrap ((n : Int) - 1) = (n : Int) - 1 := by rw [IntKind.wrap_i64]; omega
    go_enter Tryd.func137, Tryd.ntmps137
    go_wp2_with (
      at_make
      refine wpList_make_full _ rfl _ _ 160 rfl w.heap.size 4 i0 _ 1 Tryd.underlying160 HBI.out HZ0.out HZ1.out _ _ _ _ n rfl rfl rfl rfl (by rw [HZ2.out]; omega) (by unfold maxLen; omega) (Nat.le_refl _) ?_
      intro w1 hown' hgr'
      have hs1 := (Sep.start w).newR hgr' (OwnR.made (E := boolE) falseCells hown')
      rw [← seen_nil] at hs1
      have HS1 := Lib.hid hs1
      clear hs1 hown' hgr')
    go_loopw [7, 16] (fun _ i wr => ∃ k : Nat, k ≤ n ∧ i = .int .i64 k ∧ (zs.take k).Nodup ∧ (∀ x ∈ zs.take k, 0 ≤ x ∧ x < (n : Int)) ∧ Sep wr [OR boolE (.slice (some ⟨w.heap.size, 0, none⟩) n n) (seenL n (zs.take k)), KeepA w]) (fun _ i _ => n - (intOf i).toNat)
    case atStart => exact ⟨0, by omega, rfl, by simp, by simp, by simpa using HS1.out⟩
    case round =>
      obtain ⟨k, hk, rfl, hd, hr, hs⟩ := hrel
      have HSX := Lib.hid hs; have HD := Lib.hid hd; have HR := Lib.hid hr
      clear hs hd hr HS1
      by_cases hlt : k < n
      · have hkx : k < zs.length := by rw [HN.out]; exact hlt
        obtain ⟨b, o, rfl⟩ := IntsV.addr HV.out (by omega)
        have hc0 := (HV.out.carry HSX.out.tl.hd).cellN hkx
        have HTK := Lib.hid (take_mem_split hkx)
        have HBR := Lib.hid (@perm_bad_rng zs n k hkx)
        have HBD := Lib.hid (@perm_bad_dup zs n k hkx)
        have HST := Lib.hid (fun h => @perm_step zs n k hkx h HD.out)
        generalize zs.getD k 0 = x at *
        have HW := Lib.hid fun W => within_any x 0 ((n : Int) - 1) W
        by_cases hin : 0 ≤ x ∧ x ≤ (n : Int) - 1
        · rw [decide_eq_true hin] at HW
          obtain ⟨j, rfl⟩ := Int.eq_ofNat_of_zero_le hin.1
          have hjm : j < n := by omega
          have hsc := bool_cell HSX.out.hd (seen_len n _).symm hjm
          have hsf := bool_free HSX.out.hd (seen_len n _).symm j
          rw [seen_at hjm] at hsc
          by_cases hold : (j : Int) ∈ zs.take k
          · rw [decide_eq_true hold] at hsc
            have HF := Lib.hid (HBD.out hold)
            have HK := Lib.hid (show w.grownBy wr none from HSX.out.tl.hd)
            clear hold hin hkx
            go_wp2_with (go_at_call 74; with_reducible refine (HW.out _).mono ?_; rintro e w3 ⟨rfl, rfl⟩)
            go_ret
            exact ⟨by rw [HF.out]; try rfl, HK.out⟩
          · rw [decide_eq_false hold] at hsc
            have hsn := seen_new hjm hold
            have h1 := HSX.out.setBo (seen_len n _).symm hjm true
            rw [← hsn.1, ← HTK.out] at h1
            have HF := Lib.hid h1
            have HD2 := Lib.hid (HST.out hold)
            have HR2 := Lib.hid (show ∀ x ∈ zs.take (k + 1), 0 ≤ x ∧ x < (n : Int) from by
              intro x hx
              rw [HTK.out] at hx
              rcases List.mem_append.1 hx with hx | hx
              · exact HR.out x hx
              · simp at hx
                omega)
            clear hold hin hkx hsn h1
            go_wp2_with (go_at_call 74; with_reducible refine (HW.out _).mono ?_; rintro e w3 ⟨rfl, rfl⟩)
            go_roundw
            case rel => exact ⟨k + 1, by omega, by go_num, HD2.out, HR2.out, HF.out⟩
            case measure => simp [intOf]; omega
        · rw [decide_eq_false hin] at HW
          have HF := Lib.hid (HBR.out hin)
          have HK := Lib.hid (show w.grownBy wr none from HSX.out.tl.hd)
          clear hin hkx
          go_wp2_with (go_at_call 74; with_reducible refine (HW.out _).mono ?_; rintro e w3 ⟨rfl, rfl⟩)
          go_ret
          exact ⟨by rw [HF.out]; try rfl, HK.out⟩
      · have hkn : k = n := by omega
        subst hkn
        have hd := HD.out
        have hr := HR.out
        rw [List.take_of_length_le (by rw [HN.out]; exact Nat.le_refl _)] at hd hr
        have HF := Lib.hid (perm_good HN.out hr hd)
        have HK := Lib.hid (show w.grownBy wr none from HSX.out.tl.hd)
        clear hlt hd hr
        go_wp2
        go_ret
        exact ⟨by rw [HF.out]; try rfl, HK.out⟩
  · have hn1 : ((n : Int) != (m : Int)) = true := by simp; omega
    have HF := Lib.hid (show permB zs m = false by unfold permB; rw [HN.out, decide_eq_false (by omega)]; simp)
    clear hne
    go_enter Tryd.func137, Tryd.ntmps137
    go_wp2
    go_ret
    exact ⟨by rw [HF.out]; try rfl, grownBy_refl _ _⟩
theorem occursOnce_any (v : Value) (xs : List RX) (m : Nat) (w : World) (hv : RdL w v xs) (hm : m ≤ 1000000) (hl : xs.length ≤ 1000000) (hj : (joinL xs).length ≤ 1000000) :
    Calls Tryd.prog 106 #[.int .i64 m, v] w fun e w' => e = .returned (.bool (permB (joinL xs) m)) ∧ w.grownBy w' none := by
  have HA := Lib.hid (joined_any v xs w hv hl hj)
  have HB := Lib.hid fun u W (h : IntsV W u (joinL xs)) => isPermutation_any u (joinL xs) m W h hm hj
  obtain ⟨a, c, rfl⟩ := hv.1.shape
  clear hv
  generalize permB (joinL xs) m = b at *
  go_enter Tryd.func106, Tryd.ntmps106
  go_wp2_with (first
    | (go_at_call 79
       with_reducible refine HA.out.mono ?_
       rintro e w2 ⟨u, rfl, hs⟩
       have HC := Lib.hid (HB.out u w2 (OwnInts.read (show OwnInts 0 w2 u _ from hs.hd)))
       have HK := Lib.hid (show w.grownBy w2 none from hs.tl.hd)
       clear hs)
    | (go_at_call 137
       with_reducible refine HC.out.mono ?_
       rintro e w3 ⟨rfl, hg⟩
       have HK2 := Lib.hid (grownBy_trans HK.out hg)
       clear hg))
  go_ret
  exact ⟨rfl, HK2.out⟩
end Go.Proofs.YtghfifpicklonaaDoor

/-
  Is a graph monogamous, in the program. Conditions: lengths are small.
-/
namespace Go.Proofs.YtghfifpicklonaaDoor
open Go.RowKit
set_option linter.unusedVariables false
set_option maxRecDepth 100000

theorem row_own {w : World} {l : List Asrt} (h : Sep w l) (a : Option Addr) (n c : Nat) (is : List Int) (b : Nat) (hb : b = w.heap.size) :
    Sep (w.alloc (.cells #[.slice a n c] 27)) (OR rowE (.slice (some ⟨b, 0, none⟩) 1 1) [⟨.slice a n c, is⟩] :: l) := by
  subst hb
  refine h.newR (grownBy_alloc w _ none) ?_
  refine ⟨rfl, Or.inr ⟨w.heap.size, 1, #[.slice a n c], rfl, Nat.le_refl _, ?_, Nat.le_refl _, ?_, rfl, rfl⟩⟩
  · exact alloc_heap_new _ _
  · decide
section
variable {α : Type} {E : Lay α} {ops : Array Oper} {rest : List Oper} {o : Oper} {a : Act} {Q : Exit → Act → World → Prop} {w : World} {v : Value} {xs : List α} {l : List Asrt} {y : α} {t : TypeId} {z : Value} {bytes b : Nat}
theorem app_RB (hinfo : (Tryd.prog.info? E.ty).map (fun i => (i.zero, i.size, i.bytes)) = some (some z, E.sz, bytes)) (hzs : z.cells.size = E.sz) (hby : bytes ≤ 10000) (ht : Tryd.prog.underlying t = some (.slice E.ty)) (hone : ∀ u ∈ E.cs y, u.oneCell' = true)
    (hgd : o.guard = none) (s x : Operand) (ho : o.op = .call { callee := .builtin .append, args := #[s, x], argTypes := #[t, t] })
    (hs : a.eval s = v) (hx : a.eval x = .slice (some ⟨b, 0, none⟩) 1 1) (hb : b = w.heap.size) {cs : Array Value} (hcs : cs.toList = E.cs y) (H : Sep w (OR E v xs :: l)) (hl : xs.length ≤ 10000000)
    (h : ∀ g cap w', Sep w' (OR E (.slice (some ⟨g, 0, none⟩) (xs.length + 1) cap) (xs ++ [y]) :: l) → wpList Tryd.prog ops Q rest (a.put o.dst (.slice (some ⟨g, 0, none⟩) (xs.length + 1) cap)) w') :
    wpList Tryd.prog ops Q (o :: rest) a (w.alloc (.cells cs E.ty)) := by
  subst hb
  exact app_R hinfo hzs hby ht hone hgd s x ho hs hx hcs H hl h
end
theorem joinL_snoc (xs : List RX) (x : RX) : joinL (xs ++ [x]) = joinL xs ++ x.zs := by unfold joinL; rw [List.flatMap_append]; simp
theorem RdL.of {w : World} {v : Value} {xs : List RX} (h : (OR rowE v xs).holds w) (hi : ∀ x ∈ xs, IntsV w x.v x.zs) : RdL w v xs := ⟨OwnR.read (show OwnR rowE 0 w v xs from h), hi⟩
theorem grB_n {g : Gr} (h : grB g = true) : ∃ m : Nat, g.n = m ∧ m ≤ 100 ∧ g.es.length ≤ 60 ∧ g.i.length ≤ 12 ∧ g.o.length ≤ 12 ∧ rngB g.n (wiresL g) = true ∧ (∀ e ∈ g.es, e.i.length ≤ 2 ∧ e.o.length ≤ 2) ∧ g.es.all edB = true := by
  have h0 := h
  rw [grB_spec] at h
  simp only [Bool.and_eq_true, decide_eq_true_iff] at h
  obtain ⟨h1, h2, h3, h4, h5, h6, h7, h8⟩ := h
  rw [inB_iff] at h1
  obtain ⟨m, hm⟩ := Int.eq_ofNat_of_zero_le h1.1
  refine ⟨m, hm, by omega, h2, h3, h4, ?_, edge_small h7, ?_⟩
  · unfold grB at h0
    simp only [Bool.and_eq_true] at h0
    exact h0.1.2
  · unfold grB at h0
    simp only [Bool.and_eq_true] at h0
    exact h0.1.1.2
set_option maxHeartbeats 4000000 in
theorem isMonogamous_any (ev iv ov : Value) (g : Gr) (w : World) (he : RdE edgeE w ev g.es) (hi : IntsV w iv g.i) (ho : IntsV w ov g.o) (l0 : g.es.length ≤ 2000000) (l1 : g.i.length ≤ 2000000) (l2 : g.o.length ≤ 2000000) :
    Calls Tryd.prog 60 #[grV g.n ev iv ov] w fun e w' => e = .returned (.bool (grB g && monB g)) ∧ w.grownBy w' none := by
  have HIG := Lib.hid fun W (h : w.grownBy W none) => isGraph_any ev iv ov g W (he.carry h) (hi.carry h) (ho.carry h) l0 l1 l2
  have HE := Lib.hid he; have HI := Lib.hid hi; have HO := Lib.hid ho
  unfold grV at *
  obtain ⟨ea, ec, rfl⟩ := he.shape
  obtain ⟨ia, ic, rfl⟩ := hi.shape
  obtain ⟨oa, oc, rfl⟩ := ho.shape
  clear he hi ho l0 l1 l2
  have HS0 := Lib.hid ((Sep.start w).box #[.int .i64 g.n, .slice ea g.es.length ec, .slice ia g.i.length ic, .slice oa g.o.length oc] 56)
  have HK0 := Lib.hid (show w.grownBy _ none from HS0.out.tl.hd)
  cases hb : grB g
  · rw [hb] at HIG
    rw [Bool.false_and]
    clear hb
    generalize g.es.length = m0 at *
    generalize g.i.length = m1 at *
    generalize g.o.length = m2 at *
    generalize g.n = n at *
    go_enter Tryd.func60, Tryd.ntmps60
    go_wp2_with (
      go_at_call 104
      with_reducible refine (HIG.out _ HK0.out).mono ?_
      rintro e w2 ⟨rfl, hg⟩
      have HK2 := Lib.hid (grownBy_trans HK0.out hg)
      clear hg)
    go_ret
    exact ⟨rfl, HK2.out⟩
  · rw [hb] at HIG
    rw [Bool.true_and]
    obtain ⟨m, hm, hm1, hg1, hg2, hg3, hg4, hg5, _⟩ := grB_n hb
    clear hb
    obtain ⟨gn, es, is, os⟩ := g
    rw [show monB ⟨gn, es, is, os⟩ = (permB (is ++ outE es) gn && permB (os ++ inE es) gn) from rfl]
    simp only at *
    subst hm
    have HLE := Lib.hid hg5
    have HES := Lib.hid hg1
    have hlo : ∀ k, (outE (es.take k)).length ≤ 120 := by
      intro k
      have h1 := outE_le es k
      have h2 := flat_small (fun e => e.o) es (fun e he => (hg5 e he).2)
      unfold outE at h1 ⊢
      omega
    have hli : ∀ k, (inE (es.take k)).length ≤ 120 := by
      intro k
      have h1 := inE_le es k
      have h2 := flat_small (fun e => e.i) es (fun e he => (hg5 e he).1)
      unfold inE at h1 ⊢
      omega
    have HLO := Lib.hid hlo; have HLI := Lib.hid hli
    have HMM := Lib.hid (show m ≤ 1000000 by omega)
    have HIS := Lib.hid hg2; have HOS := Lib.hid hg3
    generalize hes : es.length = m0 at *
    have HM0 := Lib.hid hes
    clear hg4 hg5 hlo hli hm1 hes
    generalize hil : is.length = m1 at *
    generalize hol : os.length = m2 at *
    have HIL := Lib.hid hil; have HOL := Lib.hid hol
    clear hil hol
    go_enter Tryd.func60, Tryd.ntmps60
    go_upto_region 3 with (
      go_at_call 104
      with_reducible refine (HIG.out _ HK0.out).mono ?_
      rintro e w2 ⟨rfl, hg⟩
      have hs2 := HS0.out.grown hg
      obtain ⟨x0, x1, x2, x3, _⟩ := bq4 hs2.hd
      have HS2 := Lib.hid hs2
      clear hg hs2)
    go_cut [3, 4] from 10 to 15 (fun xv yv wx => ∃ (b1 b2 : Nat), xv = .slice (some ⟨b1, 0, none⟩) 1 1 ∧ yv = .slice (some ⟨b2, 0, none⟩) 1 1 ∧ Sep wx [OR rowE (.slice (some ⟨b1, 0, none⟩) 1 1) [⟨.slice ia m1 ic, is⟩], OR rowE (.slice (some ⟨b2, 0, none⟩) 1 1) [⟨.slice oa m2 oc, os⟩], BxA w.heap.size #[.int .i64 m, .slice ea m0 ec, .slice ia m1 ic, .slice oa m2 oc] 56, KeepA w])
    case first =>
      have y2 := fun o => (bq4 (HS2.out.al o).hd).2.2.1
      have y3 := fun o => (bq4 (HS2.out.al o).hd).2.2.2.1
      have HA := Lib.hid (row_own (row_own HS2.out ia m1 ic is w2.heap.size rfl) oa m2 oc os (w2.heap.size + 1) (by simp)).s2.dr
      have HB := Lib.hid (row_own (row_own HS2.out oa m2 oc os w2.heap.size rfl) ia m1 ic is (w2.heap.size + 1) (by simp)).dr
      go_region
      all_goals
        go_wp2_with fail
        go_meet
      . exact ⟨_, _, rfl, rfl, HA.out⟩
      . exact ⟨_, _, rfl, rfl, HB.out⟩
    case rest =>
      obtain ⟨b1, b2, rfl, rfl, hs⟩ := hcut
      have HS3 := Lib.hid hs
      obtain ⟨x0, x1, x2, x3, _⟩ := bq4 hs.tl.tl.hd
      clear hs HS2 HIG
      go_wp2_with fail
      go_loopw [3, 4, 6, 19] (fun xv yv _ i wr => ∃ (k : Nat) (xs ys : List RX), k ≤ m0 ∧ i = .int .i64 k ∧ xs.length = k + 1 ∧ ys.length = k + 1 ∧ joinL xs = is ++ outE (es.take k) ∧ joinL ys = os ++ inE (es.take k) ∧ (∀ x ∈ xs, IntsV w x.v x.zs) ∧ (∀ x ∈ ys, IntsV w x.v x.zs) ∧
        Sep wr [OR rowE xv xs, OR rowE yv ys, BxA w.heap.size #[.int .i64 m, .slice ea m0 ec, .slice ia m1 ic, .slice oa m2 oc] 56, KeepA w]) (fun _ _ _ i _ => m0 - (intOf i).toNat)
      case atStart => exact ⟨0, [⟨.slice ia m1 ic, is⟩], [⟨.slice oa m2 oc, os⟩], by omega, rfl, rfl, rfl, by simp [joinL, outE], by simp [joinL, inE], by simpa using HI.out, by simpa using HO.out, HS3.out⟩
      case round =>
        obtain ⟨k, xs, ys, hk, rfl, hxl, hyl, hxj, hyj, hxi, hyi, hs⟩ := hrel
        have HSX := Lib.hid hs; have HXL := Lib.hid hxl; have HYL := Lib.hid hyl; have HXJ := Lib.hid hxj; have HYJ := Lib.hid hyj; have HXI := Lib.hid hxi; have HYI := Lib.hid hyi
        obtain ⟨p1, p2, he1⟩ := OwnR.shape (show OwnR rowE 0 wr u3 xs from hs.hd)
        obtain ⟨q1, q2, he2⟩ := OwnR.shape (show OwnR rowE 0 wr u4 ys from hs.tl.hd)
        rw [hxl] at he1
        rw [hyl] at he2
        subst he1 he2
        obtain ⟨x0, x1, x2, x3, _⟩ := bq4 hs.tl.tl.hd
        clear hs HS3 hxl hyl hxj hyj hxi hyi
        by_cases hlt : k < m0
        · have hke : k < es.length := by rw [HM0.out]; exact hlt
          obtain ⟨eb, eo, u1, u2, rfl, hat⟩ := HE.out.atK rfl rfl hke
          obtain ⟨⟨q0, q1', q2', q3⟩, hi, ho⟩ := hat wr HSX.out.tl.tl.tl.hd
          obtain ⟨_, hi0, ho0⟩ := hat w (grownBy_refl _ _)
          have HTO := Lib.hid (outE_take es k hke); have HTI := Lib.hid (inE_take es k hke)
          generalize es.getD k e0 = y at *
          obtain ⟨yk, yv, yi, yo⟩ := y
          simp only at q0 q1' q2' q3 hi ho hi0 ho0
          have HI0 := Lib.hid hi0; have HO0 := Lib.hid ho0
          obtain ⟨s1, r1, rfl⟩ := hi.shape
          obtain ⟨s2, r2, rfl⟩ := ho.shape
          have hb := (HSX.out.box #[.int .i64 yk, .int .i64 yv, .slice s1 yi.length r1, .slice s2 yo.length r2] 84).s2
          have HSB := Lib.hid hb
          clear hi ho hi0 ho0 hat hke hb
          go_wp2_with (first
            | (refine app_RB (E := rowE) (y := ⟨.slice s2 yo.length r2, yo⟩) info_row rfl (by decide) Tryd.underlying22 (by intro u hu; simp [rowE] at hu; subst hu; rfl) rfl (.tmp 23) (.tmp 26) rfl rfl rfl (by simp) rfl HSB.out (by rw [HXL.out]; omega) ?_
               intro g c w4 h4
               rw [HXL.out] at h4 ⊢
               obtain ⟨z0, z1, z2, z3, _⟩ := bq4 h4.tl.hd
               have HS4 := Lib.hid h4.s3
               clear h4)
            | (refine app_RB (E := rowE) (y := ⟨.slice s1 yi.length r1, yi⟩) info_row rfl (by decide) Tryd.underlying22 (by intro u hu; simp [rowE] at hu; subst hu; rfl) rfl (.tmp 28) (.tmp 31) rfl rfl rfl rfl rfl HS4.out (by rw [HYL.out]; omega) ?_
               intro g2 c2 w5 h5
               rw [HYL.out] at h5 ⊢
               have HS5 := Lib.hid (h5.s2.under (fun h => h.under Sep.tl (by simp +contextual)) (by simp +contextual))
               clear h5))
          go_roundw
          case rel => exact ⟨k + 1, xs ++ [⟨.slice s2 yo.length r2, yo⟩], ys ++ [⟨.slice s1 yi.length r1, yi⟩], by omega, by go_num, by rw [List.length_append, HXL.out]; rfl, by rw [List.length_append, HYL.out]; rfl, by rw [joinL_snoc, HXJ.out, HTO.out, List.append_assoc], by rw [joinL_snoc, HYJ.out, HTI.out, List.append_assoc], by
              intro x hx
              rcases List.mem_append.1 hx with hx | hx
              · exact HXI.out x hx
              · rw [List.mem_singleton.1 hx]; exact HO0.out, by
              intro x hx
              rcases List.mem_append.1 hx with hx | hx
              · exact HYI.out x hx
              · rw [List.mem_singleton.1 hx]; exact HI0.out, HS5.out⟩
          case measure => simp [intOf]; omega
        · have hkm : k = m0 := by omega
          subst hkm
          have htk : es.take k = es := List.take_of_length_le (by rw [HM0.out]; exact Nat.le_refl _)
          rw [htk] at HXJ HYJ
          have hkp : w.grownBy wr none := HSX.out.tl.tl.tl.hd
          have hjl : (joinL xs).length ≤ 1000000 := by rw [HXJ.out, List.length_append]; have := HLO.out k; rw [htk] at this; have := HIS.out; have := HIL.out; omega
          have hjl2 : (joinL ys).length ≤ 1000000 := by rw [HYJ.out, List.length_append]; have := HLI.out k; rw [htk] at this; have := HOS.out; have := HOL.out; omega
          have HOA := Lib.hid fun W (h : wr.grownBy W none) => occursOnce_any _ xs m W ((RdL.of HSX.out.hd (fun x hx => (HXI.out x hx).carry hkp)).carry h) HMM.out (by rw [HXL.out]; omega) hjl
          have HOB := Lib.hid fun W (h : wr.grownBy W none) => occursOnce_any _ ys m W ((RdL.of HSX.out.tl.hd (fun x hx => (HYI.out x hx).carry hkp)).carry h) HMM.out (by rw [HYL.out]; omega) hjl2
          rw [HXJ.out] at HOA
          rw [HYJ.out] at HOB
          have hKW := Lib.hid hkp
          have HBX := Lib.hid (show Sep wr [BxA w.heap.size #[.int .i64 m, .slice ea k ec, .slice ia m1 ic, .slice oa m2 oc] 56, KeepA w] from HSX.out.tl.tl)
          clear hlt htk hkp hjl hjl2
          cases hb1 : permB (is ++ outE es) m
          · rw [hb1] at HOA
            have HB1 := Lib.hid hb1
            clear hb1
            go_wp2_with (
              go_at_call 106
              with_reducible refine (HOA.out _ (grownBy_refl _ _)).mono ?_
              rintro e w6 ⟨rfl, hg⟩
              have HK6 := Lib.hid (grownBy_trans hKW.out hg)
              clear hg)
            go_ret
            exact ⟨by rw [HB1.out]; rfl, HK6.out⟩
          · rw [hb1] at HOA
            have HB1 := Lib.hid hb1
            clear hb1
            obtain ⟨b2, hb2⟩ : ∃ b, b = permB (os ++ inE es) m := ⟨_, rfl⟩
            rw [← hb2] at HOB
            have HB2 := Lib.hid hb2
            clear hb2
            go_wp2_with (first
              | (go_at_call 106
                 with_reducible refine (HOA.out _ (grownBy_refl _ _)).mono ?_
                 rintro e w6 ⟨rfl, hg⟩
                 have HG6 := Lib.hid hg
                 obtain ⟨z0, z1, z2, z3, _⟩ := bq4 (HBX.out.grown hg).hd
                 have HK6 := Lib.hid (grownBy_trans hKW.out hg)
                 clear hg)
              | (go_at_call 106
                 with_reducible refine (HOB.out _ HG6.out).mono ?_
                 rintro e w7 ⟨rfl, hg⟩
                 have HK7 := Lib.hid (grownBy_trans HK6.out hg)
                 clear hg))
            go_ret
            exact ⟨by rw [HB1.out, ← HB2.out]; rfl, HK7.out⟩
end Go.Proofs.YtghfifpicklonaaDoor

/-
  Is a graph monogamous, in the reference. Conditions: the graph is valid; lengths are small.
-/
namespace Go.Proofs.YtghfifpicklonaaDoor
open Go.RowKit
set_option linter.unusedVariables false
set_option maxRecDepth 100000

theorem cnt_perm {P : List Int} {m : Nat} (hr : ∀ x ∈ P, 0 ≤ x ∧ x < (m : Int)) : ((cntL m P).all fun n => decide (1 ≤ n ∧ n ≤ 1)) = permB P m := by
  have h := perm_count hr
  have hb : rngB m P = true := rngB_iff.2 hr
  rw [Bool.eq_iff_iff]
  unfold permB cntL
  rw [hb]
  simp only [List.all_eq_true, List.mem_map, List.mem_range, Bool.and_eq_true, decide_eq_true_iff]
  constructor
  · intro hh
    have := h.2 (fun w hw => by
      have := hh ((P.count (w : Int) : Nat) : Int) ⟨w, hw, rfl⟩
      omega)
    exact ⟨⟨by omega, trivial⟩, this.2⟩
  · rintro ⟨⟨h1, _⟩, h2⟩ x ⟨w, hw, rfl⟩
    have := h.1 ⟨by omega, h2⟩ w hw
    omega
theorem wires_len {g : Gr} (h1 : g.es.length ≤ 60) (h2 : ∀ e ∈ g.es, e.i.length ≤ 2 ∧ e.o.length ≤ 2) : (outE g.es).length ≤ 120 ∧ (inE g.es).length ≤ 120 := by
  have a := flat_small (fun e => e.o) g.es (fun e he => (h2 e he).2)
  have b := flat_small (fun e => e.i) g.es (fun e he => (h2 e he).1)
  unfold outE inE
  omega
theorem hgMono_any (ev iv ov : Value) (g : Gr) (w : World) (he : RdE edgeE w ev g.es) (hi : IntsV w iv g.i) (ho : IntsV w ov g.o) (hg : grB g = true) :
    Calls Tryd.prog 54 #[grV g.n ev iv ov] w fun e w' => e = .returned (.bool (monB g)) ∧ w.grownBy w' none := by
  obtain ⟨m, hm, hm1, hg1, hg2, hg3, hg4, hg5, _⟩ := grB_n hg
  have hw := wires_len hg1 hg5
  have HCN := Lib.hid fun W (h : w.grownBy W none) => hgCounts_any ev iv ov g m W (he.carry h) (hi.carry h) (ho.carry h) hm (by omega) hg4 (by omega) (by omega) (by omega) (by omega) (by omega)
  have hfr : ∀ x ∈ fromL g, 0 ≤ x ∧ x < (m : Int) := fun x hx => by rw [← hm]; exact rngB_iff.1 hg4 x (mem_wires.2 (Or.inl hx))
  have hto : ∀ x ∈ toL g, 0 ≤ x ∧ x < (m : Int) := fun x hx => by rw [← hm]; exact rngB_iff.1 hg4 x (mem_wires.2 (Or.inr hx))
  have HLA := Lib.hid fun v W (h : IntsV W v (cntL m (fromL g))) => l1All_any 1 1 v _ W h (by rw [cntL_len]; omega)
  have HLB := Lib.hid fun v W (h : IntsV W v (cntL m (toL g))) => l1All_any 1 1 v _ W h (by rw [cntL_len]; omega)
  rw [cnt_perm hfr] at HLA
  rw [cnt_perm hto] at HLB
  rw [show monB g = (permB (fromL g) m && permB (toL g) m) by unfold monB; rw [hm]]
  generalize permB (fromL g) m = b1 at *
  generalize permB (toL g) m = b2 at *
  generalize cntL m (fromL g) = q1 at *
  generalize cntL m (toL g) = q2 at *
  unfold grV at *
  obtain ⟨ea, ec, rfl⟩ := he.shape
  obtain ⟨ia, ic, rfl⟩ := hi.shape
  obtain ⟨oa, oc, rfl⟩ := ho.shape
  clear he hi ho hg hfr hto hg1 hg2 hg3 hg4 hg5 hw hm
  generalize g.n = n at *
  generalize g.es.length = m0 at *
  generalize g.i.length = m1 at *
  generalize g.o.length = m2 at *
  have HK0 := Lib.hid fun o => gr1 w o
  cases b1
  · go_enter Tryd.func54, Tryd.ntmps54
    go_wp2_with (first
      | (go_at_call 98
         with_reducible refine (HCN.out _ (HK0.out _)).mono ?_
         rintro e w2 ⟨v1, v2, rfl, hs⟩
         have H1 := Lib.hid (HLA.out v1 w2 (OwnInts.read (show OwnInts 0 w2 v1 _ from hs.hd)))
         have H2 := Lib.hid (HLB.out v2 w2 (OwnInts.read (show OwnInts 0 w2 v2 _ from hs.tl.hd)))
         obtain ⟨s1, r1, rfl⟩ := own_shape (show OwnInts 0 w2 v1 _ from hs.hd)
         obtain ⟨s2, r2, rfl⟩ := own_shape (show OwnInts 0 w2 v2 _ from hs.tl.hd)
         have HK := Lib.hid (grownBy_trans (HK0.out _) hs.tl.tl.hd)
         clear hs)
      | (go_at_call 99; with_reducible refine H1.out.mono ?_; rintro e w3 ⟨rfl, rfl⟩))
    go_ret
    exact ⟨rfl, HK.out⟩
  · go_enter Tryd.func54, Tryd.ntmps54
    go_wp2_with (first
      | (go_at_call 98
         with_reducible refine (HCN.out _ (HK0.out _)).mono ?_
         rintro e w2 ⟨v1, v2, rfl, hs⟩
         have H1 := Lib.hid (HLA.out v1 w2 (OwnInts.read (show OwnInts 0 w2 v1 _ from hs.hd)))
         have H2 := Lib.hid (HLB.out v2 w2 (OwnInts.read (show OwnInts 0 w2 v2 _ from hs.tl.hd)))
         obtain ⟨s1, r1, rfl⟩ := own_shape (show OwnInts 0 w2 v1 _ from hs.hd)
         obtain ⟨s2, r2, rfl⟩ := own_shape (show OwnInts 0 w2 v2 _ from hs.tl.hd)
         have HK := Lib.hid (grownBy_trans (HK0.out _) hs.tl.tl.hd)
         clear hs)
      | (go_at_call 99; with_reducible refine H1.out.mono ?_; rintro e w3 ⟨rfl, rfl⟩)
      | (go_at_call 99; with_reducible refine H2.out.mono ?_; rintro e w4 ⟨rfl, rfl⟩))
    go_ret
    exact ⟨rfl, HK.out⟩
end Go.Proofs.YtghfifpicklonaaDoor

/-
  One graph as one part of memory; what the exact laws ask of it. Conditions: lists are small.
-/
namespace Go.Proofs.YtghfifpicklonaaDoor
open Go.RowKit
set_option linter.unusedVariables false
set_option maxRecDepth 100000

/-- A graph that is the call's own. -/
def OX3 (ev : Value) (xs : List XE) (iv : Value) (is : List Int) (ov : Value) (os : List Int) : Asrt := Bag [OE ev xs, OI iv is, OI ov os]
/-- A graph that can be read. -/
def RdX (w : World) (g : Gr) (ev iv ov : Value) : Prop := RdE edgeE w ev g.es ∧ IntsV w iv g.i ∧ IntsV w ov g.o
theorem OX3_own {ev : Value} {xs : List XE} {iv : Value} {is : List Int} {ov : Value} {os : List Int} : ∀ k, (OX3 ev xs iv is ov os).sees k → (OX3 ev xs iv is ov os).foot k := by
  rintro k ⟨A, hA, hk⟩
  refine ⟨A, hA, ?_⟩
  simp only [List.mem_cons, List.not_mem_nil, or_false] at hA
  rcases hA with rfl | rfl | rfl
  · exact OE_own k hk
  · exact hk
  · exact hk
theorem OX3.read {w : World} {g : Gr} {ev : Value} {xs : List XE} {iv ov : Value} (h : (OX3 ev xs iv g.i ov g.o).holds w) (hx : eds xs = g.es) : RdX w g ev iv ov := by
  have hs : Sep w [OE ev xs, OI iv g.i, OI ov g.o] := h
  have he := OE.read hs.hd
  rw [hx] at he
  exact ⟨he, OwnInts.read (show OwnInts 0 w iv g.i from hs.tl.hd), OwnInts.read (show OwnInts 0 w ov g.o from hs.tl.tl.hd)⟩
/-- What hands back a graph of its own, told by the slices. -/
def Gives3 (K : Gr) (w : World) (out : Value → Value) (e : Ending) (w' : World) : Prop :=
  ∃ a c p q r s xs, e = .returned (out (.agg #[.int .i64 K.n, .slice a K.es.length c, .slice p K.i.length q, .slice r K.o.length s])) ∧ eds xs = K.es ∧
    Sep w' [OX3 (.slice a K.es.length c) xs (.slice p K.i.length q) K.i (.slice r K.o.length s) K.o, KeepA w]
theorem gives3_of {K : Gr} {w w' : World} {out : Value → Value} {e : Ending} {u0 : Value} {xs : List XE} {u1 u2 : Value} (he : e = .returned (out (grV K.n u0 u1 u2))) (hx : eds xs = K.es) (hs : Sep w' [OE u0 xs, OI u1 K.i, OI u2 K.o, KeepA w]) : Gives3 K w out e w' := by
  obtain ⟨a, c, rfl⟩ := OE.shape hs.hd
  obtain ⟨p, q, rfl⟩ := own_shape (show OwnInts 0 w' u1 K.i from hs.tl.hd)
  obtain ⟨r, s, rfl⟩ := own_shape (show OwnInts 0 w' u2 K.o from hs.tl.tl.hd)
  have hl : xs.length = K.es.length := by rw [← hx, eds_len]
  rw [hl] at hs he
  exact ⟨a, c, p, q, r, s, xs, he, hx, Sep.bag (l := [_, _, _]) hs⟩
theorem toGraph_sh (g : Gr) (ev iv ov : Value) (w : World) (he : RdE argEdE w ev g.es) (hi : IntsV w iv g.i) (ho : IntsV w ov g.o) (ht : totG g ≤ 1048576) :
    Calls Tryd.prog 24 #[grV g.n ev iv ov] w (Gives3 g w id) := by
  have hsm := Sm.of ht
  refine (toGraph_any ev iv ov g w he hi ho (by have := hsm.es; omega) (by have := hsm.i; omega) (by have := hsm.o; omega) (fun e he => by have := hsm.ed e he; omega)).mono ?_
  rintro e w' ⟨u0, xs, u1, u2, rfl, hx, hs⟩
  exact gives3_of rfl hx hs
theorem eqGraph_sh (g : Gr) (w : World) (u0 u1 u2 v0 v1 v2 : Value) (h : RdX w g u0 u1 u2) (k : RdX w g v0 v1 v2) (ht : totG g ≤ 1048576) :
    Calls Tryd.prog 26 #[grV g.n u0 u1 u2, grV g.n v0 v1 v2] w fun e w' => e = .returned (.bool true) ∧ w.grownBy w' none := by
  have hsm := Sm.of ht
  exact eqGraph_same u0 u1 u2 v0 v1 v2 g w h.1 h.2.1 h.2.2 k.1 k.2.1 k.2.2 (by have := hsm.es; omega) (by have := hsm.i; omega) (by have := hsm.o; omega) (fun e he => by have := hsm.ed e he; omega)
/-- How far a graph counts. -/
def wX (g : Gr) : Nat := wEs g.es + g.i.length + g.o.length
/-- A graph whose numbers are marks from k on. -/
def mkX3 (k : Int) (g : Gr) : Gr := ⟨g.n, mkEs k g.es, cntI (k + wEs g.es) g.i.length, cntI (k + wEs g.es + g.i.length) g.o.length⟩
theorem markGraph_sh (u0 u1 u2 : Value) (xs : List XE) (g : Gr) (k : Int) (w : World) (l : List Asrt) (hs : Sep w (OX3 u0 xs u1 g.i u2 g.o :: l)) (hx : eds xs = g.es) (hl : totG g ≤ 1048576) (h0 : 0 ≤ k) (h1 : k ≤ 1000000) :
    Calls Tryd.prog 27 #[grV g.n u0 u1 u2, .int .i64 k] w fun e w' => e = .returned (.int .i64 (k + wX g)) ∧ Sep w' (OX3 u0 (mkXs k xs) u1 (mkX3 k g).i u2 (mkX3 k g).o :: l) ∧ eds (mkXs k xs) = (mkX3 k g).es := by
  refine (markGraph_any u0 u1 u2 xs g k w l (Sep.unbag hs) hx hl h0 h1).mono ?_
  rintro e w' ⟨rfl, hsg⟩
  refine ⟨by unfold wX; rw [show (k + wEs g.es + g.i.length + g.o.length : Int) = k + ((wEs g.es + g.i.length + g.o.length : Nat) : Int) by omega], Sep.bag (l := [_, _, _]) hsg, ?_⟩
  rw [eds_mk, hx]
  rfl
/-- A valid graph is small. -/
theorem grB_small {g : Gr} (h : grB g = true) : totG g ≤ 1048576 := by
  obtain ⟨m, hm, hm1, hg1, hg2, hg3, _, hle, _⟩ := grB_n h
  have he : ∀ e ∈ g.es, totE e ≤ 4 := fun e he => by
    have := hle e he
    unfold totE
    omega
  have ht : ∀ es : List Ed, (∀ e ∈ es, totE e ≤ 4) → totEs es ≤ 4 * es.length := fun es => by
    induction es with
    | nil => intro _; simp [totEs]
    | cons e es ih => intro h; have := ih (fun x hx => h x (by simp [hx])); have := h e (by simp); simp only [totEs, List.length_cons]; omega
  have := ht g.es he
  unfold totG
  omega
end Go.Proofs.YtghfifpicklonaaDoor

/-
  A graph is marked, from greater numbers on. Conditions: the graph is small.
-/
namespace Go.Proofs.YtghfifpicklonaaDoor
open Go.RowKit
set_option linter.unusedVariables false
set_option maxRecDepth 100000

set_option maxHeartbeats 1000000 in
theorem markGraph_big (u0 u1 u2 : Value) (xs : List XE) (g : Gr) (k : Int) (w : World) (l : List Asrt) (hs : Sep w (OE u0 xs :: OI u1 g.i :: OI u2 g.o :: l)) (hx : eds xs = g.es) (hl : totG g ≤ 1048576) (h0 : 0 ≤ k) (h1 : k ≤ 30000000) :
    Calls Tryd.prog 27 #[grV g.n u0 u1 u2, .int .i64 k] w fun e w' => e = .returned (.int .i64 (k + wEs g.es + g.i.length + g.o.length)) ∧ Sep w' (OE u0 (mkXs k xs) :: OI u1 (cntI (k + wEs g.es) g.i.length) :: OI u2 (cntI (k + wEs g.es + g.i.length) g.o.length) :: l) := by
  have hw := wEs_tot g.es
  unfold totG at hl
  obtain ⟨a0, c0, rfl⟩ := OE.shape hs.hd
  obtain ⟨a1, c1, rfl⟩ := own_shape (show OwnInts 0 w u1 g.i from hs.tl.hd)
  obtain ⟨a2, c2, rfl⟩ := own_shape (show OwnInts 0 w u2 g.o from hs.tl.tl.hd)
  obtain ⟨q, hq⟩ : ∃ q, q = k + (wEs g.es : Int) := ⟨_, rfl⟩
  obtain ⟨q2, hq2⟩ : ∃ q2, q2 = q + (g.i.length : Int) := ⟨_, rfl⟩
  have HE := Lib.hid fun W l (h : Sep W (OE (.slice a0 xs.length c0) xs :: l)) => markEdgeS_any a0 xs.length c0 xs k W l h rfl (by rw [hx]; omega) (by rw [hx]; omega) h0 (by omega)
  have HI := Lib.hid fun W l (h : Sep W (OI (.slice a1 g.i.length c1) g.i :: l)) => markIntS_any a1 g.i.length c1 g.i q W l h rfl (by omega) (by omega) (by omega)
  have HO := Lib.hid fun W l (h : Sep W (OI (.slice a2 g.o.length c2) g.o :: l)) => markIntS_any a2 g.o.length c2 g.o q2 W l h rfl (by omega) (by omega) (by omega)
  rw [hx, ← hq] at HE
  rw [← hq2] at HI
  rw [← hq, ← hq2]
  unfold grV
  have hs0 := hs.box #[.int .i64 g.n, .slice a0 xs.length c0, .slice a1 g.i.length c1, .slice a2 g.o.length c2] 56
  have HS0 := Lib.hid hs0.s2
  clear hs hs0 hq hq2 hw hx hl
  generalize g.i.length = n1 at *
  generalize g.o.length = n2 at *
  generalize xs.length = n0 at *
  go_enter Tryd.func27, Tryd.ntmps27
  go_wp2_with (first
    | (go_at_call 66
       with_reducible refine (HE.out _ _ HS0.out).mono ?_
       rintro e w4 ⟨rfl, hs⟩
       obtain ⟨x0, x1, x2, x3, _⟩ := bq4 hs.tl.hd
       have HS1 := Lib.hid hs.s3
       clear hs)
    | (go_at_call 41
       with_reducible refine (HI.out _ _ HS1.out).mono ?_
       rintro e w6 ⟨rfl, hs⟩
       obtain ⟨x0, x1, x2, x3, _⟩ := bq4 hs.tl.tl.hd
       have HS2 := Lib.hid hs.s4
       clear hs)
    | (go_at_call 41
       with_reducible refine (HO.out _ _ HS2.out).mono ?_
       rintro e w7 ⟨rfl, hs⟩
       have HS3 := Lib.hid (show Sep w7 (OE _ _ :: OI _ _ :: OI _ _ :: l) from hs.s3.under (fun h => h.s2.under (fun h => h.under (fun h => h.tl) (by simp +contextual)) (by simp +contextual)) (by simp +contextual))
       clear hs))
  go_ret
  exact ⟨rfl, HS3.out⟩
/-- Parts let go. -/

theorem markGraph_go (u0 u1 u2 : Value) (xs : List XE) (g : Gr) (k : Int) (w : World) (l : List Asrt) (hs : Sep w (OX3 u0 xs u1 g.i u2 g.o :: l)) (hx : eds xs = g.es) (hl : totG g ≤ 1048576) (h0 : 0 ≤ k) (h1 : k ≤ 27000000) :
    Calls Tryd.prog 27 #[grV g.n u0 u1 u2, .int .i64 k] w fun e w' => ∃ r : Int, e = .returned (.int .i64 r) ∧ 0 ≤ r ∧ r ≤ k + 3000000 ∧ Sep w' l := by
  refine (markGraph_big u0 u1 u2 xs g k w l (Sep.unbag hs) hx hl h0 (by omega)).mono ?_
  rintro e w' ⟨rfl, hsg⟩
  have hw := wEs_tot g.es
  unfold totG at hl
  exact ⟨_, rfl, by omega, by omega, hsg.tl.tl.tl⟩
end Go.Proofs.YtghfifpicklonaaDoor

/-
  Which edges need which, and the order in which each edge stands behind those that it needs. Plain mathematics. Conditions: none.
-/
namespace Go.Proofs.YtghfifpicklonaaDoor
open Go.RowKit
set_option linter.unusedVariables false

def meetB (a b : List Int) : Bool := a.any fun w => decide (w ∈ b)
/-- Edge i takes a wire from edge k. -/
def needB (es : List Ed) (i k : Nat) : Bool := meetB (es.getD i e0).i (es.getD k e0).o
def freeB (es : List Ed) (O : List Nat) (i : Nat) : Bool := !decide (i ∈ O) && (List.range es.length).all fun k => !needB es i k || decide (k ∈ O)
def nextO (es : List Ed) (O : List Nat) : Option Nat := (List.range es.length).find? (freeB es O)
def runO (es : List Ed) : Nat → List Nat
  | 0 => []
  | j + 1 => match nextO es (runO es j) with
    | none => runO es j
    | some i => runO es j ++ [i]
def acyB (es : List Ed) : Bool := decide ((runO es es.length).length = es.length)
theorem next_some {es : List Ed} {O : List Nat} {i : Nat} (h : nextO es O = some i) : i < es.length ∧ i ∉ O ∧ ∀ k, k < es.length → needB es i k = true → k ∈ O := by
  have h1 := List.find?_some h
  have h2 := List.mem_of_find?_eq_some h
  unfold freeB at h1
  simp only [Bool.and_eq_true, Bool.not_eq_true', decide_eq_false_iff_not, List.all_eq_true, List.mem_range, Bool.or_eq_true, decide_eq_true_iff] at h1
  refine ⟨List.mem_range.1 h2, h1.1, fun k hk hn => ?_⟩
  rcases h1.2 k hk with h | h
  · rw [hn] at h; cases h
  · exact h
theorem run_mem {es : List Ed} : ∀ j, (∀ i ∈ runO es j, i < es.length) ∧ (runO es j).Nodup ∧ (runO es j).length ≤ j
  | 0 => by simp [runO]
  | j + 1 => by
    obtain ⟨h1, h2, h3⟩ := run_mem (es := es) j
    unfold runO
    cases h : nextO es (runO es j) with
    | none => exact ⟨h1, h2, by simp only; omega⟩
    | some i =>
      obtain ⟨n1, n2, _⟩ := next_some h
      refine ⟨fun x hx => ?_, ?_, by simp only [List.length_append, List.length_singleton]; omega⟩
      · rcases List.mem_append.1 hx with hx | hx
        · exact h1 x hx
        · rw [List.mem_singleton.1 hx]; exact n1
      · exact List.nodup_append.2 ⟨h2, by simp, fun a ha b hb => by rw [List.mem_singleton.1 hb]; exact fun he => n2 (he ▸ ha)⟩
theorem run_stop {es : List Ed} {j : Nat} (h : nextO es (runO es j) = none) : ∀ d, runO es (j + d) = runO es j
  | 0 => rfl
  | d + 1 => by
    show (match nextO es (runO es (j + d)) with | none => runO es (j + d) | some i => runO es (j + d) ++ [i]) = runO es j
    rw [run_stop h d, h]
theorem run_succ {es : List Ed} {j i : Nat} (h : nextO es (runO es j) = some i) : runO es (j + 1) = runO es j ++ [i] := by
  show (match nextO es (runO es j) with | none => runO es j | some i => runO es j ++ [i]) = _
  rw [h]
/-- A list of m different numbers below m holds each of them. -/
theorem all_in : ∀ {m : Nat} {O : List Nat}, O.Nodup → (∀ i ∈ O, i < m) → O.length = m → ∀ i, i < m → i ∈ O := by
  intro m O hn hl hm i hi
  have hnd : (O.map fun x : Nat => (x : Int)).Nodup := List.pairwise_map.2 (hn.imp fun {a b} hab he => hab (by omega))
  have h1 := (perm_count (l := O.map fun x : Nat => (x : Int)) (n := m) (fun x hx => by
    obtain ⟨y, hy, rfl⟩ := List.mem_map.1 hx
    have := hl y hy
    omega)).1 ⟨by rw [List.length_map]; exact hm, hnd⟩ i hi
  have h2 : (i : Int) ∈ O.map fun x : Nat => (x : Int) := List.count_pos_iff.1 (by omega)
  obtain ⟨y, hy, he⟩ := List.mem_map.1 h2
  have : y = i := by omega
  exact this ▸ hy
/-- What holds for an edge whenever it holds for those that it needs, holds for all, where the order lists all. -/
theorem acy_ind {es : List Ed} (h : acyB es = true) (P : Nat → Prop) (hs : ∀ i, i < es.length → (∀ k, k < es.length → needB es i k = true → P k) → P i) : ∀ i, i < es.length → P i := by
  have hr : ∀ j, ∀ i ∈ runO es j, P i := by
    intro j
    induction j with
    | zero => intro i hi; simp [runO] at hi
    | succ j ih =>
      intro i hi
      cases hn : nextO es (runO es j) with
      | none =>
        unfold runO at hi
        rw [hn] at hi
        exact ih i hi
      | some x =>
        rw [run_succ hn] at hi
        rcases List.mem_append.1 hi with hi | hi
        · exact ih i hi
        · rw [List.mem_singleton.1 hi]
          obtain ⟨h1, _, h3⟩ := next_some hn
          exact hs x h1 fun k hk hne => ih k (h3 k hk hne)
  intro i hi
  obtain ⟨h1, h2, _⟩ := run_mem (es := es) es.length
  exact hr _ i (all_in h2 h1 (of_decide_eq_true h) i hi)
end Go.Proofs.YtghfifpicklonaaDoor

/-
  From which gate a wire has its value: gates and inputs first, copies pass on what they have. Plain mathematics. Conditions: as each says.
-/
namespace Go.Proofs.YtghfifpicklonaaDoor
open Go.RowKit
set_option linter.unusedVariables false

def isGt (e : Ed) : Bool := decide (5 ≤ e.k)
/-- The inputs' wires have their numbers. -/
def inM (n : Nat) (is : List Int) : Nat → List Int
  | 0 => List.replicate n (-1)
  | k + 1 => (inM n is k).set (is.getD k 0).toNat (k : Int)
/-- The gates' wires have their numbers; how many gates there are so far. -/
def gtM (base : List Int) (nI : Nat) (es : List Ed) : Nat → List Int × Nat
  | 0 => (base, 0)
  | j + 1 => if isGt (es.getD j e0) = true then ((gtM base nI es j).1.set ((es.getD j e0).o.getD 0 0).toNat ((nI + (gtM base nI es j).2 : Nat) : Int), (gtM base nI es j).2 + 1) else gtM base nI es j
def srcG (n : Nat) (g : Gr) : List Int := (gtM (inM n g.i g.i.length) g.i.length g.es g.es.length).1
theorem inM_len (n : Nat) (is : List Int) : ∀ k, (inM n is k).length = n
  | 0 => by simp [inM]
  | k + 1 => by simp [inM, inM_len n is k]
theorem gtM_len (base : List Int) (nI : Nat) (es : List Ed) : ∀ j, (gtM base nI es j).1.length = base.length
  | 0 => rfl
  | j + 1 => by
    unfold gtM
    split
    · simp [gtM_len base nI es j]
    · exact gtM_len base nI es j
theorem srcG_len (n : Nat) (g : Gr) : (srcG n g).length = n := by unfold srcG; rw [gtM_len, inM_len]
theorem getD_set {L : List Int} {a w : Nat} {v d : Int} : (L.set a v).getD w d = if a = w ∧ a < L.length then v else L.getD w d := by
  simp only [List.getD_eq_getElem?_getD, List.getElem?_set]
  by_cases h : a = w
  · subst h
    by_cases h2 : a < L.length
    · simp [h2]
    · simp [h2]
  · simp [h]
theorem in_pos {n : Nat} {is : List Int} (hr : ∀ x ∈ is, 0 ≤ x ∧ x < (n : Int)) {w : Nat} (hw : w < n) : ∀ k, k ≤ is.length → (0 ≤ (inM n is k).getD w (-1) ↔ ∃ i, i < k ∧ is.getD i 0 = (w : Int))
  | 0, _ => by
    unfold inM
    rw [List.getD_eq_getElem?_getD, List.getElem?_replicate, if_pos hw]
    simp
  | k + 1, hk => by
    have ih := in_pos hr hw k (by omega)
    have hx := hr (is.getD k 0) (by rw [List.getD_eq_getElem?_getD, List.getElem?_eq_getElem (show k < is.length by omega)]; exact List.getElem_mem _)
    unfold inM
    rw [getD_set, inM_len]
    by_cases h : (is.getD k 0).toNat = w
    · rw [if_pos ⟨h, by omega⟩]
      exact ⟨fun _ => ⟨k, by omega, by omega⟩, fun _ => by omega⟩
    · rw [if_neg (fun q => h q.1), ih]
      constructor
      · rintro ⟨i, h1, h2⟩; exact ⟨i, by omega, h2⟩
      · rintro ⟨i, h1, h2⟩
        refine ⟨i, ?_, h2⟩
        rcases Nat.lt_or_ge i k with h3 | h3
        · exact h3
        · have : i = k := by omega
          subst this
          omega
theorem gt_pos {n nI : Nat} {base : List Int} {es : List Ed} (hb : base.length = n) (hr : ∀ e ∈ es, isGt e = true → 0 ≤ e.o.getD 0 0 ∧ e.o.getD 0 0 < (n : Int)) {w : Nat} (hw : w < n) :
    ∀ j, j ≤ es.length → (0 ≤ (gtM base nI es j).1.getD w (-1) ↔ 0 ≤ base.getD w (-1) ∨ ∃ i, i < j ∧ isGt (es.getD i e0) = true ∧ (es.getD i e0).o.getD 0 0 = (w : Int))
  | 0, _ => by
    unfold gtM
    exact ⟨Or.inl, fun h => h.elim id fun ⟨i, h, _⟩ => absurd h (Nat.not_lt_zero i)⟩
  | j + 1, hj => by
    have ih := gt_pos (nI := nI) hb hr hw j (by omega)
    have hm : es.getD j e0 ∈ es := by rw [List.getD_eq_getElem?_getD, List.getElem?_eq_getElem (show j < es.length by omega)]; exact List.getElem_mem _
    unfold gtM
    by_cases hg : isGt (es.getD j e0) = true
    · have hx := hr _ hm hg
      rw [if_pos hg]
      simp only
      rw [getD_set, gtM_len, hb]
      by_cases h : ((es.getD j e0).o.getD 0 0).toNat = w
      · rw [if_pos ⟨h, by omega⟩]
        exact ⟨fun _ => Or.inr ⟨j, by omega, hg, by omega⟩, fun _ => by omega⟩
      · rw [if_neg (fun q => h q.1), ih]
        constructor
        · rintro (h1 | ⟨i, h1, h2⟩)
          · exact Or.inl h1
          · exact Or.inr ⟨i, by omega, h2⟩
        · rintro (h1 | ⟨i, h1, h2, h3⟩)
          · exact Or.inl h1
          · refine Or.inr ⟨i, ?_, h2, h3⟩
            rcases Nat.lt_or_ge i j with h4 | h4
            · exact h4
            · have : i = j := by omega
              subst this
              omega
    · rw [if_neg hg, ih]
      constructor
      · rintro (h1 | ⟨i, h1, h2⟩)
        · exact Or.inl h1
        · exact Or.inr ⟨i, by omega, h2⟩
      · rintro (h1 | ⟨i, h1, h2, h3⟩)
        · exact Or.inl h1
        · refine Or.inr ⟨i, ?_, h2, h3⟩
          rcases Nat.lt_or_ge i j with h4 | h4
          · exact h4
          · have : i = j := by omega
            subst this
            exact absurd h2 hg
/-! ### the chain of copies -/
def orgI (es : List Ed) (w : Int) : Option Nat := (List.range es.length).find? fun i => decide (w ∈ (es.getD i e0).o)
def fromF (G : List Int) (es : List Ed) : Nat → Int → Int
  | 0, w => G.getD w.toNat (-1)
  | f + 1, w => if 0 ≤ G.getD w.toNat (-1) then G.getD w.toNat (-1) else match orgI es w with
    | none => -1
    | some i => fromF G es f ((es.getD i e0).i.getD 0 0)
theorem fromF_succ {G : List Int} {es : List Ed} : ∀ {f : Nat} {w : Int}, 0 ≤ fromF G es f w → fromF G es (f + 1) w = fromF G es f w
  | 0, w, h => by
    unfold fromF at h
    show (if 0 ≤ G.getD w.toNat (-1) then G.getD w.toNat (-1) else _) = G.getD w.toNat (-1)
    rw [if_pos h]
  | f + 1, w, h => by
    have hs : ∀ f, fromF G es (f + 1) w = if 0 ≤ G.getD w.toNat (-1) then G.getD w.toNat (-1) else match orgI es w with | none => -1 | some i => fromF G es f ((es.getD i e0).i.getD 0 0) := fun _ => rfl
    rw [hs] at h ⊢
    rw [hs]
    by_cases h0 : 0 ≤ G.getD w.toNat (-1)
    · rw [if_pos h0, if_pos h0]
    · rw [if_neg h0] at h ⊢
      rw [if_neg h0]
      cases ho : orgI es w with
      | none => rfl
      | some i =>
        rw [ho] at h
        exact fromF_succ h
theorem fromF_add {G : List Int} {es : List Ed} {f : Nat} {w : Int} (h : 0 ≤ fromF G es f w) : ∀ d, fromF G es (f + d) w = fromF G es f w
  | 0 => rfl
  | d + 1 => by
    have := fromF_add h d
    show fromF G es ((f + d) + 1) w = _
    rw [fromF_succ (by rw [this]; exact h), this]
theorem fromF_det {G : List Int} {es : List Ed} {f f' : Nat} {w : Int} (h : 0 ≤ fromF G es f w) (h' : 0 ≤ fromF G es f' w) : fromF G es f w = fromF G es f' w := by
  rcases Nat.le_total f f' with hl | hl
  · have := fromF_add h (f' - f)
    rw [show f + (f' - f) = f' by omega] at this
    exact this.symm
  · have := fromF_add h' (f - f')
    rw [show f' + (f - f') = f by omega] at this
    exact this
/-- Whence a wire has its value. -/
noncomputable def srcV (G : List Int) (es : List Ed) (w : Int) : Int := open Classical in if h : ∃ f, 0 ≤ fromF G es f w then fromF G es h.choose w else -1
theorem srcV_eq {G : List Int} {es : List Ed} {f : Nat} {w : Int} (h : 0 ≤ fromF G es f w) : srcV G es w = fromF G es f w := by
  unfold srcV
  have hx : ∃ f, 0 ≤ fromF G es f w := ⟨f, h⟩
  rw [dif_pos hx]
  exact fromF_det hx.choose_spec h
theorem least {P : Nat → Prop} : ∀ (b f : Nat), f ≤ b → P f → ∃ m, P m ∧ ∀ k, k < m → ¬ P k
  | 0, f, hf, h => ⟨f, h, fun k hk => by omega⟩
  | b + 1, f, hf, h => by
    by_cases hx : ∃ k, k < f ∧ P k
    · obtain ⟨k, hk, hp⟩ := hx
      exact least b k (by omega) hp
    · exact ⟨f, h, fun k hk hp => hx ⟨k, hk, hp⟩⟩
/-- How long the chain is. -/
noncomputable def depF (G : List Int) (es : List Ed) (w : Int) : Nat := open Classical in if h : ∃ m, 0 ≤ fromF G es m w ∧ ∀ k, k < m → ¬ 0 ≤ fromF G es k w then h.choose else 0
theorem src_here {G : List Int} {es : List Ed} {w : Int} (h : 0 ≤ G.getD w.toNat (-1)) : srcV G es w = G.getD w.toNat (-1) := srcV_eq (f := 0) h
theorem src_back {G : List Int} {es : List Ed} {w : Int} (hx : ∃ f, 0 ≤ fromF G es f w) (h : G.getD w.toNat (-1) < 0) :
    ∃ i, orgI es w = some i ∧ (∃ f, 0 ≤ fromF G es f ((es.getD i e0).i.getD 0 0)) ∧ srcV G es w = srcV G es ((es.getD i e0).i.getD 0 0) ∧ depF G es ((es.getD i e0).i.getD 0 0) < depF G es w := by
  obtain ⟨f, hf⟩ := hx
  have hm := least (P := fun m => 0 ≤ fromF G es m w) f f (Nat.le_refl _) hf
  have hd : depF G es w = hm.choose := by unfold depF; rw [dif_pos hm]
  obtain ⟨h1, h2⟩ := hm.choose_spec
  rw [hd]
  generalize hm.choose = m at *
  cases m with
  | zero => unfold fromF at h1; omega
  | succ m =>
    have hs : fromF G es (m + 1) w = match orgI es w with | none => -1 | some i => fromF G es m ((es.getD i e0).i.getD 0 0) := by
      show (if 0 ≤ G.getD w.toNat (-1) then _ else _) = _
      rw [if_neg (by omega)]
    cases ho : orgI es w with
    | none => rw [hs, ho] at h1; exact absurd (show (0 : Int) ≤ -1 from h1) (by decide)
    | some i =>
      rw [hs, ho] at h1
      refine ⟨i, rfl, ⟨m, h1⟩, ?_, ?_⟩
      · rw [srcV_eq (f := m + 1) (by rw [hs, ho]; exact h1), srcV_eq h1, hs, ho]
      · have hm2 := least (P := fun m => 0 ≤ fromF G es m ((es.getD i e0).i.getD 0 0)) m m (Nat.le_refl _) h1
        have hd2 : depF G es ((es.getD i e0).i.getD 0 0) = hm2.choose := by unfold depF; rw [dif_pos hm2]
        rw [hd2]
        obtain ⟨_, h4⟩ := hm2.choose_spec
        rcases Nat.lt_or_ge m hm2.choose with h5 | h5
        · exact absurd h1 (h4 m h5)
        · omega
theorem src_copy {G : List Int} {es : List Ed} {w : Int} {i f : Nat} (h : G.getD w.toNat (-1) < 0) (ho : orgI es w = some i) (hf : 0 ≤ fromF G es f ((es.getD i e0).i.getD 0 0)) : 0 ≤ fromF G es (f + 1) w ∧ srcV G es w = srcV G es ((es.getD i e0).i.getD 0 0) := by
  have hs : fromF G es (f + 1) w = fromF G es f ((es.getD i e0).i.getD 0 0) := by
    show (if 0 ≤ G.getD w.toNat (-1) then _ else match orgI es w with | none => -1 | some i => fromF G es f ((es.getD i e0).i.getD 0 0)) = _
    rw [if_neg (by omega), ho]
  refine ⟨by rw [hs]; exact hf, ?_⟩
  rw [srcV_eq (f := f + 1) (by rw [hs]; exact hf), srcV_eq hf, hs]
end Go.Proofs.YtghfifpicklonaaDoor

/-
  In a monogamous graph that leads back only by delays each wire has its value from a gate or an input. Plain mathematics. Conditions: as each says.
-/
namespace Go.Proofs.YtghfifpicklonaaDoor
open Go.RowKit
set_option linter.unusedVariables false

/-- The edges that are no delays. -/
def ndE (es : List Ed) : List Ed := es.filter fun e => decide (e.k ≠ 8)
/-- What is asked of a graph that is to be a circuit. -/
structure CgOk (g : Gr) (n : Nat) : Prop where
  en : g.n = n
  ln : n ≤ 100
  le : g.es.length ≤ 60
  li : g.i.length ≤ 12
  lo : g.o.length ≤ 12
  ri : ∀ x ∈ g.i, 0 ≤ x ∧ x < (n : Int)
  ro : ∀ x ∈ g.o, 0 ≤ x ∧ x < (n : Int)
  re : ∀ e ∈ g.es, (∀ x ∈ e.i, 0 ≤ x ∧ x < (n : Int)) ∧ ∀ x ∈ e.o, 0 ≤ x ∧ x < (n : Int)
  rl : ∀ e ∈ g.es, e.i.length ≤ 2 ∧ e.o.length ≤ 2
  k1 : ∀ e ∈ g.es, 3 ≤ e.k ∧ e.k ≤ 8
  w3 : ∀ e ∈ g.es, e.k = 3 → e.i.length = 1 ∧ e.o.length = 2
  w4 : ∀ e ∈ g.es, e.k = 4 → e.o.length = 0
  w5 : ∀ e ∈ g.es, isGt e = true → e.o.length = 1
  v7 : ∀ e ∈ g.es, e.k ≠ 7 → e.v = 0
  all : ∀ w, w < n → (w : Int) ∈ g.i ∨ ∃ i, i < g.es.length ∧ (w : Int) ∈ (g.es.getD i e0).o
  one : ∀ (a b : Nat) (x : Int), a < g.es.length → b < g.es.length → x ∈ (g.es.getD a e0).o → x ∈ (g.es.getD b e0).o → a = b
  apt : ∀ x ∈ g.i, ∀ i, i < g.es.length → x ∉ (g.es.getD i e0).o
  two : ∀ i, i < g.es.length → (g.es.getD i e0).o.Nodup
theorem uniq_flatC {S : Ed → List Int} {es : List Ed} (h : (es.flatMap S).Nodup) {a b : Nat} {x : Int} (ha : a < es.length) (hb : b < es.length) (h1 : x ∈ S (es.getD a e0)) (h2 : x ∈ S (es.getD b e0)) : a = b := by
  have hp := (List.pairwise_flatMap.1 h).2
  rw [List.pairwise_iff_getElem] at hp
  have ga : es.getD a e0 = es[a] := by rw [List.getD_eq_getElem?_getD, List.getElem?_eq_getElem ha]; rfl
  have gb : es.getD b e0 = es[b] := by rw [List.getD_eq_getElem?_getD, List.getElem?_eq_getElem hb]; rfl
  rw [ga] at h1
  rw [gb] at h2
  rcases Nat.lt_trichotomy a b with hl | hl | hl
  · exact absurd rfl (hp a b ha hb hl x h1 x h2)
  · exact hl
  · exact absurd rfl (hp b a hb ha hl x h2 x h1)
theorem esMem {es : List Ed} {i : Nat} (h : i < es.length) : es.getD i e0 ∈ es := by
  rw [List.getD_eq_getElem?_getD, List.getElem?_eq_getElem h]; exact List.getElem_mem _
theorem cg_ok {g : Gr} (h1 : grB g = true) (h2 : monB g = true) (h3 : ∀ e ∈ g.es, e.k ≤ 8) : ∃ n, CgOk g n := by
  obtain ⟨n, hn, ln, le, li, lo, hr, hl, hall⟩ := grB_n h1
  have hr := rngB_iff.1 hr
  rw [hn] at hr
  have hE : ∀ e ∈ g.es, edB e = true := List.all_eq_true.1 hall
  unfold monB permB at h2
  simp only [Bool.and_eq_true, decide_eq_true_iff] at h2
  obtain ⟨⟨⟨m1, m2⟩, m3⟩, _⟩ := h2
  have hfr : ∀ x ∈ fromL g, 0 ≤ x ∧ x < (n : Int) := fun x hx => hr x (mem_wires.2 (Or.inl hx))
  have hc := (perm_count hfr).1 ⟨by omega, m3⟩
  have m4 := List.nodup_append.1 m3
  have hED : ∀ e ∈ g.es, (inB e.k 3 14 = true ∧ valB e.k e.v = true) ∧ (e.i.length, e.o.length) = edW e.k := fun e he => by
    have := hE e he
    unfold edB at this
    simpa only [Bool.and_eq_true, decide_eq_true_iff] using this
  have hk3 : ∀ e ∈ g.es, 3 ≤ e.k := fun e he => by
    have := (hED e he).1.1
    rw [inB_iff] at this
    exact this.1
  have hmf : ∀ i, i < g.es.length → ∀ x ∈ (g.es.getD i e0).o, x ∈ g.es.flatMap fun e => e.o := fun i hi x hx => List.mem_flatMap.2 ⟨_, esMem hi, hx⟩
  refine ⟨n, ⟨hn, ln, le, li, lo, fun x hx => ?_, fun x hx => ?_, fun e he => ⟨fun x hx => ?_, fun x hx => ?_⟩, hl, fun e he => ⟨hk3 e he, h3 e he⟩, fun e he hk => ?_, fun e he hk => ?_, fun e he hk => ?_, fun e he hk => ?_, fun w hw => ?_, fun a b x ha hb hxa hxb => ?_, fun x hx i hi hxo => ?_, fun i hi => ?_⟩⟩
  · exact hr x (by unfold wiresL; exact List.mem_append_left _ hx)
  · exact hr x (by unfold wiresL; exact List.mem_append_right _ (List.mem_append_left _ hx))
  · exact hr x (by unfold wiresL wiresE; exact List.mem_append_right _ (List.mem_append_right _ (List.mem_flatMap.2 ⟨e, he, List.mem_append_left _ hx⟩)))
  · exact hr x (by unfold wiresL wiresE; exact List.mem_append_right _ (List.mem_append_right _ (List.mem_flatMap.2 ⟨e, he, List.mem_append_right _ hx⟩)))
  · have := (hED e he).2
    unfold edW at this
    rw [hk] at this
    simp at this
    exact this
  · have := (hED e he).2
    unfold edW at this
    rw [hk] at this
    simp at this
    simp [this.2]
  · have hw := (hED e he).2
    have h8 := h3 e he
    have h5 : 5 ≤ e.k := of_decide_eq_true hk
    unfold edW at hw
    rw [if_neg (by omega), if_neg (by omega)] at hw
    by_cases q1 : e.k = 5
    · rw [if_pos (Or.inl q1)] at hw; injection hw
    · rw [if_neg (by omega)] at hw
      by_cases q2 : e.k = 6
      · rw [if_pos (Or.inl q2)] at hw; injection hw
      · rw [if_neg (by omega)] at hw; injection hw
  · have hv := (hED e he).1.2
    have h8 := h3 e he
    unfold valB at hv
    rw [if_neg (by omega)] at hv
    exact of_decide_eq_true hv
  · have h4 := hc w hw
    have h5 : (w : Int) ∈ fromL g := List.count_pos_iff.1 (by omega)
    rcases List.mem_append.1 h5 with h6 | h6
    · exact Or.inl h6
    · obtain ⟨e, he, hx⟩ := List.mem_flatMap.1 h6
      obtain ⟨i, hi, rfl⟩ := List.getElem_of_mem he
      refine Or.inr ⟨i, hi, ?_⟩
      rw [List.getD_eq_getElem?_getD, List.getElem?_eq_getElem hi]
      exact hx
  · exact uniq_flatC (S := fun e => e.o) m4.2.1 ha hb hxa hxb
  · exact m4.2.2 x hx x (hmf i hi x hxo) rfl
  · have := (List.pairwise_flatMap.1 m4.2.1).1 _ (esMem hi)
    exact this
theorem head_mem {l : List Int} (h : 0 < l.length) : l.getD 0 0 ∈ l := by
  rw [List.getD_eq_getElem?_getD, List.getElem?_eq_getElem h]
  exact List.getElem_mem _
theorem head_one {l : List Int} {x : Int} (h : l.length = 1) (hx : x ∈ l) : l.getD 0 0 = x := by
  match l, h with
  | [y], _ => exact (List.mem_singleton.1 hx).symm
theorem srcG_pos {g : Gr} {n : Nat} (h : CgOk g n) {w : Nat} (hw : w < n) : 0 ≤ (srcG n g).getD w (-1) ↔ (w : Int) ∈ g.i ∨ ∃ i, i < g.es.length ∧ isGt (g.es.getD i e0) = true ∧ (w : Int) ∈ (g.es.getD i e0).o := by
  unfold srcG
  rw [gt_pos (inM_len n g.i _) (fun e he hg => ?_) hw _ (Nat.le_refl _), in_pos h.ri hw _ (Nat.le_refl _)]
  · constructor
    · rintro (⟨i, h1, h2⟩ | ⟨i, h1, h2, h3⟩)
      · refine Or.inl ?_
        rw [← h2, List.getD_eq_getElem?_getD, List.getElem?_eq_getElem h1]
        exact List.getElem_mem _
      · refine Or.inr ⟨i, h1, h2, ?_⟩
        have hl := h.w5 _ (esMem h1) h2
        rw [← h3]
        exact head_mem (by omega)
    · rintro (h1 | ⟨i, h1, h2, h3⟩)
      · obtain ⟨i, hi, he⟩ := List.getElem_of_mem h1
        refine Or.inl ⟨i, hi, ?_⟩
        rw [List.getD_eq_getElem?_getD, List.getElem?_eq_getElem hi]
        exact he
      · refine Or.inr ⟨i, h1, h2, ?_⟩
        have hl := h.w5 _ (esMem h1) h2
        exact head_one hl h3
  · have hl := h.w5 e he hg
    exact (h.re e he).2 _ (head_mem (by omega))
theorem org_at {g : Gr} {n : Nat} (h : CgOk g n) {i : Nat} {x : Int} (hi : i < g.es.length) (hx : x ∈ (g.es.getD i e0).o) : orgI g.es x = some i := by
  unfold orgI
  cases ho : (List.range g.es.length).find? fun i => decide (x ∈ (g.es.getD i e0).o) with
  | none =>
    have := List.find?_eq_none.1 ho i (List.mem_range.2 hi)
    simp only [decide_eq_true_iff] at this
    exact absurd hx this
  | some j =>
    have h1 := List.find?_some ho
    have h1 : x ∈ (g.es.getD j e0).o := by simpa using h1
    have h2 := List.mem_range.1 (List.mem_of_find?_eq_some ho)
    rw [h.one i j x hi h2 hx h1]
/-- A wire that has no value at once stands behind a copy. -/
theorem copy_at {g : Gr} {n : Nat} (h : CgOk g n) {w : Nat} (hw : w < n) (h0 : (srcG n g).getD w (-1) < 0) : ∃ i, i < g.es.length ∧ (w : Int) ∈ (g.es.getD i e0).o ∧ (g.es.getD i e0).k = 3 := by
  have hn : ¬ ((w : Int) ∈ g.i ∨ ∃ i, i < g.es.length ∧ isGt (g.es.getD i e0) = true ∧ (w : Int) ∈ (g.es.getD i e0).o) := fun hx => by
    have := (srcG_pos h hw).2 hx
    omega
  rcases h.all w hw with h1 | ⟨i, h1, h2⟩
  · exact absurd (Or.inl h1) hn
  · have hk := h.k1 _ (esMem h1)
    refine ⟨i, h1, h2, ?_⟩
    have h5 : ¬ 5 ≤ (g.es.getD i e0).k := fun h5 => hn (Or.inr ⟨i, h1, decide_eq_true h5, h2⟩)
    have h4 : ¬ (g.es.getD i e0).k = 4 := fun h4 => by
      have := h.w4 _ (esMem h1) h4
      rw [List.eq_nil_of_length_eq_zero this] at h2
      cases h2
    omega
theorem copy_neg {g : Gr} {n : Nat} (h : CgOk g n) {i : Nat} (hi : i < g.es.length) (hk : (g.es.getD i e0).k = 3) {w : Nat} (hx : (w : Int) ∈ (g.es.getD i e0).o) : (srcG n g).getD w (-1) < 0 := by
  have hw : w < n := by have := ((h.re _ (esMem hi)).2 _ hx).2; omega
  rcases Int.lt_or_le ((srcG n g).getD w (-1)) 0 with h1 | h1
  · exact h1
  · exfalso
    rcases (srcG_pos h hw).1 h1 with h2 | ⟨j, h2, h3, h4⟩
    · exact h.apt _ h2 i hi hx
    · have := h.one i j _ hi h2 hx h4
      subst this
      have : 5 ≤ (g.es.getD i e0).k := of_decide_eq_true h3
      omega
theorem src_all {g : Gr} {n : Nat} (h : CgOk g n) (ha : acyB (ndE g.es) = true) : ∀ w : Nat, w < n → ∃ f, 0 ≤ fromF (srcG n g) g.es f w := by
  have base : ∀ w : Nat, w < n → 0 ≤ (srcG n g).getD w (-1) → ∃ f, 0 ≤ fromF (srcG n g) g.es f w := fun w _ h0 => ⟨0, h0⟩
  have key : ∀ i, i < (ndE g.es).length → ∀ w : Nat, w < n → (w : Int) ∈ ((ndE g.es).getD i e0).o → ∃ f, 0 ≤ fromF (srcG n g) g.es f w := by
    refine acy_ind ha (fun i => ∀ w : Nat, w < n → (w : Int) ∈ ((ndE g.es).getD i e0).o → ∃ f, 0 ≤ fromF (srcG n g) g.es f w) fun i hi ih w hw hx => ?_
    rcases Int.lt_or_le ((srcG n g).getD w (-1)) 0 with h0 | h0
    · obtain ⟨j, hj, hxj, hk⟩ := copy_at h hw h0
      have hme := esMem hi
      obtain ⟨j', hj', he'⟩ := List.getElem_of_mem (List.mem_filter.1 hme).1
      have hej : g.es.getD j' e0 = (ndE g.es).getD i e0 := by rw [List.getD_eq_getElem?_getD, List.getElem?_eq_getElem hj']; exact he'
      have hjj : j = j' := h.one j j' _ hj hj' hxj (by rw [hej]; exact hx)
      subst hjj
      obtain ⟨l1, l2⟩ := h.w3 _ (esMem hj) hk
      obtain ⟨y, hy⟩ : ∃ y, (g.es.getD j e0).i = [y] := by
        match hq : (g.es.getD j e0).i, l1 with
        | [y], _ => exact ⟨y, rfl⟩
      have hyr := (h.re _ (esMem hj)).1 y (by rw [hy]; simp)
      obtain ⟨v, rfl⟩ : ∃ v : Nat, y = v := ⟨y.toNat, by omega⟩
      have hv : v < n := by omega
      have hfv : ∃ f, 0 ≤ fromF (srcG n g) g.es f v := by
        rcases Int.lt_or_le ((srcG n g).getD v (-1)) 0 with h1 | h1
        · obtain ⟨k, hk1, hk2, hk3⟩ := copy_at h hv h1
          have hmk : g.es.getD k e0 ∈ ndE g.es := List.mem_filter.2 ⟨esMem hk1, decide_eq_true (by omega)⟩
          obtain ⟨k', hk', hek⟩ := List.getElem_of_mem hmk
          have hek' : (ndE g.es).getD k' e0 = g.es.getD k e0 := by rw [List.getD_eq_getElem?_getD, List.getElem?_eq_getElem hk']; exact hek
          refine ih k' hk' ?_ v hv (by rw [hek']; exact hk2)
          unfold needB meetB
          rw [← hej, hy, hek']
          simp only [List.any_cons, List.any_nil, Bool.or_false, decide_eq_true_iff]
          exact hk2
        · exact base v hv h1
      obtain ⟨f, hf⟩ := hfv
      exact ⟨f + 1, (src_copy (by simpa using h0) (org_at h hj hxj) (by rw [hy]; exact hf)).1⟩
    · exact base w hw h0
  intro w hw
  rcases Int.lt_or_le ((srcG n g).getD w (-1)) 0 with h0 | h0
  · obtain ⟨j, hj, hxj, hk⟩ := copy_at h hw h0
    have hmk : g.es.getD j e0 ∈ ndE g.es := List.mem_filter.2 ⟨esMem hj, decide_eq_true (by omega)⟩
    obtain ⟨k', hk', hek⟩ := List.getElem_of_mem hmk
    have hek' : (ndE g.es).getD k' e0 = g.es.getD j e0 := by rw [List.getD_eq_getElem?_getD, List.getElem?_eq_getElem hk']; exact hek
    exact key k' hk' w hw (by rw [hek']; exact hxj)
  · exact base w hw h0
end Go.Proofs.YtghfifpicklonaaDoor

/-
  Small functions on lists of numbers, and whether an edge takes a wire of another. Conditions: lengths are small.
-/
namespace Go.Proofs.YtghfifpicklonaaDoor
open Go.RowKit
set_option linter.unusedVariables false
set_option maxRecDepth 100000

noncomputable def tst (p : Prop) : Bool := @decide p (Classical.propDecidable p)
theorem tst_iff {p : Prop} : tst p = true ↔ p := @decide_eq_true_iff p (Classical.propDecidable p)
theorem tst_not {p : Prop} (h : ¬ p) : tst p = false := by
  cases hx : tst p
  · rfl
  · exact absurd (tst_iff.1 hx) h
theorem index_any (v : Value) (zs : List Int) (x : Int) (m : Nat) (w : World) (hv : IntsV w v zs) (hl : zs.length ≤ 1000000) (hm : m < zs.length) (he : zs.getD m 0 = x) (hn : ∀ j, j < m → zs.getD j 0 ≠ x) :
    Calls Tryd.prog 163 #[v, .int .i64 x] w fun e w' => e = .returned (.int .i64 m) ∧ w.grownBy w' none := by
  have HV := Lib.hid hv; have HN := Lib.hid hn; have HE := Lib.hid he
  obtain ⟨a, c, rfl⟩ := hv.shape
  generalize hl' : zs.length = l at *
  have HL := Lib.hid hl'
  clear hv hn he hl'
  go_enter Tryd.func163, Tryd.ntmps163
  go_wp2
  go_loopw [8] (fun i wr => ∃ k : Nat, k ≤ m ∧ i = .int .i64 k ∧ w.grownBy wr none) (fun i _ => l - (intOf i).toNat)
  case atStart => exact ⟨0, by omega, rfl, grownBy_refl _ _⟩
  case round =>
    obtain ⟨k, hk, rfl, hg⟩ := hrel
    have HG := Lib.hid hg
    clear hg
    have hlt : k < l := by omega
    obtain ⟨b1, o1, rfl, hb1, hc1⟩ := (HV.out.carry HG.out).atD (i := k) (by rw [HL.out]; exact hlt)
    clear hb1
    by_cases hkm : k = m
    · subst hkm
      rw [HE.out] at hc1
      go_wp2
      go_ret
      exact ⟨rfl, HG.out⟩
    · have hne := HN.out k (by omega)
      generalize zs.getD k 0 = y at *
      have hb : (x == y) = false := by rw [beq_eq_false_iff_ne]; exact fun h => hne h.symm
      go_wp2
      go_roundw
      case rel => exact ⟨k + 1, by omega, by go_num, HG.out⟩
      case measure => simp [intOf]; omega
theorem index_no (v : Value) (zs : List Int) (x : Int) (w : World) (hv : IntsV w v zs) (hl : zs.length ≤ 1000000) (hn : x ∉ zs) :
    Calls Tryd.prog 163 #[v, .int .i64 x] w fun e w' => e = .returned (.int .i64 (-1)) ∧ w.grownBy w' none := by
  have HV := Lib.hid hv; have HN := Lib.hid hn
  obtain ⟨a, c, rfl⟩ := hv.shape
  generalize hl' : zs.length = l at *
  have HL := Lib.hid hl'
  clear hv hn hl'
  go_enter Tryd.func163, Tryd.ntmps163
  go_wp2
  go_loopw [8] (fun i wr => ∃ k : Nat, k ≤ l ∧ i = .int .i64 k ∧ w.grownBy wr none) (fun i _ => l - (intOf i).toNat)
  case atStart => exact ⟨0, by omega, rfl, grownBy_refl _ _⟩
  case round =>
    obtain ⟨k, hk, rfl, hg⟩ := hrel
    have HG := Lib.hid hg
    clear hg
    by_cases hlt : k < l
    · obtain ⟨b1, o1, rfl, hb1, hc1⟩ := (HV.out.carry HG.out).atD (i := k) (by rw [HL.out]; exact hlt)
      clear hb1
      have hne : x ≠ zs.getD k 0 := fun h => HN.out (by rw [h]; exact getD_mem' (by rw [HL.out]; exact hlt))
      generalize zs.getD k 0 = y at *
      have hb : (x == y) = false := by rw [beq_eq_false_iff_ne]; exact hne
      go_wp2
      go_roundw
      case rel => exact ⟨k + 1, by omega, by go_num, HG.out⟩
      case measure => simp [intOf]; omega
    · go_wp2
      go_ret
      exact ⟨rfl, HG.out⟩
theorem first_idx {zs : List Int} {x : Int} (h : x ∈ zs) : ∃ m, m < zs.length ∧ zs.getD m 0 = x ∧ ∀ j, j < m → zs.getD j 0 ≠ x := by
  induction zs with
  | nil => cases h
  | cons y zs ih =>
    by_cases e : y = x
    · exact ⟨0, by simp, by simpa using e, fun j hj => absurd hj (by omega)⟩
    · have hx : x ∈ zs := by
        rcases List.mem_cons.1 h with h | h
        · exact absurd h.symm e
        · exact h
      obtain ⟨m, h1, h2, h3⟩ := ih hx
      refine ⟨m + 1, by simp; omega, by simpa using h2, fun j hj => ?_⟩
      cases j with
      | zero => simpa using e
      | succ j => simpa using h3 j (by omega)
theorem contains_any (v : Value) (zs : List Int) (x : Int) (w : World) (hv : IntsV w v zs) (hl : zs.length ≤ 1000000) :
    Calls Tryd.prog 159 #[v, .int .i64 x] w fun e w' => e = .returned (.bool (decide (x ∈ zs))) ∧ w.grownBy w' none := by
  by_cases h : x ∈ zs
  · obtain ⟨m, h1, h2, h3⟩ := first_idx h
    have HI := Lib.hid fun W (hg : w.grownBy W none) => index_any v zs x m W (hv.carry hg) hl h1 h2 h3
    rw [decide_eq_true h]
    clear h1 h2 h3 h hv hl
    go_enter Tryd.func159, Tryd.ntmps159
    go_wp2_with (
      go_at_call 163
      with_reducible refine (HI.out _ (grownBy_refl _ _)).mono ?_
      rintro e w2 ⟨rfl, hg⟩
      have HG := Lib.hid hg
      clear hg)
    go_ret
    exact ⟨rfl, HG.out⟩
  · have HI := Lib.hid fun W (hg : w.grownBy W none) => index_no v zs x W (hv.carry hg) hl h
    rw [decide_eq_false h]
    clear h hv hl
    go_enter Tryd.func159, Tryd.ntmps159
    go_wp2_with (
      go_at_call 163
      with_reducible refine (HI.out _ (grownBy_refl _ _)).mono ?_
      rintro e w2 ⟨rfl, hg⟩
      have HG := Lib.hid hg
      clear hg)
    go_ret
    exact ⟨rfl, HG.out⟩
theorem l1Has_any (v : Value) (zs : List Int) (x : Int) (w : World) (hv : IntsV w v zs) (hl : zs.length ≤ 1000000) :
    Calls Tryd.prog 162 #[v, .int .i64 x] w fun e w' => e = .returned (.bool (decide (x ∈ zs))) ∧ w.grownBy w' none := by
  have HV := Lib.hid hv
  obtain ⟨a, c, rfl⟩ := hv.shape
  generalize hm : zs.length = m at *
  have HM := Lib.hid hm
  clear hv hm
  go_enter Tryd.func162, Tryd.ntmps162
  go_wp2_with fail
  go_loopw [6, 9] (fun _ i wr => ∃ k : Nat, k ≤ m ∧ i = .int .i64 k ∧ w.grownBy wr none ∧ ∀ j, j < k → zs.getD j 0 ≠ x) (fun _ i _ => m - (intOf i).toNat)
  case atStart => exact ⟨0, by omega, rfl, grownBy_refl _ _, fun j hj => absurd hj (Nat.not_lt_zero _)⟩
  case round =>
    obtain ⟨k, hk, rfl, hg, hne⟩ := hrel
    have HG := Lib.hid hg; have HNE := Lib.hid hne
    clear hg hne
    by_cases hlt : k < m
    · have hkz : k < zs.length := by rw [HM.out]; exact hlt
      have hv2 := HV.out.carry HG.out
      obtain ⟨d, rfl⟩ : ∃ d, a = some d := by
        obtain ⟨a', c', he, hr⟩ := hv2
        obtain ⟨d, hd, _⟩ := hr (by intro h; rw [h] at hkz; simp at hkz)
        injection he with e1
        exact ⟨d, e1.trans hd⟩
      obtain ⟨b, o, sp⟩ := d
      have hsp : sp = none := by
        obtain ⟨a', c', he, hr⟩ := hv2
        obtain ⟨d, hd, hsp, _⟩ := hr (by intro h; rw [h] at hkz; simp at hkz)
        injection he with e1
        rw [hd] at e1
        injection e1 with e1
        subst e1
        exact hsp
      subst hsp
      have hc0 := hv2.cellN hkz
      have HZ := Lib.hid (show zs.getD k 0 ∈ zs from getD_mem' hkz)
      by_cases he : zs.getD k 0 = x
      · rw [he] at hc0 HZ
        clear hv2
        go_wp2
        go_ret
        exact ⟨by rw [show decide (x ∈ zs) = true from decide_eq_true HZ.out]; rfl, HG.out⟩
      · have HE := Lib.hid he
        generalize hy : zs.getD k 0 = y at *
        have HY := Lib.hid hy
        clear hv2 hy
        go_wp2
        go_roundw
        case rel => exact ⟨k + 1, by omega, by go_num, HG.out, fun j hj => by
          by_cases e : j = k
          · subst e; rw [HY.out]; exact HE.out
          · exact HNE.out j (by omega)⟩
        case measure => simp [intOf]; omega
    · have hkm : k = m := by omega
      subst hkm
      clear hlt
      go_wp2
      go_ret
      have hn : ¬ x ∈ zs := by
        intro hx
        obtain ⟨i, hi, he⟩ := List.getElem_of_mem hx
        have := HNE.out i (by rw [← HM.out]; exact hi)
        rw [List.getD_eq_getElem?_getD, List.getElem?_eq_getElem hi] at this
        exact this he
      exact ⟨by rw [show decide (x ∈ zs) = false from decide_eq_false hn]; rfl, HG.out⟩
theorem mem_gd {l : List Int} {x : Int} : x ∈ l ↔ ∃ i, i < l.length ∧ l.getD i 0 = x := by
  constructor
  · intro h
    obtain ⟨i, hi, rfl⟩ := List.mem_iff_getElem.1 h
    exact ⟨i, hi, by rw [List.getD_eq_getElem?_getD, List.getElem?_eq_getElem hi]; rfl⟩
  · rintro ⟨i, hi, rfl⟩
    exact getD_mem' hi
set_option maxHeartbeats 1000000 in
theorem hgMeets_any (a b : Value) (A B : List Int) (w : World) (h1 : IntsV w a A) (h2 : IntsV w b B) (l1 : A.length ≤ 1000000) (l2 : B.length ≤ 1000000) :
    Calls Tryd.prog 154 #[a, b] w fun e w' => e = .returned (.bool (tst (∃ x ∈ A, x ∈ B))) ∧ w.grownBy w' none := by
  have HA := Lib.hid h1
  have HB := Lib.hid fun W (h : w.grownBy W none) x => l1Has_any b B x W (h2.carry h) l2
  obtain ⟨a1, c1, rfl⟩ := h1.shape
  obtain ⟨a2, c2, rfl⟩ := h2.shape
  generalize hn1 : A.length = n1 at *
  have HN := Lib.hid hn1
  generalize B.length = n2 at *
  clear h1 h2 l2 hn1
  go_enter Tryd.func154, Tryd.ntmps154
  go_wp2_with fail
  go_loopw [6, 9] (fun _ i wr => ∃ k : Nat, k ≤ n1 ∧ i = .int .i64 k ∧ (∀ j, j < k → A.getD j 0 ∉ B) ∧ w.grownBy wr none) (fun _ i _ => n1 - (intOf i).toNat)
  case atStart => exact ⟨0, by omega, rfl, fun j hj => by omega, grownBy_refl _ _⟩
  case round =>
    obtain ⟨k, hk, rfl, hall, hg⟩ := hrel
    have HALL := Lib.hid hall; have HG := Lib.hid hg
    clear hall hg
    by_cases hlt : k < n1
    · have hkA : k < A.length := by rw [HN.out]; exact hlt
      obtain ⟨b1, o1, rfl, _, x0⟩ := (HA.out.carry HG.out).atD hkA
      have HC := Lib.hid (HB.out wr HG.out (A.getD k 0))
      have HMEM := Lib.hid (getD_mem' hkA)
      have HX := Lib.hid (show ∃ x, x = A.getD k 0 from ⟨_, rfl⟩)
      have hki : (k : Int) < (n1 : Int) := by omega
      obtain ⟨x, hx⟩ := HX.out
      rw [← hx] at x0 HC HMEM
      have HXX := Lib.hid hx
      clear HX hx hkA
      by_cases hin : x ∈ B
      · rw [decide_eq_true hin] at HC
        have HT := Lib.hid (show tst (∃ x ∈ A, x ∈ B) = true from tst_iff.2 ⟨x, HMEM.out, hin⟩)
        clear hin
        go_wp2_with (
          go_at_call 162
          with_reducible refine HC.out.mono ?_
          rintro e w2 ⟨rfl, hg⟩
          have HG2 := Lib.hid (grownBy_trans HG.out hg)
          clear hg)
        go_ret
        exact ⟨by rw [HT.out]; try rfl, HG2.out⟩
      · rw [decide_eq_false hin] at HC
        have HN2 := Lib.hid (show ∀ j, j < k + 1 → A.getD j 0 ∉ B from fun j hj => by
          by_cases e : j = k
          · rw [e, ← HXX.out]; exact hin
          · exact HALL.out j (by omega))
        clear hin
        go_wp2_with (
          go_at_call 162
          with_reducible refine HC.out.mono ?_
          rintro e w2 ⟨rfl, hg⟩
          have HG2 := Lib.hid (grownBy_trans HG.out hg)
          clear hg)
        go_roundw
        case rel => exact ⟨k + 1, by omega, by go_num, HN2.out, HG2.out⟩
        case measure => simp [intOf]; omega
    · have HT := Lib.hid (show tst (∃ x ∈ A, x ∈ B) = false from tst_not (by
        rintro ⟨x, hx, hb⟩
        obtain ⟨j, hj, rfl⟩ := mem_gd.1 hx
        exact HALL.out j (by have := HN.out; omega) hb))
      have hki : ¬ (k : Int) < (n1 : Int) := by omega
      go_wp2_with fail
      go_ret
      exact ⟨by rw [HT.out]; try rfl, HG.out⟩
theorem rep_set {n k : Nat} (x y : Int) (hk : k < n) : (List.replicate k x ++ List.replicate (n - k) y).set k x = List.replicate (k + 1) x ++ List.replicate (n - (k + 1)) y := by
  rw [List.set_append_right _ _ (by simp), List.length_replicate, Nat.sub_self, show n - k = (n - (k + 1)) + 1 by omega, List.replicate_succ, List.set_cons_zero, List.replicate_succ']
  simp
theorem repeated_any (x : Int) (n : Nat) (w : World) (hl : n ≤ 1000000) :
    Calls Tryd.prog 109 #[.int .i64 x, .int .i64 n] w fun e w' => ∃ g c, e = .returned (.slice (some ⟨g, 0, none⟩) n c) ∧ Sep w' [OI (.slice (some ⟨g, 0, none⟩) n c) (List.replicate n x), KeepA w] := by
  have HZ := Lib.hid (zeros_full n w hl)
  go_enter Tryd.func109, Tryd.ntmps109
  go_wp2_with (
    go_at_call 130
    refine HZ.out.mono ?_
    rintro e w2 ⟨g, c, rfl, hs⟩
    have HS := Lib.hid hs
    clear hs)
  go_loopw [6, 11] (fun _ i wr => ∃ k : Nat, k ≤ n ∧ i = .int .i64 k ∧ Sep wr [OI (.slice (some ⟨g, 0, none⟩) n c) (List.replicate k x ++ List.replicate (n - k) 0), KeepA w]) (fun _ i _ => n - (intOf i).toNat)
  case atStart => exact ⟨0, by omega, rfl, by simpa using HS.out⟩
  case round =>
    obtain ⟨k, hk, rfl, hs⟩ := hrel
    have HSX := Lib.hid hs
    clear hs
    by_cases hlt : k < n
    · have hll : n = (List.replicate k x ++ List.replicate (n - k) (0 : Int)).length := by rw [List.length_append, List.length_replicate, List.length_replicate]; omega
      have hf := HSX.out.hd.free hll k
      obtain ⟨q, hc0⟩ := HSX.out.hd.cellQ hll (j := k) hlt
      have hset := HSX.out.setI hll k x
      rw [rep_set x 0 hlt] at hset
      have HSET := Lib.hid hset
      clear hll hset
      go_wp2
      go_roundw
      case rel => exact ⟨k + 1, by omega, by go_num, HSET.out⟩
      case measure => simp [intOf]; omega
    · have hkn : k = n := by omega
      subst hkn
      clear hlt
      go_wp2
      go_ret
      have := HSX.out
      rw [Nat.sub_self, List.replicate_zero, List.append_nil] at this
      exact ⟨_, _, rfl, this⟩
theorem meet_tst (a b : List Int) : tst (∃ x ∈ a, x ∈ b) = meetB a b := by
  rw [Bool.eq_iff_iff, tst_iff]
  unfold meetB
  simp only [List.any_eq_true, decide_eq_true_iff]
/-- The closure that asks whether a wire is among an edge's outputs. -/
theorem needs1_any (x : Int) (fb : Nat) (k v : Value) (iv ov : Value) (zs : List Int) (w : World) (hc : w.cell? ⟨fb, 3, none⟩ = some ov) (ho : IntsV w ov zs) (hl : zs.length ≤ 1000000) :
    Calls Tryd.prog 158 #[.int .i64 x, .pointer (some ⟨fb, 0, none⟩)] w fun e w' => e = .returned (.bool (decide (x ∈ zs))) ∧ w.grownBy w' none := by
  have HC := Lib.hid (contains_any ov zs x w ho hl)
  obtain ⟨a, c, rfl⟩ := ho.shape
  clear ho hl
  generalize zs.length = n at *
  go_enter Tryd.func158, Tryd.ntmps158
  go_wp2_with (
    go_at_call 159
    with_reducible refine HC.out.mono ?_
    rintro e w2 ⟨rfl, hg⟩
    have HG := Lib.hid hg
    clear hg)
  go_ret
  exact ⟨rfl, HG.out⟩
end Go.Proofs.YtghfifpicklonaaDoor

/-
  Lists of rows of numbers in the laws: read, sized, copied, compared, marked. Conditions: lengths are small.
-/
namespace Go.Proofs.YtghfifpicklonaaDoor
open Go.RowKit
set_option linter.unusedVariables false
set_option maxRecDepth 100000

theorem Sep.blk {w : World} {A B r : List Asrt} (h : Sep w (A ++ (B ++ r))) : Sep w (B ++ (A ++ r)) :=
  Sep.perm (by rw [← List.append_assoc, ← List.append_assoc]; exact List.Perm.append_right r List.perm_append_comm) h
theorem Sep.blk3 {w : World} {X A B r : List Asrt} (h : Sep w (X ++ (A ++ (B ++ r)))) : Sep w (X ++ (B ++ (A ++ r))) :=
  Sep.perm (List.Perm.append_left X (by rw [← List.append_assoc, ← List.append_assoc]; exact List.Perm.append_right r List.perm_append_comm)) h
theorem Sep.tlN {w : World} {l : List Asrt} : ∀ (A : List Asrt), Sep w (A ++ l) → Sep w l
  | [], h => h
  | _ :: A, h => Sep.tlN A h.tl
theorem Sep.cutA {w : World} {X A r : List Asrt} (h : Sep w (X ++ (A ++ r))) : Sep w (X ++ r) := Sep.tlN A (Sep.blk (A := X) (B := A) h)
abbrev XR := RX
abbrev xr0 : XR := rx0
def rws (xs : List XR) : List (List Int) := xs.map RX.zs
/-- A list of rows that can be read. -/
def RdS (w : World) (v : Value) (L : List (List Int)) : Prop := ∃ xs : List XR, rws xs = L ∧ RdR rowE w v xs ∧ ∀ x ∈ xs, IntsV w x.v x.zs
def rowsS (xs : List XR) : List Asrt := xs.flatMap fun x => [OI x.v x.zs]
/-- A list of rows that is the call's own. -/
def OS (v : Value) (xs : List XR) : Asrt := Bag (OR rowE v xs :: rowsS xs)
theorem OS_own {v : Value} {xs : List XR} : ∀ k, (OS v xs).sees k → (OS v xs).foot k := by
  rintro k ⟨A, hA, hk⟩
  refine ⟨A, hA, ?_⟩
  rcases List.mem_cons.1 hA with rfl | hA
  · exact hk
  · obtain ⟨x, _, hx⟩ := List.mem_flatMap.1 hA
    simp only [List.mem_cons, List.not_mem_nil, or_false] at hx
    subst hx; exact hk
theorem OS.shape {w : World} {v : Value} {xs : List XR} (h : (OS v xs).holds w) : ∃ a c, v = .slice a xs.length c := OwnR.shape (show OwnR rowE 0 w v xs from (show Sep w (OR rowE v xs :: rowsS xs) from h).hd)
theorem OS.read {w : World} {v : Value} {xs : List XR} (h : (OS v xs).holds w) : RdS w v (rws xs) := by
  have ha := Sep.all (show Sep w (OR rowE v xs :: rowsS xs) from h)
  refine ⟨xs, rfl, OwnR.read (show OwnR rowE 0 w v xs from ha (OR rowE v xs) (by simp)), fun x hx => ?_⟩
  exact OwnInts.read (show OwnInts 0 w x.v x.zs from ha (OI x.v x.zs) (List.mem_cons_of_mem _ (List.mem_flatMap.2 ⟨x, hx, by simp⟩)))
theorem RdS.carry {w w' : World} {v : Value} {L : List (List Int)} (h : RdS w v L) (hg : w.grownBy w' none) : RdS w' v L := by
  obtain ⟨xs, h1, h2, h3⟩ := h
  exact ⟨xs, h1, h2.carry hg, fun x hx => (h3 x hx).carry hg⟩
theorem RdS.shape {w : World} {v : Value} {L : List (List Int)} (h : RdS w v L) : ∃ a c, v = .slice a L.length c := by
  obtain ⟨xs, h1, h2, _⟩ := h
  obtain ⟨a, c, rfl, _⟩ := h2
  exact ⟨a, c, by rw [← h1]; simp [rws]⟩
theorem rws_len (xs : List XR) : (rws xs).length = xs.length := by simp [rws]
theorem rws_at {xs : List XR} {i : Nat} : (rws xs).getD i [] = (xs.getD i xr0).zs := by
  unfold rws
  rw [List.getD_eq_getElem?_getD, List.getElem?_map, List.getD_eq_getElem?_getD]
  cases xs[i]? <;> rfl
theorem RdS.at {w : World} {a : Option Addr} {n c : Nat} {L : List (List Int)} (h : RdS w (.slice a n c) L) {i : Nat} (hi : i < L.length) :
    ∃ b o rv, a = some ⟨b, o, none⟩ ∧ b < w.heap.size ∧ w.cell? ⟨b, o + i, none⟩ = some rv ∧ IntsV w rv (L.getD i []) := by
  obtain ⟨xs, rfl, hr, hx⟩ := h
  have hil : i < xs.length := by simpa [rws] using hi
  obtain ⟨b, o, rfl, hb, hc⟩ := hr.at hil
  rw [rws_at, List.getD_eq_getElem?_getD, List.getElem?_eq_getElem hil]
  simp only [Option.getD_some]
  refine ⟨b, o, xs[i].v, rfl, hb, ?_, hx xs[i] (List.getElem_mem _)⟩
  have := hc 0 (by decide)
  rw [show o + i * rowE.sz + 0 = o + i from by show o + i * 1 + 0 = o + i; omega] at this
  exact this
/-! ### how much -/
def totS : List (List Int) → Nat
  | [] => 0
  | r :: L => r.length + totS L
theorem totS_app (A B : List (List Int)) : totS (A ++ B) = totS A + totS B := by
  induction A with
  | nil => simp [totS]
  | cons x A ih => simp only [List.cons_append, totS, ih]; omega
theorem totS_take (L : List (List Int)) (k : Nat) (hk : k < L.length) : totS (L.take (k + 1)) = totS (L.take k) + (L.getD k []).length := by
  rw [List.take_add_one, totS_app, List.getD_eq_getElem?_getD, List.getElem?_eq_getElem hk]
  simp [totS]
theorem totS_le (L : List (List Int)) (k : Nat) : totS (L.take k) ≤ totS L := by
  have h := totS_app (L.take k) (L.drop k)
  rw [List.take_append_drop] at h
  omega
theorem totS_mem {L : List (List Int)} {r : List Int} (h : r ∈ L) : r.length ≤ totS L := by
  induction L with
  | nil => cases h
  | cons y L ih =>
    simp only [totS]
    rcases List.mem_cons.1 h with rfl | h
    · omega
    · have := ih h; omega
def okS (L : List (List Int)) : Prop := L.length ≤ 9223372036854775807 ∧ ∀ r ∈ L, r.length ≤ 9223372036854775807
theorem gm {L : List (List Int)} {k : Nat} (h : k < L.length) : L.getD k [] ∈ L := by rw [List.getD_eq_getElem?_getD, List.getElem?_eq_getElem h]; exact List.getElem_mem _
set_option maxHeartbeats 2000000 in
theorem szIntSS_any (a : Option Addr) (n c : Nat) (L : List (List Int)) (left : Int) (w : World) (hv : RdS w (.slice a n c) L) (hn : n = L.length) (h0 : 0 ≤ left) (h1 : left ≤ 1048576) (hok : okS L) :
    Calls Tryd.prog 28 #[.slice a n c, .int .i64 left] w fun x w' => x = .returned (.int .i64 (lft left (L.length + totS L))) ∧ w.grownBy w' none := by
  have HV := Lib.hid hv; have HOK := Lib.hid hok.2
  have HN := Lib.hid hn
  have hl : n ≤ 9223372036854775807 := by rw [hn]; exact hok.1
  clear hv hok
  have hwr := wrap_id (x := left - n) (by omega) (by omega)
  by_cases h : left - n < 0
  · rw [show lft left (L.length + totS L) = -1 by unfold lft; rw [if_pos (by omega)]]
    clear hn
    go_enter Tryd.func28, Tryd.ntmps28
    go_wp2
    go_ret
    exact ⟨rfl, grownBy_refl _ _⟩
  · obtain ⟨m, hm⟩ : ∃ m, m = left - n := ⟨_, rfl⟩
    have hre : lft left (L.length + totS L) = lft m (totS L) := by
      unfold lft
      rw [← hn, show left - ((n + totS L : Nat) : Int) = m - (totS L : Int) by omega]
    rw [hre]
    have hm0 : 0 ≤ m := by omega
    have hm1 : m ≤ 1048576 := by omega
    have hwr2 : IntKind.i64.wrap (left - (n : Int)) = m := by rw [hm]; exact hwr
    have hm00 : ¬ m < 0 := by omega
    clear hre hn hwr h hm
    go_enter Tryd.func28, Tryd.ntmps28
    go_wp2_with fail
    go_loopw [1, 5] (fun lv i wr => ∃ k : Nat, k ≤ n ∧ i = .int .i64 k ∧ lv = .int .i64 (m - totS (L.take k)) ∧ 0 ≤ m - (totS (L.take k) : Int) ∧ w.grownBy wr none) (fun _ i _ => n - (intOf i).toNat)
    case atStart => exact ⟨0, by omega, rfl, by simp [totS], by simp [totS]; exact hm0, grownBy_refl _ _⟩
    case round =>
      obtain ⟨k, hk, rfl, rfl, hp, hg⟩ := hrel
      have HG := Lib.hid hg
      clear hg
      by_cases hlt : k < n
      · have hke : k < L.length := by rw [← HN.out]; exact hlt
        obtain ⟨b, o, rv, rfl, _, q0, hr⟩ := (HV.out.carry HG.out).at hke
        have HT := Lib.hid (totS_take L k hke)
        have HLE := Lib.hid (totS_le L (k + 1))
        obtain ⟨ra, rc, rfl⟩ := hr.shape
        have HC := Lib.hid (szIntS_any ra (L.getD k []).length rc (m - totS (L.take k)) wr hp (by omega) (HOK.out _ (gm hke)))
        generalize hln : (L.getD k []).length = e at *
        generalize totS (L.take k) = t at *
        generalize hS : totS (L.take (k + 1)) = s at *
        clear hr hke hln
        by_cases h2 : m - (s : Int) < 0
        · rw [if_pos (by have := HT.out; omega)] at HC
          have HF := Lib.hid (show lft m (totS L) = -1 from by unfold lft; rw [if_pos (by have := HLE.out; omega)])
          clear hp h2
          go_wp2_with (
            go_at_call 52
            with_reducible refine HC.out.mono ?_
            rintro x w2 ⟨rfl, rfl⟩)
          go_ret
          exact ⟨(by rw [HF.out]; try rfl), HG.out⟩
        · rw [if_neg (by have := HT.out; omega), show m - (t : Int) - (e : Int) = m - s by have := HT.out; omega] at HC
          have hp2 : ¬ (m - (s : Int)) < 0 := h2
          obtain ⟨r, hr⟩ : ∃ r, r = m - (s : Int) := ⟨_, rfl⟩
          rw [← hr] at HC hp2
          have HR := Lib.hid hr
          clear h2 hr hp
          go_wp2_with (
            go_at_call 52
            with_reducible refine HC.out.mono ?_
            rintro x w2 ⟨rfl, rfl⟩)
          go_roundw
          case rel => exact ⟨k + 1, by omega, by go_num, by rw [hS, HR.out], by rw [hS]; have := HR.out; omega, HG.out⟩
          case measure => simp [intOf]; omega
      · have hkn : k = n := by omega
        subst hkn
        have HF := Lib.hid (show m - (totS (L.take k) : Int) = lft m (totS L) from by
          rw [List.take_of_length_le (by rw [← HN.out]; exact Nat.le_refl _)] at hp ⊢
          unfold lft
          rw [if_neg (by omega)])
        clear hp
        go_wp2
        go_ret
        exact ⟨by rw [HF.out]; try rfl, HG.out⟩
/-! ### a copy -/
theorem rowsS_snoc (xs : List XR) (x : XR) : rowsS (xs ++ [x]) = rowsS xs ++ [OI x.v x.zs] := by
  unfold rowsS
  rw [List.flatMap_append]
  simp
theorem rowsS_cons (x : XR) (xs : List XR) : rowsS (x :: xs) = OI x.v x.zs :: rowsS xs := by simp [rowsS]
theorem zeroRow_cells : (Value.slice none 0 0).cells.toList = rowE.cs xr0 := rfl
theorem row_cell {w : World} {g n cap B : Nat} {xs : List XR} (h : OwnR rowE B w (.slice (some ⟨g, 0, none⟩) n cap) xs) (hn : n = xs.length) {i : Nat} (hi : i < xs.length) : w.cell? ⟨g, i, none⟩ = some (xs.getD i xr0).v := by
  have e : xs.getD i xr0 = xs[i] := by rw [List.getD_eq_getElem?_getD, List.getElem?_eq_getElem hi]; rfl
  rw [e]
  have hc := h.cell hn (i := i) (j := 0) hi (by decide)
  rw [show i * rowE.sz + 0 = i from by show i * 1 + 0 = i; omega] at hc
  exact hc
theorem Sep.setW {w : World} {g n cap : Nat} {xs : List XR} {l : List Asrt} (h : Sep w (OR rowE (.slice (some ⟨g, 0, none⟩) n cap) xs :: l)) (hn : n = xs.length) {i : Nat} (hi : i < xs.length) (y : XR) :
    Sep (w.setCell ⟨g, i, none⟩ y.v) (OR rowE (.slice (some ⟨g, 0, none⟩) n cap) (xs.set i y) :: l) := by
  have h1 := h.setR (E := rowE) hn (i := i) (j := 0) (y := y) (u := y.v) hi (by decide) rfl
  rw [show i * rowE.sz + 0 = i from by show i * 1 + 0 = i; omega] at h1
  exact h1
theorem Sep.bagOne {w : World} {X A : Asrt} {L r : List Asrt} (h : Sep w (X :: A :: Bag L :: r)) : Sep w (X :: Bag (L ++ [A]) :: r) := by
  have h1 := Sep.unbag h.s3
  have h2 : Sep w ((L ++ [A]) ++ (X :: r)) := Sep.perm (by rw [List.append_assoc]; exact List.Perm.append_left L (List.Perm.swap A X r)) h1
  exact (Sep.bag h2).s2
theorem fillR_set {xs : List XR} {n k : Nat} {x : XR} (hl : xs.length = k) (hk : k < n) : (xs ++ List.replicate (n - k) xr0).set k x = (xs ++ [x]) ++ List.replicate (n - (k + 1)) xr0 := by
  rw [List.set_append_right _ _ (by omega), hl, Nat.sub_self, show n - k = (n - (k + 1)) + 1 by omega, List.replicate_succ, List.set_cons_zero, List.append_assoc]
  rfl
theorem rws_take {L : List (List Int)} {xs : List XR} {x : XR} {k : Nat} (h : rws xs = L.take k) (hk : k < L.length) (hx : x.zs = L.getD k []) : rws (xs ++ [x]) = L.take (k + 1) := by
  unfold rws at h ⊢
  rw [List.map_append, h, List.take_succ_eq_append_getElem hk, List.map_cons, List.map_nil, hx, List.getD_eq_getElem?_getD, List.getElem?_eq_getElem hk]
  rfl
/-- What hands back a list of rows of its own. -/
def OwnS (L : List (List Int)) (w : World) (e : Ending) (w' : World) : Prop := ∃ a c xs, e = .returned (.slice a L.length c) ∧ rws xs = L ∧ Sep w' [OS (.slice a L.length c) xs, KeepA w]
set_option maxHeartbeats 2000000 in
theorem toIntSS_any (v : Value) (L : List (List Int)) (w : World) (hv : RdS w v L) (hl : L.length ≤ 2000000) (hle : ∀ r ∈ L, r.length ≤ 2000000) :
    Calls Tryd.prog 32 #[v] w (OwnS L w) := by
  obtain ⟨i0, hi, hz0, hz1, hz2⟩ := info_parts info_row
  have HI := Lib.hid hi; have HZ0 := Lib.hid hz0; have HZ1 := Lib.hid hz1; have HZ2 := Lib.hid hz2
  have HV := Lib.hid hv; have HLE := Lib.hid hle
  obtain ⟨a, cap, rfl⟩ := hv.shape
  generalize hlen : L.length = n at *
  have HL := Lib.hid hlen
  clear hi hz0 hz1 hz2 hv hlen hle
  go_enter Tryd.func32, Tryd.ntmps32
  go_wp2_with (
    at_make
    refine wpList_make_full _ rfl _ _ 22 rfl w.heap.size 27 i0 _ 1 Tryd.underlying22 HI.out HZ0.out HZ1.out _ _ _ _ n rfl rfl rfl rfl (by rw [HZ2.out]; omega) (by unfold maxLen; omega) (Nat.le_refl _) ?_
    intro w1 hown' hgr'
    have hs0 : Sep w1 [OR rowE (.slice (some ⟨w.heap.size, 0, none⟩) n n) (List.replicate n xr0), KeepA w] := (Sep.start w).newR hgr' (OwnR.made zeroRow_cells hown')
    have HS := Lib.hid hs0
    clear hs0 hown' hgr')
  go_loopw [4] (fun i wr => ∃ (k : Nat) (xs : List XR), k ≤ n ∧ i = .int .i64 k ∧ xs.length = k ∧ rws xs = L.take k ∧ Sep wr [OR rowE (.slice (some ⟨w.heap.size, 0, none⟩) n n) (xs ++ List.replicate (n - k) xr0), Bag (rowsS xs), KeepA w]) (fun i _ => n - (intOf i).toNat)
  case atStart => exact ⟨0, [], by omega, rfl, rfl, rfl, by simpa [rowsS] using (HS.out.s2.noBag.s3 : Sep _ (OR rowE _ _ :: Bag [] :: KeepA w :: []))⟩
  case round =>
    obtain ⟨k, xs, hk, rfl, hxl, hxe, hs⟩ := hrel
    have HSX := Lib.hid hs; have HXE := Lib.hid hxe; have HXL := Lib.hid hxl
    clear hs hxe hxl HS
    by_cases hlt : k < n
    · have hke : k < L.length := by rw [HL.out]; exact hlt
      obtain ⟨b, o, rv, rfl, _, q0, hr⟩ := (HV.out.carry HSX.out.tl.tl.hd).at hke
      have HT := Lib.hid (toIntS_any rv (L.getD k []) wr hr (HLE.out _ (gm hke)))
      have HTK := Lib.hid fun (x : XR) (hx : x.zs = L.getD k []) => rws_take HXE.out hke hx
      have HFS := Lib.hid fun x => @fillR_set xs n k x HXL.out hlt
      have HLL := Lib.hid (show n = (xs ++ List.replicate (n - k) xr0).length by rw [List.length_append, List.length_replicate, HXL.out]; omega)
      obtain ⟨ra, rc, rfl⟩ := hr.shape
      clear hr hke
      generalize L.getD k [] = y at *
      go_wp2_with (
        go_at_call 58
        with_reducible refine HT.out.mono ?_
        rintro e w2 ⟨s1, r1, rfl, hsg⟩
        have hs3 := (HSX.out.graft1 hsg OI_own).s2
        have f0 := (show OwnR rowE 0 w2 _ _ from hs3.hd).free HLL.out k
        have d0 := row_cell (show OwnR rowE 0 w2 _ _ from hs3.hd) HLL.out (i := k) (by rw [← HLL.out]; exact hlt)
        have hs4 := hs3.setW HLL.out (i := k) (by rw [← HLL.out]; exact hlt) ⟨.slice (some ⟨s1, 0, none⟩) y.length r1, y⟩
        rw [HFS.out] at hs4
        have hs5 := hs4.bagOne
        rw [← rowsS_snoc xs ⟨.slice (some ⟨s1, 0, none⟩) y.length r1, y⟩] at hs5
        have HS3 := Lib.hid hs5
        clear hsg hs3 hs4 hs5)
      go_roundw
      case rel => exact ⟨k + 1, xs ++ [⟨.slice (some ⟨s1, 0, none⟩) y.length r1, y⟩], by omega, by go_num, by rw [List.length_append, HXL.out]; rfl, HTK.out _ rfl, HS3.out⟩
      case measure => simp [intOf]; omega
    · have hkn : k = n := by omega
      subst hkn
      have hs := HSX.out
      rw [Nat.sub_self, List.replicate_zero, List.append_nil] at hs
      have hxe := HXE.out
      rw [List.take_of_length_le (by rw [HL.out]; exact Nat.le_refl _)] at hxe
      have HF := Lib.hid hs.intoBag
      have HXF := Lib.hid hxe
      clear hs hxe hlt
      go_wp2
      go_ret
      exact ⟨_, _, xs, by rw [HL.out]; rfl, HXF.out, by rw [HL.out]; exact HF.out⟩
/-! ### comparing -/
set_option maxHeartbeats 2000000 in
theorem eqIntSS_same (v1 v2 : Value) (L : List (List Int)) (w : World) (h1 : RdS w v1 L) (h2 : RdS w v2 L) (l1 : L.length ≤ 2000000) (hle : ∀ r ∈ L, r.length ≤ 1000000000) :
    Calls Tryd.prog 38 #[v1, v2] w fun e w' => e = .returned (.bool true) ∧ w.grownBy w' none := by
  have H1 := Lib.hid h1; have H2 := Lib.hid h2; have HLE := Lib.hid hle
  obtain ⟨a1, c1, rfl⟩ := h1.shape
  obtain ⟨a2, c2, rfl⟩ := h2.shape
  clear h1 h2 hle
  generalize hlx : L.length = l at *
  have HLX := Lib.hid hlx
  clear hlx
  go_enter Tryd.func38, Tryd.ntmps38
  go_wp2
  go_loopw [5] (fun i wr => ∃ k : Nat, k ≤ l ∧ i = .int .i64 k ∧ w.grownBy wr none) (fun i _ => l - (intOf i).toNat)
  case atStart => exact ⟨0, by omega, rfl, grownBy_refl _ _⟩
  case round =>
    obtain ⟨k, hk, rfl, hg⟩ := hrel
    have HG := Lib.hid hg
    clear hg
    by_cases hlt : k < l
    · have hke : k < L.length := by rw [HLX.out]; exact hlt
      have hdr : w.grownBy wr.drew none := ⟨HG.out.os, HG.out.tape, HG.out.output, HG.out.size, HG.out.block⟩
      obtain ⟨b1, o1, i1, rfl, _, p0, hi1⟩ := (H1.out.carry HG.out).at hke
      obtain ⟨b2, o2, i2, rfl, _, q0, hi2⟩ := (H2.out.carry HG.out).at hke
      have hlm := HLE.out _ (gm hke)
      have hdw : wr.grownBy wr.drew none := ⟨rfl, rfl, rfl, Nat.le_refl _, fun _ _ _ => rfl⟩
      have hc := eqIntS_any i1 i2 (L.getD k []) (L.getD k []) wr.drew (hi1.carry hdw) (hi2.carry hdw) hlm hlm
      rw [decide_eq_true rfl] at hc
      have HC := Lib.hid hc
      have HDR := Lib.hid hdr
      obtain ⟨s1, r1, rfl⟩ := hi1.shape
      obtain ⟨s2, r2, rfl⟩ := hi2.shape
      generalize (L.getD k []).length = m1 at *
      clear hke hlm hdw hdr hi1 hi2 hc
      go_wp2_with fail
      refine wp_region_still_tail 8 (by kernel_rfl) (by kernel_rfl) ?_
      simp only [List.take_succ_cons, List.take_zero, List.drop_succ_cons, List.drop_zero]
      repeat still_step
      refine wpStill_nil ?_
      change wpList _ _ _ _ _ wr.drew
      go_wp2_with (
        go_at_call 37
        with_reducible refine HC.out.mono ?_
        rintro e w2 ⟨rfl, hg⟩
        have HG2 := Lib.hid (grownBy_trans HDR.out hg)
        clear hg)
      go_roundw
      case rel => exact ⟨k + 1, by omega, by go_num, HG2.out⟩
      case measure => simp [intOf]; omega
    · have hkl : k = l := by omega
      subst hkl
      go_wp2
      go_ret
      exact ⟨rfl, HG.out⟩
/-! ### marking -/
def mkXR (k : Int) (x : XR) : XR := ⟨x.v, cntI k x.zs.length⟩
def mkXRs (k : Int) : List XR → List XR
  | [] => []
  | x :: r => mkXR k x :: mkXRs (k + x.zs.length) r
theorem mkXRs_len (xs : List XR) : ∀ k : Int, (mkXRs k xs).length = xs.length := by
  induction xs with
  | nil => intro k; rfl
  | cons x r ih => intro k; simp only [mkXRs, List.length_cons, ih]
theorem mkXRs_snoc (A : List XR) (x : XR) : ∀ k : Int, mkXRs k (A ++ [x]) = mkXRs k A ++ [mkXR (k + totS (rws A)) x] := by
  induction A with
  | nil => intro k; simp [mkXRs, rws, totS]
  | cons y A ih =>
    intro k
    simp only [List.cons_append, mkXRs, ih, rws, List.map_cons, totS]
    rw [show k + (y.zs.length : Int) + (totS (List.map RX.zs A) : Int) = k + ((y.zs.length + totS (List.map RX.zs A) : Nat) : Int) by omega]
theorem OwnR.sameC {α : Type} {E : Lay α} {B : Nat} {w : World} {v : Value} {xs ys : List α} (h : OwnR E B w v xs) (hl : ys.length = xs.length) (hc : ys.flatMap E.cs = xs.flatMap E.cs) : OwnR E B w v ys := by
  unfold OwnR at h ⊢
  rw [hl, hc]
  exact h
set_option maxHeartbeats 4000000 in
theorem markIntSS_any (a : Option Addr) (n c : Nat) (xs : List XR) (k : Int) (w : World) (l : List Asrt) (hs : Sep w (OS (.slice a n c) xs :: l)) (hn : n = xs.length) (hn2 : n ≤ 2000000) (hl : totS (rws xs) ≤ 2000000) (h0 : 0 ≤ k) (h1 : k ≤ 50000000) :
    Calls Tryd.prog 39 #[.slice a n c, .int .i64 k] w fun e w' => e = .returned (.int .i64 (k + totS (rws xs))) ∧ Sep w' (OS (.slice a n c) (mkXRs k xs) :: l) := by
  have HS := Lib.hid hs.outBag; have HL := Lib.hid hn.symm
  clear hs hn
  go_enter Tryd.func39, Tryd.ntmps39
  go_wp2
  go_loopw [1, 5] (fun kv i wr => ∃ (j : Nat) (A R : List XR) (q : Int), j ≤ n ∧ i = .int .i64 j ∧ xs = A ++ R ∧ A.length = j ∧ kv = .int .i64 q ∧ q = k + totS (rws A) ∧ Sep wr (OR rowE (.slice a n c) (mkXRs k A ++ R) :: Bag (rowsS (mkXRs k A)) :: Bag (rowsS R) :: l)) (fun _ i _ => n - (intOf i).toNat)
  case atStart => exact ⟨0, [], xs, k, by omega, rfl, rfl, rfl, rfl, by simp [rws, totS], by simpa [mkXRs, rowsS] using HS.out.noBag.s2⟩
  case round =>
    obtain ⟨j, A, R, q, hj, rfl, hx, hA, rfl, hq, hs⟩ := hrel
    have HQ := Lib.hid hq
    have HSX := Lib.hid hs; have HX := Lib.hid hx; have HA := Lib.hid hA
    have hwl : totS (rws A) + totS (rws R) = totS (rws xs) := by rw [hx]; unfold rws; rw [List.map_append, totS_app]
    clear hs hx hA HS
    by_cases hlt : j < n
    · have hRl : 0 < R.length := by
        have h1 := HL.out
        rw [HX.out, List.length_append, HA.out] at h1
        omega
      obtain ⟨x, R', rfl⟩ : ∃ x R', R = x :: R' := by
        cases R with
        | nil => simp at hRl
        | cons x R' => exact ⟨x, R', rfl⟩
      have hll : n = (mkXRs k A ++ x :: R').length := by
        have h1 := HL.out
        rw [HX.out, List.length_append] at h1
        rw [List.length_append, mkXRs_len]
        omega
      have hjl : j < (mkXRs k A ++ x :: R').length := by rw [← hll]; exact hlt
      have hget : (mkXRs k A ++ x :: R').getD j xr0 = x := by
        rw [List.getD_eq_getElem?_getD, List.getElem?_append_right (by rw [mkXRs_len, HA.out]; exact Nat.le_refl _), mkXRs_len, HA.out, Nat.sub_self]
        rfl
      obtain ⟨g, cap, he, _, _, _⟩ := OwnR.parts (show OwnR rowE 0 wr (.slice a n c) (mkXRs k A ++ x :: R') from HSX.out.hd) (by omega)
      rw [← hll] at he
      cases he
      have hq1 : q ≤ 52000000 := by omega
      have hq0 : 0 ≤ q := by omega
      obtain ⟨i1, d1, hiv⟩ : ∃ a c, x.v = .slice a x.zs.length c := own_shape (show OwnInts 0 wr x.v x.zs from (by have h := HSX.out.s3; rw [rowsS_cons] at h; exact h.outBag.hd))
      have p0 := row_cell HSX.out.hd hll hjl
      rw [hget] at p0
      have h2 := HSX.out
      rw [rowsS_cons] at h2
      have h3 := h2.s3.outBag
      have hwx : totS (rws A) + x.zs.length ≤ totS (rws xs) := by rw [← hwl]; simp only [rws, List.map_cons, totS]; omega
      obtain ⟨xiv, xi⟩ := x
      simp only at hiv hwx p0
      subst hiv
      have h3' : Sep _ (OI (.slice i1 xi.length d1) xi :: Bag (rowsS R') :: OR rowE (.slice (some ⟨g, 0, none⟩) n c) (mkXRs k A ++ ⟨.slice i1 xi.length d1, xi⟩ :: R') :: Bag (rowsS (mkXRs k A)) :: l) := h3
      have HS3 := Lib.hid h3'
      obtain ⟨q3, e3⟩ : ∃ q3, q3 = q + (xi.length : Int) := ⟨_, rfl⟩
      have HM1 := Lib.hid fun W l (h : Sep W (OI (.slice i1 xi.length d1) xi :: l)) => markIntS_any i1 xi.length d1 xi q W l h rfl (by omega) (by omega) (by omega)
      rw [← e3] at HM1
      have HQ4 := Lib.hid (show q3 = k + (totS (rws (A ++ [⟨.slice i1 xi.length d1, xi⟩])) : Int) by
        rw [show rws (A ++ [(⟨.slice i1 xi.length d1, xi⟩ : XR)]) = rws A ++ [xi] by simp [rws], totS_app]
        simp only [totS]
        omega)
      have HEND := Lib.hid (show mkXRs k (A ++ [⟨.slice i1 xi.length d1, xi⟩]) = mkXRs k A ++ [⟨.slice i1 xi.length d1, cntI q xi.length⟩] by rw [mkXRs_snoc, ← hq]; rfl)
      have HPUT := Lib.hid fun W l' (h : Sep W (OR rowE (.slice (some ⟨g, 0, none⟩) n c) (mkXRs k A ++ ⟨.slice i1 xi.length d1, xi⟩ :: R') :: l')) =>
        show Sep W (OR rowE (.slice (some ⟨g, 0, none⟩) n c) ((mkXRs k A ++ [⟨.slice i1 xi.length d1, cntI q xi.length⟩]) ++ R') :: l') from by
          rw [List.append_assoc]
          exact h.upd' (A' := OR rowE (.slice (some ⟨g, 0, none⟩) n c) _) (Only.refl _ _) (OwnR.sameC (E := rowE) h.hd (by simp) (by simp [rowE])) (fun k hk => Or.inl hk)
      have HXN := Lib.hid (show xs = (A ++ [⟨.slice i1 xi.length d1, xi⟩]) ++ R' by rw [HX.out]; simp)
      have HAL := Lib.hid (show (A ++ [(⟨.slice i1 xi.length d1, xi⟩ : XR)]).length = j + 1 by rw [List.length_append, HA.out]; rfl)
      clear h2 h3 h3' hll hjl hget e3 hq hwx hwl hq0 hq1
      have HMA := Lib.hid (HM1.out _ _ HS3.out)
      clear HS3 HM1 HSX
      generalize xi.length = m1 at *
      go_wp2_with (
        go_at_call 41
        with_reducible refine HMA.out.mono ?_
        rintro e w5 ⟨rfl, hs5⟩
        have hs7 := HPUT.out _ _ (Sep.bagOne (hs5.s3.under (fun h => h.under (fun h => h.s2) (by simp +contextual)) (by simp +contextual)))
        have HS7 := Lib.hid hs7
        clear hs5 hs7)
      go_roundw
      case rel =>
        have h := HS7.out
        refine ⟨j + 1, _, R', q3, by omega, by go_num, HXN.out, HAL.out, rfl, HQ4.out, ?_⟩
        rw [HEND.out, rowsS_snoc]
        exact h
      case measure => simp [intOf]; omega
    · have hjn : j = n := by omega
      subst hjn
      have hR : R = [] := by
        have h1 := HL.out
        rw [HX.out, List.length_append, HA.out] at h1
        exact List.length_eq_zero_iff.1 (by omega)
      subst hR
      have hxa : xs = A := by rw [HX.out, List.append_nil]
      have hs := HSX.out
      rw [List.append_nil] at hs
      have hs2 := (hs.under (fun h => h.drop2) (by simp +contextual)).intoBag
      rw [← hxa] at hs2 hq
      have HF := Lib.hid hs2
      have HQF := Lib.hid hq
      clear hs hs2 hq hxa hlt hwl HQ
      go_wp2
      go_ret
      exact ⟨by rw [HQF.out]; rfl, HF.out⟩
end Go.Proofs.YtghfifpicklonaaDoor

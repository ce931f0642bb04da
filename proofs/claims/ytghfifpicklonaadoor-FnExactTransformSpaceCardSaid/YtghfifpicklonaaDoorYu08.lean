/-
  The walk of FnExactTransformSpace. Conditions: the table of small primes holds what its text lays; the slices' lengths are those of slices.
-/
import Derived.Test.YtghfifpicklonaaDoorYu07
import Derived.Test.YtghfifpicklonaaDoorBc02
import Derived.Test.YtghfifpicklonaaDoorBc08
namespace Go.Proofs.YtghfifpicklonaaDoor
open Go.RowKit
set_option linter.unusedVariables false
set_option maxRecDepth 100000

section
variable {P : Program} {ops : Array Oper} {Q : Exit → Act → World → Prop} {md : Region.Mode} {Se Sa : World → Prop} {ap : Nat}
/-- Two operations may come up now: each is carried out. -/
theorem AnyL.twoT {i j : Nat} {oi oj : Oper} {fuel : Nat} {listed : Array Bool} {a : Act} {w : World} {r r' : List Oper} (hr : Region.ready md ops listed = [i, j]) (hi' : ops.toList.drop i = oi :: r) (hj' : ops.toList.drop j = oj :: r')
    (h1 : ∀ K' : Act → World → Prop, Shut (∀ a' w', Se w' → ((listed.setIfInBounds i true).getD ap true = false → Sa w') → AnyL P md ops Q Se Sa ap fuel (listed.setIfInBounds i true) a' w' → K' a' w') → if Region.wanted oi (yielded ops a.tmps) = true then Oper.wp P oi a w K' Q else K' (a.put oi.dst undef) w)
    (h2 : ∀ K' : Act → World → Prop, Shut (∀ a' w', Se w' → ((listed.setIfInBounds j true).getD ap true = false → Sa w') → AnyL P md ops Q Se Sa ap fuel (listed.setIfInBounds j true) a' w' → K' a' w') → if Region.wanted oj (yielded ops a.tmps) = true then Oper.wp P oj a w K' Q else K' (a.put oj.dst undef) w) :
    AnyL P md ops Q Se Sa ap (fuel + 1) listed a w := by
  refine ⟨fun h0 => (by rw [hr] at h0; cases h0), fun k hk => ?_⟩
  rw [hr] at hk
  simp only [List.mem_cons, List.not_mem_nil, or_false] at hk
  rcases hk with rfl | rfl
  · exact wpOp_step (op_at hi') fun K' hK => h1 K' fun a w h1 h2 h3 => hK a w ⟨⟨h1, h2⟩, h3⟩
  · exact wpOp_step (op_at hj') fun K' hK => h2 K' fun a w h1 h2 h3 => hK a w ⟨⟨h1, h2⟩, h3⟩
end
theorem OX4.rd {w : World} {s : StSp} {av : Value} {xa : List XR} {bv : Value} {xb : List XR} {cv : Value} {xc : List XR} {dv : Value} {xd : List XR} (h : (OX4 av xa bv xb cv xc dv xd).holds w) (e : rws xa = s.A ∧ rws xb = s.B ∧ rws xc = s.C ∧ rws xd = s.D) : RdSs w s av bv cv dv := OX4.read h e.1 e.2.1 e.2.2.1 e.2.2.2
theorem OS.rd {w : World} {v : Value} {xs : List XR} {L : List (List Int)} (h : (OS v xs).holds w) (e : rws xs = L) : RdS w v L := e ▸ OS.read h
theorem totS_bd {b : Nat} : ∀ {L : List (List Int)}, (∀ r ∈ L, r.length ≤ b) → totS L ≤ L.length * b
  | [], _ => by simp [totS]
  | x :: L, h => by
    have h1 := totS_bd (L := L) fun r hr => h r (List.mem_cons_of_mem _ hr)
    have h2 := h x (by simp)
    simp only [totS, List.length_cons, Nat.add_mul, Nat.one_mul]
    omega
theorem tS_bd {L : List (List Int)} (h1 : L.length ≤ 24) (h2 : ∀ r ∈ L, r.length ≤ 24) : tS L ≤ 1000 := by
  have := totS_bd h2
  have h3 : L.length * 24 ≤ 24 * 24 := Nat.mul_le_mul_right 24 h1
  unfold tS
  omega
theorem prodL_row {p : Nat} [NeZero p] {R M : List (List Int)} {n : Nat} (hp : 1 < p) (hM : RowsOk p n M) : ∀ r ∈ prodL p R M n, r.length = n := fun r hr => (prodL_ok hp hM r hr).1
theorem trRes_small (p cols : Int) (s : StSp) (M : List (List Int)) : totSS (trRes p s cols M) ≤ 1048576 := by
  unfold trRes
  cases hb : trOk p s cols M
  · simp [ss0, totSS, tS, totS]
  · simp only [if_true]
    unfold trOk at hb
    simp only [Bool.and_eq_true, decide_eq_true_iff] at hb
    obtain ⟨⟨h1, h2⟩, h3⟩ := hb
    have hk := ss_nat' h1
    have hp := fldB_bd (ss_k h1).1
    obtain ⟨q, rfl⟩ : ∃ q : Nat, p = q := ⟨p.toNat, by omega⟩
    haveI : NeZero q := ⟨by omega⟩
    unfold invOk at h2
    simp only [Bool.and_eq_true, decide_eq_true_iff] at h2
    obtain ⟨⟨h4, h5⟩, h6⟩ := h2
    obtain ⟨hfld, hp2, n, hn, _, _, hM⟩ := matB_parts h4
    have e : n = s.S.toNat := by omega
    subst e
    have hm : M.length = s.S.toNat := by omega
    have hr := inv_rank hfld hM hm h6
    have g := ge hfld hM hm
    have hls := hk.ls; have hli := hk.li; have hlo := hk.lo
    have hK : RowsOk q s.S.toNat (invR q M) := by rw [(inv_yes hfld hM hm hr).2]; exact g.okT
    unfold totSS movedS
    have e1 := tS_bd (L := prodL q (prodL q M s.A s.S.toNat) (invR q M) s.S.toNat) (by rw [prodL_len, prodL_len]; omega) (fun r hr => by rw [prodL_row (lt_p hfld) hK r hr]; exact hls)
    have e2 := tS_bd (L := prodL q s.B (invR q M) s.S.toNat) (by rw [prodL_len, hk.lb]; omega) (fun r hr => by rw [prodL_row (lt_p hfld) hK r hr]; exact hls)
    have e3 := tS_bd (L := prodL q M s.C s.O.toNat) (by rw [prodL_len]; omega) (fun r hr => by rw [prodL_row (lt_p hfld) hk.oc r hr]; omega)
    have e4 := tS_bd (L := s.D) (by rw [hk.ld]; omega) (fun r hr => by rw [(hk.od r hr).1]; omega)
    simp only
    omega
set_option maxHeartbeats 16000000 in
theorem fnTransform_any (p cols : Int) (s : StSp) (av bv cv dv v : Value) (M : List (List Int)) (w : World) (ht : Tab w) (h : RdSs w s av bv cv dv) (hok : okSS s) (hv : RdS w v M) (hokM : okS M) :
    Calls Tryd.prog 4 #[.int .i64 p, .agg #[.int .i64 s.S, .int .i64 s.I, .int .i64 s.O, av, bv, cv, dv], mxV cols v] w fun e w' => e = .returned (.bool true) ∧ w.grownBy w' none := by
  have HT := Lib.hid ht
  have HZ1 := Lib.hid fun W (hw : w.grownBy W none) => szSS_any s av bv cv dv 1048576 W (h.carry hw) (by decide) (by decide) hok
  have HZP := Lib.hid fun (left : Int) (h0 : 0 ≤ left) (h1 : left ≤ 1048576) W (hw : w.grownBy W none) => szMx_any cols v M left W (hv.carry hw) h0 h1 hokM
  have HTG := Lib.hid fun (hs : SmS s) W (hw : w.grownBy W none) => toSS_any s av bv cv dv W (h.carry hw) hs
  have HTP := Lib.hid fun (hl : tS M ≤ 1048576) W (hw : w.grownBy W none) => toMx_any cols v M W (hv.carry hw) (by unfold tS at hl; omega) (fun r hr => by unfold tS at hl; have := totS_mem hr; omega)
  unfold GivesS at HTG
  unfold GivesM at HTP
  unfold mxV at *
  obtain ⟨ag, tag, rfl⟩ := h.a.shape
  obtain ⟨bg, tbg, rfl⟩ := h.b.shape
  obtain ⟨cg, tcg, rfl⟩ := h.c.shape
  obtain ⟨dg, tdg, rfl⟩ := h.d.shape
  obtain ⟨mg, ng, rfl⟩ := hv.shape
  clear h hok hv hokM ht
  have HS0 := Lib.hid (((Sep.start w).box #[.int .i64 s.S, .int .i64 s.I, .int .i64 s.O, .slice ag s.A.length tag, .slice bg s.B.length tbg, .slice cg s.C.length tcg, .slice dg s.D.length tdg] 24).boxAt (w.heap.size + 1) (by simp) #[.int .i64 cols, .slice mg M.length ng] 40)
  have HK0 := Lib.hid (show w.grownBy _ none from HS0.out.tl.tl.hd)
  by_cases hsz : lft 1048576 (totSS s) < 0
  · generalize lft 1048576 (totSS s) = rr at *
    clear HTG HTP HZP HT
    go_enter Tryd.func4, Tryd.ntmps4
    go_wp2_with (
      (go_at_call 6
       with_reducible refine (HZ1.out _ HK0.out).mono ?_
       rintro e w2 ⟨rfl, hg⟩
       have hs2 := HS0.out.grown hg
       obtain ⟨y0_, y1_, _⟩ := bb2 hs2.hd
       obtain ⟨x0_, x1_, x2_, x3_, x4_, x5_, x6_⟩ := bq7 hs2.tl.hd
       have HS2 := Lib.hid hs2
       have HK2 := Lib.hid (show w.grownBy w2 none from hs2.tl.tl.hd)
       clear hg hs2))
    go_ret
    exact ⟨rfl, HK2.out⟩
  · have htg : totSS s ≤ 1048576 := by unfold lft at hsz; by_cases h : (1048576 : Int) - totSS s < 0 <;> simp [h] at hsz <;> omega
    obtain ⟨r1, hr1⟩ : ∃ r, lft 1048576 (totSS s) = r := ⟨_, rfl⟩
    rw [hr1] at HZ1 hsz
    have hr0 : 0 ≤ r1 := by omega
    have hr2 : r1 ≤ 1048576 := by rw [← hr1]; unfold lft; split <;> omega
    have HZ2 := Lib.hid (HZP.out r1 hr0 hr2)
    by_cases hsz2 : lft r1 (tS M) < 0
    · generalize lft r1 (tS M) = rr at *
      clear HTG HTP HZP HT hr1 hr0 hr2 htg
      go_enter Tryd.func4, Tryd.ntmps4
      go_wp2_with (first
        | (go_at_call 6
           with_reducible refine (HZ1.out _ HK0.out).mono ?_
           rintro e w2 ⟨rfl, hg⟩
           have hs2 := HS0.out.grown hg
           obtain ⟨y0_, y1_, _⟩ := bb2 hs2.hd
           obtain ⟨x0_, x1_, x2_, x3_, x4_, x5_, x6_⟩ := bq7 hs2.tl.hd
           have HS2 := Lib.hid hs2
           have HK2 := Lib.hid (show w.grownBy w2 none from hs2.tl.tl.hd)
           clear hg hs2)
        | (go_at_call 15
           with_reducible refine (HZ2.out _ HK2.out).mono ?_
           rintro e w3 ⟨rfl, hg⟩
           have hs3 := HS2.out.grown hg
           clear x0_ x1_ x2_ x3_ x4_ x5_ x6_
           clear y0_ y1_
           have HS3 := Lib.hid hs3
           have HK3 := Lib.hid (show w.grownBy w3 none from hs3.tl.tl.hd)
           clear hg hs3))
      go_ret
      exact ⟨rfl, HK3.out⟩
    · have htp : tS M ≤ 1048576 := by unfold lft at hsz2; by_cases h : r1 - tS M < 0 <;> simp [h] at hsz2 <;> omega
      have hsg := SmS.of htg
      have HTG2 := Lib.hid (HTG.out hsg)
      have HTP2 := Lib.hid (HTP.out htp)
      clear HTG HTP
      have hm1 : M.length ≤ 1048576 := by unfold tS at htp; omega
      have hm2 : ∀ r ∈ M, r.length ≤ 1048576 := fun r hr => by unfold tS at htp; have := totS_mem hr; omega
      obtain ⟨R, hR⟩ : ∃ R, trRes p s cols M = R := ⟨_, rfl⟩
      obtain ⟨b, hb⟩ : ∃ b, trOk p s cols M = b := ⟨_, rfl⟩
      have htr : totSS R ≤ 1048576 := by rw [← hR]; exact trRes_small p cols s M
      have hsr := SmS.of htr
      have HEG := Lib.hid fun W u0 u1 u2 u3 v0 v1 v2 v3 (h : RdSs W s u0 u1 u2 u3) (h' : RdSs W s v0 v1 v2 v3) => eqSS_same s u0 u1 u2 u3 v0 v1 v2 v3 W h h' hsg
      have HEP := Lib.hid fun W u v (h : RdS W u M) (h' : RdS W v M) => eqMx_same cols u v M W h h' (by omega) (fun r hr => by have := hm2 r hr; omega)
      have HMG := Lib.hid fun W sa sb sc sd ta tb tc td xa xb xc xd l (h : Sep W (OX4 (.slice sa s.A.length ta) xa (.slice sb s.B.length tb) xb (.slice sc s.C.length tc) xc (.slice sd s.D.length td) xd :: l)) (e : rws xa = s.A ∧ rws xb = s.B ∧ rws xc = s.C ∧ rws xd = s.D) => markSS_any s sa sb sc sd ta tb tc td xa xb xc xd 1 W l h e.1 e.2.1 e.2.2.1 e.2.2.2 htg (by decide) (by decide)
      have HMP := Lib.hid fun (k : Int) (h0 : 0 ≤ k) (h1 : k ≤ 10000000) W a c xs l (h : Sep W (OS (.slice a M.length c) xs :: l)) (hx : rws xs = M) => markMx_any cols a c M xs k W l h hx htp h0 h1
      unfold MarkR at HMG HMP
      have HSP := Lib.hid fun W u0 u1 u2 u3 u (hw : w.grownBy W none) (h : RdSs W s u0 u1 u2 u3) (h' : RdS W u M) => show Calls Tryd.prog 16 #[.int .i64 p, .agg #[.int .i64 s.S, .int .i64 s.I, .int .i64 s.O, u0, u1, u2, u3], .agg #[.int .i64 cols, u]] W fun e w' => ∃ (sa sb sc sd : Option Addr) (ta tb tc td : Nat) (xa xb xc xd : List XR), e = .returned (.tuple #[.agg #[.int .i64 R.S, .int .i64 R.I, .int .i64 R.O, .slice sa R.A.length ta, .slice sb R.B.length tb, .slice sc R.C.length tc, .slice sd R.D.length td], .bool b]) ∧ rws xa = R.A ∧ rws xb = R.B ∧ rws xc = R.C ∧ rws xd = R.D ∧ Sep w' [OX4 (.slice sa R.A.length ta) xa (.slice sb R.B.length tb) xb (.slice sc R.C.length tc) xc (.slice sd R.D.length td) xd, KeepA W] from by
        have := sTransform_any p cols s u0 u1 u2 u3 u M W h hsg h'.mat (by omega) (fun r hr => by have := hm2 r hr; omega)
        rw [hR, hb] at this
        exact this
      have HIM := Lib.hid fun W u0 u1 u2 u3 u (hw : w.grownBy W none) (h : RdSs W s u0 u1 u2 u3) (h' : RdS W u M) => show Calls Tryd.prog 18 #[.int .i64 p, .agg #[.int .i64 s.S, .int .i64 s.I, .int .i64 s.O, u0, u1, u2, u3], .agg #[.int .i64 cols, u]] W fun e w' => ∃ (sa sb sc sd : Option Addr) (ta tb tc td : Nat) (xa xb xc xd : List XR), e = .returned (.tuple #[.agg #[.int .i64 R.S, .int .i64 R.I, .int .i64 R.O, .slice sa R.A.length ta, .slice sb R.B.length tb, .slice sc R.C.length tc, .slice sd R.D.length td], .bool b]) ∧ rws xa = R.A ∧ rws xb = R.B ∧ rws xc = R.C ∧ rws xd = R.D ∧ Sep w' [OX4 (.slice sa R.A.length ta) xa (.slice sb R.B.length tb) xb (.slice sc R.C.length tc) xc (.slice sd R.D.length td) xd, KeepA W] from by
        have := iTransform_any p cols s u0 u1 u2 u3 u M W (HT.out.grown hw) h hsg h'.mat (by omega) (fun r hr => by have := hm2 r hr; omega)
        rw [hR, hb] at this
        exact this
      have HEQ := Lib.hid fun W u0 u1 u2 u3 v0 v1 v2 v3 (h : RdSs W R u0 u1 u2 u3) (h' : RdSs W R v0 v1 v2 v3) => eqSS_same R u0 u1 u2 u3 v0 v1 v2 v3 W h h' hsr
      have HMM := Lib.hid fun W sa sb sc sd ta tb tc td xa xb xc xd l (h : Sep W (OX4 (.slice sa R.A.length ta) xa (.slice sb R.B.length tb) xb (.slice sc R.C.length tc) xc (.slice sd R.D.length td) xd :: l)) (e : rws xa = R.A ∧ rws xb = R.B ∧ rws xc = R.C ∧ rws xd = R.D) => markSS2_any R sa sb sc sd ta tb tc td xa xb xc xd 1 W l h e.1 e.2.1 e.2.2.1 e.2.2.2 htr (by decide) (by decide)
      have HHM := Lib.hid fun W u0 u1 u2 u3 (h : RdSs W (mkSS 1 R) u0 u1 u2 u3) => heldSS_any R u0 u1 u2 u3 1 W h htr (by decide) (by decide)
      obtain ⟨m, hm⟩ : ∃ m : Int, m = 1 + (cntSS R : Int) := ⟨_, rfl⟩
      rw [← hm] at HMM HHM
      have hm0 : ¬ m < 0 := by omega
      have hmm : (m != m) = false := by simp
      have hnb : (b != b) = false := by simp
      generalize lft r1 (tS M) = r2 at *
      unfold mxV at *
      clear htg htp hsg hR hb hm hr1 hr0 hr2 HZP hm1 hm2 htr hsr HT
      go_enter Tryd.func4, Tryd.ntmps4
      go_upto_region 8 with (first
        | (go_at_call 6
           with_reducible refine (HZ1.out _ HK0.out).mono ?_
           rintro e w2 ⟨rfl, hg⟩
           have hs2 := HS0.out.grown hg
           obtain ⟨y0_, y1_, _⟩ := bb2 hs2.hd
           obtain ⟨x0_, x1_, x2_, x3_, x4_, x5_, x6_⟩ := bq7 hs2.tl.hd
           have HS2 := Lib.hid hs2
           have HK2 := Lib.hid (show w.grownBy w2 none from hs2.tl.tl.hd)
           clear hg hs2)
        | (go_at_call 15
           with_reducible refine (HZ2.out _ HK2.out).mono ?_
           rintro e w3 ⟨rfl, hg⟩
           have hs3 := HS2.out.grown hg
           clear x0_ x1_ x2_ x3_ x4_ x5_ x6_
           clear y0_ y1_
           have HS3 := Lib.hid hs3
           have HK3 := Lib.hid (show w.grownBy w3 none from hs3.tl.tl.hd)
           clear hg hs3))
      have HBM := Lib.hid fun (W1 : World) (L : List Asrt) (h : Sep W1 L) (hG : BxA w.heap.size #[.int .i64 s.S, .int .i64 s.I, .int .i64 s.O, .slice ag s.A.length tag, .slice bg s.B.length tbg, .slice cg s.C.length tcg, .slice dg s.D.length tdg] 24 ∈ L) (hP : BxA (w.heap.size + 1) #[.int .i64 cols, .slice mg M.length ng] 40 ∈ L) => show (W1.cell? ⟨w.heap.size, 0, none⟩ = some (.int .i64 s.S) ∧ W1.cell? ⟨w.heap.size, 1, none⟩ = some (.int .i64 s.I) ∧ W1.cell? ⟨w.heap.size, 2, none⟩ = some (.int .i64 s.O) ∧ W1.cell? ⟨w.heap.size, 3, none⟩ = some (.slice ag s.A.length tag) ∧ W1.cell? ⟨w.heap.size, 4, none⟩ = some (.slice bg s.B.length tbg) ∧ W1.cell? ⟨w.heap.size, 5, none⟩ = some (.slice cg s.C.length tcg) ∧ W1.cell? ⟨w.heap.size, 6, none⟩ = some (.slice dg s.D.length tdg)) ∧ (W1.cell? ⟨w.heap.size + 1, 0, none⟩ = some (.int .i64 cols) ∧ W1.cell? ⟨w.heap.size + 1, 1, none⟩ = some (.slice mg M.length ng)) from
        have q := bq7 (show W1.heap[w.heap.size]? = some (.cells #[.int .i64 s.S, .int .i64 s.I, .int .i64 s.O, .slice ag s.A.length tag, .slice bg s.B.length tbg, .slice cg s.C.length tcg, .slice dg s.D.length tdg] 24 (0, 0)) from Sep.all h _ hG)
        have q2 := bb2 (show W1.heap[w.heap.size + 1]? = some (.cells #[.int .i64 cols, .slice mg M.length ng] 40 (0, 0)) from Sep.all h _ hP)
        ⟨q, q2.1, q2.2.1⟩
      have HSA := Lib.hid HS3.out.dr
      have HKA := Lib.hid (show w.grownBy _ none from HSA.out.tl.tl.hd)
      go_cut [8, 9] from 29 to 37 (fun v6 v7 wx => ∃ (nb : Nat) (a0 b0 c0 d0 : Option Addr) (ta0 tb0 tc0 td0 : Nat) (xa0 xb0 xc0 xd0 : List XR), v6 = .pointer (some ⟨nb, 0, none⟩) ∧ v7 = .bool b ∧ (rws xa0 = R.A ∧ rws xb0 = R.B ∧ rws xc0 = R.C ∧ rws xd0 = R.D) ∧ Sep wx [BxA nb #[.int .i64 R.S, .int .i64 R.I, .int .i64 R.O, .slice a0 R.A.length ta0, .slice b0 R.B.length tb0, .slice c0 R.C.length tc0, .slice d0 R.D.length td0] 32, OX4 (.slice a0 R.A.length ta0) xa0 (.slice b0 R.B.length tb0) xb0 (.slice c0 R.C.length tc0) xc0 (.slice d0 R.D.length td0) xd0, BxA (w.heap.size + 1) #[.int .i64 cols, .slice mg M.length ng] 40, BxA w.heap.size #[.int .i64 s.S, .int .i64 s.I, .int .i64 s.O, .slice ag s.A.length tag, .slice bg s.B.length tbg, .slice cg s.C.length tcg, .slice dg s.D.length tdg] 24, KeepA w])
      case first =>
        have XA0 := Lib.hid (HBM.out _ _ HSA.out (by simp) (by simp))
        refine AnyL.start (fun W1 => (W1.cell? ⟨w.heap.size, 0, none⟩ = some (.int .i64 s.S) ∧ W1.cell? ⟨w.heap.size, 1, none⟩ = some (.int .i64 s.I) ∧ W1.cell? ⟨w.heap.size, 2, none⟩ = some (.int .i64 s.O) ∧ W1.cell? ⟨w.heap.size, 3, none⟩ = some (.slice ag s.A.length tag) ∧ W1.cell? ⟨w.heap.size, 4, none⟩ = some (.slice bg s.B.length tbg) ∧ W1.cell? ⟨w.heap.size, 5, none⟩ = some (.slice cg s.C.length tcg) ∧ W1.cell? ⟨w.heap.size, 6, none⟩ = some (.slice dg s.D.length tdg)) ∧ (W1.cell? ⟨w.heap.size + 1, 0, none⟩ = some (.int .i64 cols) ∧ W1.cell? ⟨w.heap.size + 1, 1, none⟩ = some (.slice mg M.length ng))) (fun _ => True) 99 (by kernel_rfl) ?_
        refine AnyL.take (i := 0) (v := ?vx1) (by rfl) (by kernel_rfl) (by kernel_rfl) (by kernel_rfl) rfl (by exact fun _ _ _ h => h) (by rfl) ?hyx1 (by exact ⟨XA0.out, fun _ => trivial⟩) ?restx1
        case hyx1 => intro W hSW; (try dsimp only at hSW); first | (go_simp; done) | (go_simp; with_reducible rfl)
        try simp only [Act.put, List.setIfInBounds_toArray, List.set_cons_zero, List.set_cons_succ]
        refine AnyL.take (i := 1) (v := ?vx2) (by rfl) (by kernel_rfl) (by kernel_rfl) (by kernel_rfl) rfl (by exact fun _ _ _ h => h) (by rfl) ?hyx2 (by exact ⟨XA0.out, fun _ => trivial⟩) ?restx2
        case hyx2 => intro W hSW; (try dsimp only at hSW); first | (go_simp; done) | (go_simp; with_reducible rfl)
        try simp only [Act.put, List.setIfInBounds_toArray, List.set_cons_zero, List.set_cons_succ]
        refine AnyL.take (i := 3) (v := ?vx3) (by rfl) (by kernel_rfl) (by kernel_rfl) (by kernel_rfl) rfl (by exact fun _ _ _ h => h) (by rfl) ?hyx3 (by exact ⟨XA0.out, fun _ => trivial⟩) ?restx3
        case hyx3 => intro W hSW; (try dsimp only at hSW); first | (go_simp; done) | (go_simp; with_reducible rfl)
        try simp only [Act.put, List.setIfInBounds_toArray, List.set_cons_zero, List.set_cons_succ]
        refine AnyL.twoT (i := 2) (j := 9) (by kernel_rfl) (by rfl) (by rfl) (fun K hK => ?_) (fun K hK => ?_)
        · go_simp
          go_at_call 8
          with_reducible refine (HTG2.out _ HKA.out).mono ?_
          rintro e wac ⟨aA, bA, cA, dA, taA, tbA, tcA, tdA, xaA, xbA, xcA, xdA, rfl, ha, hb, hc, hd, hsg⟩
          have hxs := And.intro ha (And.intro hb (And.intro hc hd))
          have HXA := Lib.hid hxs
          have hs := HSA.out.graft1 hsg OX4_own
          clear ha hb hc hd
          have HSac := Lib.hid hs
          have HKac := Lib.hid (show w.grownBy _ none from hs.tl.tl.tl.hd)
          clear hsg hs hxs
          refine hK.out _ _ (by exact HBM.out _ _ HSac.out (by simp) (by simp)) (by exact fun _ => trivial) ?_
          clear hK K
          try simp only [Act.put, List.setIfInBounds_toArray, List.set_cons_zero, List.set_cons_succ]
          refine AnyL.twoT (i := 4) (j := 9) (by kernel_rfl) (by rfl) (by rfl) (fun K hK => ?_) (fun K hK => ?_)
          · go_simp
            go_at_call 17
            with_reducible refine (HTP2.out _ HKac.out).mono ?_
            rintro e wacc ⟨mB, nB, yB, rfl, hxs, hsg⟩
            have HXB := Lib.hid hxs
            have hs := HSac.out.graft1 hsg OS_own
            have HSacc := Lib.hid hs
            have HKacc := Lib.hid (show w.grownBy _ none from hs.tl.tl.tl.tl.hd)
            clear hsg hs hxs
            refine hK.out _ _ (by exact HBM.out _ _ HSacc.out (by simp) (by simp)) (by exact fun _ => trivial) ?_
            clear hK K
            try simp only [Act.put, List.setIfInBounds_toArray, List.set_cons_zero, List.set_cons_succ]
            refine AnyL.twoT (i := 5) (j := 9) (by kernel_rfl) (by rfl) (by rfl) (fun K hK => ?_) (fun K hK => ?_)
            · go_simp
              have HCC := Lib.hid (HSP.out _ _ _ _ _ _ HKacc.out (OX4.rd HSacc.out.tl.hd HXA.out) (OS.rd HSacc.out.hd HXB.out))
              go_at_call 16
              with_reducible refine HCC.out.mono ?_
              rintro e waccc ⟨a0, b0, c0, d0, ta0, tb0, tc0, td0, xa0, xb0, xc0, xd0, rfl, ha, hb, hc, hd, hsg⟩
              have HX0 := Lib.hid (And.intro ha (And.intro hb (And.intro hc hd)))
              have hs := Sep.cutA (X := [_]) (A := [_]) (Sep.cutA (X := [_, _]) (A := [_]) (HSacc.out.graft1 hsg OX4_own))
              have HSaccc := Lib.hid hs
              have HKaccc := Lib.hid (show w.grownBy _ none from hs.tl.tl.tl.hd)
              clear hsg hs ha hb hc hd
              refine hK.out _ _ (by exact HBM.out _ _ HSaccc.out (by simp) (by simp)) (by exact fun _ => trivial) ?_
              clear hK K
              try simp only [Act.put, List.setIfInBounds_toArray, List.set_cons_zero, List.set_cons_succ]
              refine AnyL.take (i := 6) (v := ?vx4) (by rfl) (by kernel_rfl) (by kernel_rfl) (by kernel_rfl) rfl (by exact fun _ _ _ h => h) (by rfl) ?hyx4 (by exact ⟨HBM.out _ _ HSaccc.out (by simp) (by simp), fun _ => trivial⟩) ?restx4
              case hyx4 => intro W hSW; (try dsimp only at hSW); first | (go_simp; done) | (go_simp; with_reducible rfl)
              try simp only [Act.put, List.setIfInBounds_toArray, List.set_cons_zero, List.set_cons_succ]
              refine AnyL.take (i := 7) (v := ?vx5) (by rfl) (by kernel_rfl) (by kernel_rfl) (by kernel_rfl) rfl (by exact fun _ _ _ h => h) (by rfl) ?hyx5 (by exact ⟨HBM.out _ _ HSaccc.out (by simp) (by simp), fun _ => trivial⟩) ?restx5
              case hyx5 => intro W hSW; (try dsimp only at hSW); first | (go_simp; done) | (go_simp; with_reducible rfl)
              try simp only [Act.put, List.setIfInBounds_toArray, List.set_cons_zero, List.set_cons_succ]
              refine AnyL.take (i := 8) (v := ?vx6) (by rfl) (by kernel_rfl) (by kernel_rfl) (by kernel_rfl) rfl (by exact fun _ _ _ h => h) (by rfl) ?hyx6 (by exact ⟨HBM.out _ _ HSaccc.out (by simp) (by simp), fun _ => trivial⟩) ?restx6
              case hyx6 => intro W hSW; (try dsimp only at hSW); first | (go_simp; done) | (go_simp; with_reducible rfl)
              try simp only [Act.put, List.setIfInBounds_toArray, List.set_cons_zero, List.set_cons_succ]
              refine AnyL.step (i := 9) (by kernel_rfl) (by rfl) (fun K hK => ?_)
              go_simp
              have HSacccz := Lib.hid (HSaccc.out.boxAt (waccc.heap.size) (by rfl) #[.int .i64 0, .int .i64 0, .int .i64 0, .slice none 0 0, .slice none 0 0, .slice none 0 0, .slice none 0 0] 32)
              refine hK.out _ (waccc.alloc (.cells #[.int .i64 0, .int .i64 0, .int .i64 0, .slice none 0 0, .slice none 0 0, .slice none 0 0, .slice none 0 0] 32)) (by exact HBM.out _ _ HSacccz.out (by simp) (by simp)) (by exact fun _ => trivial) ?_
              clear hK K
              try simp only [Act.put, List.setIfInBounds_toArray, List.set_cons_zero, List.set_cons_succ]
              generalize waccc.alloc (.cells #[.int .i64 0, .int .i64 0, .int .i64 0, .slice none 0 0, .slice none 0 0, .slice none 0 0, .slice none 0 0] 32) = wacccz at *
              generalize waccc.heap.size = nb at *
              have HKacccz := Lib.hid (show w.grownBy _ none from HSacccz.out.tl.tl.tl.tl.hd)
              have h8 := HSacccz.out
              obtain ⟨k0, k1, k2, k3, k4, k5, k6⟩ := bq7 h8.hd
              obtain ⟨j0, j1, j2, j3, j4, j5, j6⟩ := bf7 h8.hd
              have HZ9 := Lib.hid (((((((h8.setB 0 (.int .i64 R.S)).setB 1 (.int .i64 R.I)).setB 2 (.int .i64 R.O)).setB 3 (.slice a0 R.A.length ta0)).setB 4 (.slice b0 R.B.length tb0)).setB 5 (.slice c0 R.C.length tc0)).setB 6 (.slice d0 R.D.length td0))
              clear h8
              refine AnyL.step (i := 10) (by kernel_rfl) (by rfl) (fun K hK => ?_)
              go_simp
              refine hK.out _ (((((((wacccz.setCell ⟨nb, 0, none⟩ (.int .i64 R.S)).setCell ⟨nb, 1, none⟩ (.int .i64 R.I)).setCell ⟨nb, 2, none⟩ (.int .i64 R.O)).setCell ⟨nb, 3, none⟩ (.slice a0 R.A.length ta0)).setCell ⟨nb, 4, none⟩ (.slice b0 R.B.length tb0)).setCell ⟨nb, 5, none⟩ (.slice c0 R.C.length tc0)).setCell ⟨nb, 6, none⟩ (.slice d0 R.D.length td0)) (by exact HBM.out _ _ HZ9.out (by simp) (by simp)) (by exact fun _ => trivial) ?_
              clear hK K
              try simp only [Act.put, List.setIfInBounds_toArray, List.set_cons_zero, List.set_cons_succ]
              refine AnyL.take (i := 11) (v := ?vx11) (by rfl) (by kernel_rfl) (by kernel_rfl) (by kernel_rfl) rfl (by exact fun _ _ _ h => h) (by rfl) ?hyx11 (by exact ⟨HBM.out _ _ HZ9.out (by simp) (by simp), fun _ => trivial⟩) ?restx11
              case hyx11 => intro W hSW; (try dsimp only at hSW); first | (go_simp; done) | (go_simp; with_reducible rfl)
              try simp only [Act.put, List.setIfInBounds_toArray, List.set_cons_zero, List.set_cons_succ]
              refine AnyL.done (by kernel_rfl) ?_ _
              clear k0 k1 k2 k3 k4 k5 k6 j0 j1 j2 j3 j4 j5 j6
              go_wp2_with fail
              go_meet
              exact ⟨nb, a0, b0, c0, d0, ta0, tb0, tc0, td0, xa0, xb0, xc0, xd0, rfl, rfl, HX0.out, HZ9.out⟩
            · go_simp
              have HSaccz := Lib.hid (HSacc.out.boxAt (wacc.heap.size) (by rfl) #[.int .i64 0, .int .i64 0, .int .i64 0, .slice none 0 0, .slice none 0 0, .slice none 0 0, .slice none 0 0] 32)
              refine hK.out _ (wacc.alloc (.cells #[.int .i64 0, .int .i64 0, .int .i64 0, .slice none 0 0, .slice none 0 0, .slice none 0 0, .slice none 0 0] 32)) (by exact HBM.out _ _ HSaccz.out (by simp) (by simp)) (by exact fun _ => trivial) ?_
              clear hK K
              try simp only [Act.put, List.setIfInBounds_toArray, List.set_cons_zero, List.set_cons_succ]
              generalize wacc.alloc (.cells #[.int .i64 0, .int .i64 0, .int .i64 0, .slice none 0 0, .slice none 0 0, .slice none 0 0, .slice none 0 0] 32) = waccz at *
              generalize wacc.heap.size = nb at *
              have HKaccz := Lib.hid (show w.grownBy _ none from HSaccz.out.tl.tl.tl.tl.tl.hd)
              refine AnyL.step (i := 5) (by kernel_rfl) (by rfl) (fun K hK => ?_)
              go_simp
              have HCC := Lib.hid (HSP.out _ _ _ _ _ _ HKaccz.out (OX4.rd HSaccz.out.tl.tl.hd HXA.out) (OS.rd HSaccz.out.tl.hd HXB.out))
              go_at_call 16
              with_reducible refine HCC.out.mono ?_
              rintro e wacczc ⟨a0, b0, c0, d0, ta0, tb0, tc0, td0, xa0, xb0, xc0, xd0, rfl, ha, hb, hc, hd, hsg⟩
              have HX0 := Lib.hid (And.intro ha (And.intro hb (And.intro hc hd)))
              have hs := Sep.cutA (X := [_, _]) (A := [_]) (Sep.cutA (X := [_, _, _]) (A := [_]) (HSaccz.out.graft1 hsg OX4_own))
              have HSacczc := Lib.hid hs
              have HKacczc := Lib.hid (show w.grownBy _ none from hs.tl.tl.tl.tl.hd)
              clear hsg hs ha hb hc hd
              refine hK.out _ _ (by exact HBM.out _ _ HSacczc.out (by simp) (by simp)) (by exact fun _ => trivial) ?_
              clear hK K
              try simp only [Act.put, List.setIfInBounds_toArray, List.set_cons_zero, List.set_cons_succ]
              refine AnyL.take (i := 6) (v := ?vx12) (by rfl) (by kernel_rfl) (by kernel_rfl) (by kernel_rfl) rfl (by exact fun _ _ _ h => h) (by rfl) ?hyx12 (by exact ⟨HBM.out _ _ HSacczc.out (by simp) (by simp), fun _ => trivial⟩) ?restx12
              case hyx12 => intro W hSW; (try dsimp only at hSW); first | (go_simp; done) | (go_simp; with_reducible rfl)
              try simp only [Act.put, List.setIfInBounds_toArray, List.set_cons_zero, List.set_cons_succ]
              refine AnyL.take (i := 7) (v := ?vx13) (by rfl) (by kernel_rfl) (by kernel_rfl) (by kernel_rfl) rfl (by exact fun _ _ _ h => h) (by rfl) ?hyx13 (by exact ⟨HBM.out _ _ HSacczc.out (by simp) (by simp), fun _ => trivial⟩) ?restx13
              case hyx13 => intro W hSW; (try dsimp only at hSW); first | (go_simp; done) | (go_simp; with_reducible rfl)
              try simp only [Act.put, List.setIfInBounds_toArray, List.set_cons_zero, List.set_cons_succ]
              refine AnyL.take (i := 8) (v := ?vx14) (by rfl) (by kernel_rfl) (by kernel_rfl) (by kernel_rfl) rfl (by exact fun _ _ _ h => h) (by rfl) ?hyx14 (by exact ⟨HBM.out _ _ HSacczc.out (by simp) (by simp), fun _ => trivial⟩) ?restx14
              case hyx14 => intro W hSW; (try dsimp only at hSW); first | (go_simp; done) | (go_simp; with_reducible rfl)
              try simp only [Act.put, List.setIfInBounds_toArray, List.set_cons_zero, List.set_cons_succ]
              have h8 := Sep.blk (A := [_]) (B := [_]) (HSacczc.out)
              obtain ⟨k0, k1, k2, k3, k4, k5, k6⟩ := bq7 h8.hd
              obtain ⟨j0, j1, j2, j3, j4, j5, j6⟩ := bf7 h8.hd
              have HZ9 := Lib.hid (((((((h8.setB 0 (.int .i64 R.S)).setB 1 (.int .i64 R.I)).setB 2 (.int .i64 R.O)).setB 3 (.slice a0 R.A.length ta0)).setB 4 (.slice b0 R.B.length tb0)).setB 5 (.slice c0 R.C.length tc0)).setB 6 (.slice d0 R.D.length td0))
              clear h8
              refine AnyL.step (i := 10) (by kernel_rfl) (by rfl) (fun K hK => ?_)
              go_simp
              refine hK.out _ (((((((wacczc.setCell ⟨nb, 0, none⟩ (.int .i64 R.S)).setCell ⟨nb, 1, none⟩ (.int .i64 R.I)).setCell ⟨nb, 2, none⟩ (.int .i64 R.O)).setCell ⟨nb, 3, none⟩ (.slice a0 R.A.length ta0)).setCell ⟨nb, 4, none⟩ (.slice b0 R.B.length tb0)).setCell ⟨nb, 5, none⟩ (.slice c0 R.C.length tc0)).setCell ⟨nb, 6, none⟩ (.slice d0 R.D.length td0)) (by exact HBM.out _ _ HZ9.out (by simp) (by simp)) (by exact fun _ => trivial) ?_
              clear hK K
              try simp only [Act.put, List.setIfInBounds_toArray, List.set_cons_zero, List.set_cons_succ]
              refine AnyL.take (i := 11) (v := ?vx15) (by rfl) (by kernel_rfl) (by kernel_rfl) (by kernel_rfl) rfl (by exact fun _ _ _ h => h) (by rfl) ?hyx15 (by exact ⟨HBM.out _ _ HZ9.out (by simp) (by simp), fun _ => trivial⟩) ?restx15
              case hyx15 => intro W hSW; (try dsimp only at hSW); first | (go_simp; done) | (go_simp; with_reducible rfl)
              try simp only [Act.put, List.setIfInBounds_toArray, List.set_cons_zero, List.set_cons_succ]
              refine AnyL.done (by kernel_rfl) ?_ _
              clear k0 k1 k2 k3 k4 k5 k6 j0 j1 j2 j3 j4 j5 j6
              go_wp2_with fail
              go_meet
              exact ⟨nb, a0, b0, c0, d0, ta0, tb0, tc0, td0, xa0, xb0, xc0, xd0, rfl, rfl, HX0.out, HZ9.out⟩
          · go_simp
            have HSacz := Lib.hid (HSac.out.boxAt (wac.heap.size) (by rfl) #[.int .i64 0, .int .i64 0, .int .i64 0, .slice none 0 0, .slice none 0 0, .slice none 0 0, .slice none 0 0] 32)
            refine hK.out _ (wac.alloc (.cells #[.int .i64 0, .int .i64 0, .int .i64 0, .slice none 0 0, .slice none 0 0, .slice none 0 0, .slice none 0 0] 32)) (by exact HBM.out _ _ HSacz.out (by simp) (by simp)) (by exact fun _ => trivial) ?_
            clear hK K
            try simp only [Act.put, List.setIfInBounds_toArray, List.set_cons_zero, List.set_cons_succ]
            generalize wac.alloc (.cells #[.int .i64 0, .int .i64 0, .int .i64 0, .slice none 0 0, .slice none 0 0, .slice none 0 0, .slice none 0 0] 32) = wacz at *
            generalize wac.heap.size = nb at *
            have HKacz := Lib.hid (show w.grownBy _ none from HSacz.out.tl.tl.tl.tl.hd)
            refine AnyL.step (i := 4) (by kernel_rfl) (by rfl) (fun K hK => ?_)
            go_simp
            go_at_call 17
            with_reducible refine (HTP2.out _ HKacz.out).mono ?_
            rintro e waczc ⟨mB, nB, yB, rfl, hxs, hsg⟩
            have HXB := Lib.hid hxs
            have hs := HSacz.out.graft1 hsg OS_own
            have HSaczc := Lib.hid hs
            have HKaczc := Lib.hid (show w.grownBy _ none from hs.tl.tl.tl.tl.tl.hd)
            clear hsg hs hxs
            refine hK.out _ _ (by exact HBM.out _ _ HSaczc.out (by simp) (by simp)) (by exact fun _ => trivial) ?_
            clear hK K
            try simp only [Act.put, List.setIfInBounds_toArray, List.set_cons_zero, List.set_cons_succ]
            refine AnyL.step (i := 5) (by kernel_rfl) (by rfl) (fun K hK => ?_)
            go_simp
            have HCC := Lib.hid (HSP.out _ _ _ _ _ _ HKaczc.out (OX4.rd HSaczc.out.tl.tl.hd HXA.out) (OS.rd HSaczc.out.hd HXB.out))
            go_at_call 16
            with_reducible refine HCC.out.mono ?_
            rintro e waczcc ⟨a0, b0, c0, d0, ta0, tb0, tc0, td0, xa0, xb0, xc0, xd0, rfl, ha, hb, hc, hd, hsg⟩
            have HX0 := Lib.hid (And.intro ha (And.intro hb (And.intro hc hd)))
            have hs := Sep.cutA (X := [_]) (A := [_]) (Sep.cutA (X := [_, _, _]) (A := [_]) (HSaczc.out.graft1 hsg OX4_own))
            have HSaczcc := Lib.hid hs
            have HKaczcc := Lib.hid (show w.grownBy _ none from hs.tl.tl.tl.tl.hd)
            clear hsg hs ha hb hc hd
            refine hK.out _ _ (by exact HBM.out _ _ HSaczcc.out (by simp) (by simp)) (by exact fun _ => trivial) ?_
            clear hK K
            try simp only [Act.put, List.setIfInBounds_toArray, List.set_cons_zero, List.set_cons_succ]
            refine AnyL.take (i := 6) (v := ?vx16) (by rfl) (by kernel_rfl) (by kernel_rfl) (by kernel_rfl) rfl (by exact fun _ _ _ h => h) (by rfl) ?hyx16 (by exact ⟨HBM.out _ _ HSaczcc.out (by simp) (by simp), fun _ => trivial⟩) ?restx16
            case hyx16 => intro W hSW; (try dsimp only at hSW); first | (go_simp; done) | (go_simp; with_reducible rfl)
            try simp only [Act.put, List.setIfInBounds_toArray, List.set_cons_zero, List.set_cons_succ]
            refine AnyL.take (i := 7) (v := ?vx17) (by rfl) (by kernel_rfl) (by kernel_rfl) (by kernel_rfl) rfl (by exact fun _ _ _ h => h) (by rfl) ?hyx17 (by exact ⟨HBM.out _ _ HSaczcc.out (by simp) (by simp), fun _ => trivial⟩) ?restx17
            case hyx17 => intro W hSW; (try dsimp only at hSW); first | (go_simp; done) | (go_simp; with_reducible rfl)
            try simp only [Act.put, List.setIfInBounds_toArray, List.set_cons_zero, List.set_cons_succ]
            refine AnyL.take (i := 8) (v := ?vx18) (by rfl) (by kernel_rfl) (by kernel_rfl) (by kernel_rfl) rfl (by exact fun _ _ _ h => h) (by rfl) ?hyx18 (by exact ⟨HBM.out _ _ HSaczcc.out (by simp) (by simp), fun _ => trivial⟩) ?restx18
            case hyx18 => intro W hSW; (try dsimp only at hSW); first | (go_simp; done) | (go_simp; with_reducible rfl)
            try simp only [Act.put, List.setIfInBounds_toArray, List.set_cons_zero, List.set_cons_succ]
            have h8 := Sep.blk (A := [_]) (B := [_]) (HSaczcc.out)
            obtain ⟨k0, k1, k2, k3, k4, k5, k6⟩ := bq7 h8.hd
            obtain ⟨j0, j1, j2, j3, j4, j5, j6⟩ := bf7 h8.hd
            have HZ9 := Lib.hid (((((((h8.setB 0 (.int .i64 R.S)).setB 1 (.int .i64 R.I)).setB 2 (.int .i64 R.O)).setB 3 (.slice a0 R.A.length ta0)).setB 4 (.slice b0 R.B.length tb0)).setB 5 (.slice c0 R.C.length tc0)).setB 6 (.slice d0 R.D.length td0))
            clear h8
            refine AnyL.step (i := 10) (by kernel_rfl) (by rfl) (fun K hK => ?_)
            go_simp
            refine hK.out _ (((((((waczcc.setCell ⟨nb, 0, none⟩ (.int .i64 R.S)).setCell ⟨nb, 1, none⟩ (.int .i64 R.I)).setCell ⟨nb, 2, none⟩ (.int .i64 R.O)).setCell ⟨nb, 3, none⟩ (.slice a0 R.A.length ta0)).setCell ⟨nb, 4, none⟩ (.slice b0 R.B.length tb0)).setCell ⟨nb, 5, none⟩ (.slice c0 R.C.length tc0)).setCell ⟨nb, 6, none⟩ (.slice d0 R.D.length td0)) (by exact HBM.out _ _ HZ9.out (by simp) (by simp)) (by exact fun _ => trivial) ?_
            clear hK K
            try simp only [Act.put, List.setIfInBounds_toArray, List.set_cons_zero, List.set_cons_succ]
            refine AnyL.take (i := 11) (v := ?vx19) (by rfl) (by kernel_rfl) (by kernel_rfl) (by kernel_rfl) rfl (by exact fun _ _ _ h => h) (by rfl) ?hyx19 (by exact ⟨HBM.out _ _ HZ9.out (by simp) (by simp), fun _ => trivial⟩) ?restx19
            case hyx19 => intro W hSW; (try dsimp only at hSW); first | (go_simp; done) | (go_simp; with_reducible rfl)
            try simp only [Act.put, List.setIfInBounds_toArray, List.set_cons_zero, List.set_cons_succ]
            refine AnyL.done (by kernel_rfl) ?_ _
            clear k0 k1 k2 k3 k4 k5 k6 j0 j1 j2 j3 j4 j5 j6
            go_wp2_with fail
            go_meet
            exact ⟨nb, a0, b0, c0, d0, ta0, tb0, tc0, td0, xa0, xb0, xc0, xd0, rfl, rfl, HX0.out, HZ9.out⟩
        · go_simp
          have HSaz := Lib.hid (HSA.out.boxAt (w3.heap.size) (by rfl) #[.int .i64 0, .int .i64 0, .int .i64 0, .slice none 0 0, .slice none 0 0, .slice none 0 0, .slice none 0 0] 32)
          refine hK.out _ (w3.drew.alloc (.cells #[.int .i64 0, .int .i64 0, .int .i64 0, .slice none 0 0, .slice none 0 0, .slice none 0 0, .slice none 0 0] 32)) (by exact HBM.out _ _ HSaz.out (by simp) (by simp)) (by exact fun _ => trivial) ?_
          clear hK K
          try simp only [Act.put, List.setIfInBounds_toArray, List.set_cons_zero, List.set_cons_succ]
          generalize w3.drew.alloc (.cells #[.int .i64 0, .int .i64 0, .int .i64 0, .slice none 0 0, .slice none 0 0, .slice none 0 0, .slice none 0 0] 32) = waz at *
          generalize w3.heap.size = nb at *
          have HKaz := Lib.hid (show w.grownBy _ none from HSaz.out.tl.tl.tl.hd)
          refine AnyL.step (i := 2) (by kernel_rfl) (by rfl) (fun K hK => ?_)
          go_simp
          go_at_call 8
          with_reducible refine (HTG2.out _ HKaz.out).mono ?_
          rintro e wazc ⟨aA, bA, cA, dA, taA, tbA, tcA, tdA, xaA, xbA, xcA, xdA, rfl, ha, hb, hc, hd, hsg⟩
          have hxs := And.intro ha (And.intro hb (And.intro hc hd))
          have HXA := Lib.hid hxs
          have hs := HSaz.out.graft1 hsg OX4_own
          clear ha hb hc hd
          have HSazc := Lib.hid hs
          have HKazc := Lib.hid (show w.grownBy _ none from hs.tl.tl.tl.tl.hd)
          clear hsg hs hxs
          refine hK.out _ _ (by exact HBM.out _ _ HSazc.out (by simp) (by simp)) (by exact fun _ => trivial) ?_
          clear hK K
          try simp only [Act.put, List.setIfInBounds_toArray, List.set_cons_zero, List.set_cons_succ]
          refine AnyL.step (i := 4) (by kernel_rfl) (by rfl) (fun K hK => ?_)
          go_simp
          go_at_call 17
          with_reducible refine (HTP2.out _ HKazc.out).mono ?_
          rintro e wazcc ⟨mB, nB, yB, rfl, hxs, hsg⟩
          have HXB := Lib.hid hxs
          have hs := HSazc.out.graft1 hsg OS_own
          have HSazcc := Lib.hid hs
          have HKazcc := Lib.hid (show w.grownBy _ none from hs.tl.tl.tl.tl.tl.hd)
          clear hsg hs hxs
          refine hK.out _ _ (by exact HBM.out _ _ HSazcc.out (by simp) (by simp)) (by exact fun _ => trivial) ?_
          clear hK K
          try simp only [Act.put, List.setIfInBounds_toArray, List.set_cons_zero, List.set_cons_succ]
          refine AnyL.step (i := 5) (by kernel_rfl) (by rfl) (fun K hK => ?_)
          go_simp
          have HCC := Lib.hid (HSP.out _ _ _ _ _ _ HKazcc.out (OX4.rd HSazcc.out.tl.hd HXA.out) (OS.rd HSazcc.out.hd HXB.out))
          go_at_call 16
          with_reducible refine HCC.out.mono ?_
          rintro e wazccc ⟨a0, b0, c0, d0, ta0, tb0, tc0, td0, xa0, xb0, xc0, xd0, rfl, ha, hb, hc, hd, hsg⟩
          have HX0 := Lib.hid (And.intro ha (And.intro hb (And.intro hc hd)))
          have hs := Sep.cutA (X := [_]) (A := [_]) (Sep.cutA (X := [_, _]) (A := [_]) (HSazcc.out.graft1 hsg OX4_own))
          have HSazccc := Lib.hid hs
          have HKazccc := Lib.hid (show w.grownBy _ none from hs.tl.tl.tl.tl.hd)
          clear hsg hs ha hb hc hd
          refine hK.out _ _ (by exact HBM.out _ _ HSazccc.out (by simp) (by simp)) (by exact fun _ => trivial) ?_
          clear hK K
          try simp only [Act.put, List.setIfInBounds_toArray, List.set_cons_zero, List.set_cons_succ]
          refine AnyL.take (i := 6) (v := ?vx20) (by rfl) (by kernel_rfl) (by kernel_rfl) (by kernel_rfl) rfl (by exact fun _ _ _ h => h) (by rfl) ?hyx20 (by exact ⟨HBM.out _ _ HSazccc.out (by simp) (by simp), fun _ => trivial⟩) ?restx20
          case hyx20 => intro W hSW; (try dsimp only at hSW); first | (go_simp; done) | (go_simp; with_reducible rfl)
          try simp only [Act.put, List.setIfInBounds_toArray, List.set_cons_zero, List.set_cons_succ]
          refine AnyL.take (i := 7) (v := ?vx21) (by rfl) (by kernel_rfl) (by kernel_rfl) (by kernel_rfl) rfl (by exact fun _ _ _ h => h) (by rfl) ?hyx21 (by exact ⟨HBM.out _ _ HSazccc.out (by simp) (by simp), fun _ => trivial⟩) ?restx21
          case hyx21 => intro W hSW; (try dsimp only at hSW); first | (go_simp; done) | (go_simp; with_reducible rfl)
          try simp only [Act.put, List.setIfInBounds_toArray, List.set_cons_zero, List.set_cons_succ]
          refine AnyL.take (i := 8) (v := ?vx22) (by rfl) (by kernel_rfl) (by kernel_rfl) (by kernel_rfl) rfl (by exact fun _ _ _ h => h) (by rfl) ?hyx22 (by exact ⟨HBM.out _ _ HSazccc.out (by simp) (by simp), fun _ => trivial⟩) ?restx22
          case hyx22 => intro W hSW; (try dsimp only at hSW); first | (go_simp; done) | (go_simp; with_reducible rfl)
          try simp only [Act.put, List.setIfInBounds_toArray, List.set_cons_zero, List.set_cons_succ]
          have h8 := Sep.blk (A := [_]) (B := [_]) (HSazccc.out)
          obtain ⟨k0, k1, k2, k3, k4, k5, k6⟩ := bq7 h8.hd
          obtain ⟨j0, j1, j2, j3, j4, j5, j6⟩ := bf7 h8.hd
          have HZ9 := Lib.hid (((((((h8.setB 0 (.int .i64 R.S)).setB 1 (.int .i64 R.I)).setB 2 (.int .i64 R.O)).setB 3 (.slice a0 R.A.length ta0)).setB 4 (.slice b0 R.B.length tb0)).setB 5 (.slice c0 R.C.length tc0)).setB 6 (.slice d0 R.D.length td0))
          clear h8
          refine AnyL.step (i := 10) (by kernel_rfl) (by rfl) (fun K hK => ?_)
          go_simp
          refine hK.out _ (((((((wazccc.setCell ⟨nb, 0, none⟩ (.int .i64 R.S)).setCell ⟨nb, 1, none⟩ (.int .i64 R.I)).setCell ⟨nb, 2, none⟩ (.int .i64 R.O)).setCell ⟨nb, 3, none⟩ (.slice a0 R.A.length ta0)).setCell ⟨nb, 4, none⟩ (.slice b0 R.B.length tb0)).setCell ⟨nb, 5, none⟩ (.slice c0 R.C.length tc0)).setCell ⟨nb, 6, none⟩ (.slice d0 R.D.length td0)) (by exact HBM.out _ _ HZ9.out (by simp) (by simp)) (by exact fun _ => trivial) ?_
          clear hK K
          try simp only [Act.put, List.setIfInBounds_toArray, List.set_cons_zero, List.set_cons_succ]
          refine AnyL.take (i := 11) (v := ?vx23) (by rfl) (by kernel_rfl) (by kernel_rfl) (by kernel_rfl) rfl (by exact fun _ _ _ h => h) (by rfl) ?hyx23 (by exact ⟨HBM.out _ _ HZ9.out (by simp) (by simp), fun _ => trivial⟩) ?restx23
          case hyx23 => intro W hSW; (try dsimp only at hSW); first | (go_simp; done) | (go_simp; with_reducible rfl)
          try simp only [Act.put, List.setIfInBounds_toArray, List.set_cons_zero, List.set_cons_succ]
          refine AnyL.done (by kernel_rfl) ?_ _
          clear k0 k1 k2 k3 k4 k5 k6 j0 j1 j2 j3 j4 j5 j6
          go_wp2_with fail
          go_meet
          exact ⟨nb, a0, b0, c0, d0, ta0, tb0, tc0, td0, xa0, xb0, xc0, xd0, rfl, rfl, HX0.out, HZ9.out⟩
      case rest =>
        obtain ⟨nb0, a0, b0, c0, d0, ta0, tb0, tc0, td0, xa0, xb0, xc0, xd0, rfl, rfl, hx0, hs6⟩ := hcut
        have HX0 := Lib.hid hx0
        have HS6 := Lib.hid hs6
        have HK6 := Lib.hid (show w.grownBy _ none from hs6.tl.tl.tl.tl.hd)
        clear HS2 HS3 HS0 HK0 HK2 HK3 HSA HKA HZ1 HZ2 HSP hs6 hx0
        obtain ⟨y0_, y1_, _⟩ := bb2 HS6.out.tl.tl.hd
        obtain ⟨x0_, x1_, x2_, x3_, x4_, x5_, x6_⟩ := bq7 HS6.out.tl.tl.tl.hd
        go_upto_region 14 with (first
          | (go_at_call 8
             with_reducible refine (HTG2.out _ HK6.out).mono ?_
             rintro e w7 ⟨aC, bC, cC, dC, taC, tbC, tcC, tdC, xaC, xbC, xcC, xdC, rfl, ha, hb, hc, hd, hsg⟩
             have hxs := And.intro ha (And.intro hb (And.intro hc hd))
             have HXC := Lib.hid hxs
             have hs := HS6.out.graft1 hsg OX4_own
             clear ha hb hc hd
             have hs := hs.box #[.int .i64 s.S, .int .i64 s.I, .int .i64 s.O, .slice aC s.A.length taC, .slice bC s.B.length tbC, .slice cC s.C.length tcC, .slice dC s.D.length tdC] 32
             clear x0_ x1_ x2_ x3_ x4_ x5_ x6_
             clear y0_ y1_
             obtain ⟨y0_, y1_, _⟩ := bb2 hs.tl.tl.tl.tl.hd
             obtain ⟨z0_, z1_, z2_, z3_, z4_, z5_, z6_⟩ := bq7 hs.hd
             have HS7 := Lib.hid hs
             have HK7 := Lib.hid (show w.grownBy _ none from hs.tl.tl.tl.tl.tl.tl.hd)
             clear hsg hs hxs)
          | (go_at_call 17
             with_reducible refine (HTP2.out _ HK7.out).mono ?_
             rintro e w8 ⟨mD, nD, yD, rfl, hxs, hsg⟩
             have HXD := Lib.hid hxs
             have hs := HS7.out.graft1 hsg OS_own
             have hs := hs.box #[.int .i64 cols, .slice mD M.length nD] 44
             clear y0_ y1_
             clear z0_ z1_ z2_ z3_ z4_ z5_ z6_
             obtain ⟨x0_, x1_, x2_, x3_, x4_, x5_, x6_⟩ := bq7 hs.tl.tl.hd
             obtain ⟨y0_, y1_, _⟩ := bb2 hs.hd
             have HIM8 := Lib.hid (HIM.out _ _ _ _ _ _ (show w.grownBy _ none from hs.tl.tl.tl.tl.tl.tl.tl.tl.hd) (OX4.rd hs.tl.tl.tl.hd HXC.out) (OS.rd hs.tl.hd hxs))
             have HS8 := Lib.hid hs
             clear hsg hs hxs)
          | (go_at_call 18
             with_reducible refine HIM8.out.mono ?_
             rintro e w9 ⟨a1, b1, c1, d1, ta1, tb1, tc1, td1, xa1, xb1, xc1, xd1, rfl, ha, hb, hc, hd, hsg⟩
             have hx1 := And.intro ha (And.intro hb (And.intro hc hd))
             have HX1 := Lib.hid hx1
             have hs := (HS8.out.graft1 hsg OX4_own).box #[.int .i64 R.S, .int .i64 R.I, .int .i64 R.O, .slice a1 R.A.length ta1, .slice b1 R.B.length tb1, .slice c1 R.C.length tc1, .slice d1 R.D.length td1] 32
             clear x0_ x1_ x2_ x3_ x4_ x5_ x6_
             clear y0_ y1_
             obtain ⟨t0_, t1_, t2_, t3_, t4_, t5_, t6_⟩ := bq7 hs.hd
             obtain ⟨v0_, v1_, v2_, v3_, v4_, v5_, v6_⟩ := bq7 hs.tl.tl.tl.tl.tl.tl.hd
             have HEQ9 := Lib.hid (HEQ.out _ _ _ _ _ _ _ _ _ (OX4.rd hs.tl.hd hx1) (OX4.rd hs.tl.tl.tl.tl.tl.tl.tl.hd HX0.out))
             have HS9 := Lib.hid hs
             clear hsg hs ha hb hc hd hx1)
          | (go_at_call 11
             with_reducible refine HEQ9.out.mono ?_
             rintro e w10 ⟨rfl, hg⟩
             have HS10 := Lib.hid (HS9.out.grown hg)
             clear hg
             clear t0_ t1_ t2_ t3_ t4_ t5_ t6_ v0_ v1_ v2_ v3_ v4_ v5_ v6_))
        clear HS7 HS8 HS9 HEQ9 HIM8
        have HSEa := Lib.hid HS10.out.dr
        have HKEa := Lib.hid (show w.grownBy _ none from HSEa.out.tl.tl.tl.tl.tl.tl.tl.tl.tl.tl.hd)
        have HBEa := Lib.hid fun (W1 : World) (L : List Asrt) (h : Sep W1 L) (hG : BxA w7.heap.size #[.int .i64 s.S, .int .i64 s.I, .int .i64 s.O, .slice aC s.A.length taC, .slice bC s.B.length tbC, .slice cC s.C.length tcC, .slice dC s.D.length tdC] 32 ∈ L) (hP : BxA (w.heap.size) #[.int .i64 s.S, .int .i64 s.I, .int .i64 s.O, .slice ag s.A.length tag, .slice bg s.B.length tbg, .slice cg s.C.length tcg, .slice dg s.D.length tdg] 24 ∈ L) => show (W1.cell? ⟨w7.heap.size, 0, none⟩ = some (.int .i64 s.S) ∧ W1.cell? ⟨w7.heap.size, 1, none⟩ = some (.int .i64 s.I) ∧ W1.cell? ⟨w7.heap.size, 2, none⟩ = some (.int .i64 s.O) ∧ W1.cell? ⟨w7.heap.size, 3, none⟩ = some (.slice aC s.A.length taC) ∧ W1.cell? ⟨w7.heap.size, 4, none⟩ = some (.slice bC s.B.length tbC) ∧ W1.cell? ⟨w7.heap.size, 5, none⟩ = some (.slice cC s.C.length tcC) ∧ W1.cell? ⟨w7.heap.size, 6, none⟩ = some (.slice dC s.D.length tdC)) ∧ (W1.cell? ⟨w.heap.size, 0, none⟩ = some (.int .i64 s.S) ∧ W1.cell? ⟨w.heap.size, 1, none⟩ = some (.int .i64 s.I) ∧ W1.cell? ⟨w.heap.size, 2, none⟩ = some (.int .i64 s.O) ∧ W1.cell? ⟨w.heap.size, 3, none⟩ = some (.slice ag s.A.length tag) ∧ W1.cell? ⟨w.heap.size, 4, none⟩ = some (.slice bg s.B.length tbg) ∧ W1.cell? ⟨w.heap.size, 5, none⟩ = some (.slice cg s.C.length tcg) ∧ W1.cell? ⟨w.heap.size, 6, none⟩ = some (.slice dg s.D.length tdg)) from
          have q := bq7 (show W1.heap[w7.heap.size]? = some (.cells #[.int .i64 s.S, .int .i64 s.I, .int .i64 s.O, .slice aC s.A.length taC, .slice bC s.B.length tbC, .slice cC s.C.length tcC, .slice dC s.D.length tdC] 32 (0, 0)) from Sep.all h _ hG)
          have q2 := bq7 (show W1.heap[w.heap.size]? = some (.cells #[.int .i64 s.S, .int .i64 s.I, .int .i64 s.O, .slice ag s.A.length tag, .slice bg s.B.length tbg, .slice cg s.C.length tcg, .slice dg s.D.length tdg] 24 (0, 0)) from Sep.all h _ hP)
          ⟨q, q2⟩
        have XEa := Lib.hid (HBEa.out _ _ HSEa.out (by simp) (by simp))
        refine AnyL.start (fun W1 => (W1.cell? ⟨w7.heap.size, 0, none⟩ = some (.int .i64 s.S) ∧ W1.cell? ⟨w7.heap.size, 1, none⟩ = some (.int .i64 s.I) ∧ W1.cell? ⟨w7.heap.size, 2, none⟩ = some (.int .i64 s.O) ∧ W1.cell? ⟨w7.heap.size, 3, none⟩ = some (.slice aC s.A.length taC) ∧ W1.cell? ⟨w7.heap.size, 4, none⟩ = some (.slice bC s.B.length tbC) ∧ W1.cell? ⟨w7.heap.size, 5, none⟩ = some (.slice cC s.C.length tcC) ∧ W1.cell? ⟨w7.heap.size, 6, none⟩ = some (.slice dC s.D.length tdC)) ∧ (W1.cell? ⟨w.heap.size, 0, none⟩ = some (.int .i64 s.S) ∧ W1.cell? ⟨w.heap.size, 1, none⟩ = some (.int .i64 s.I) ∧ W1.cell? ⟨w.heap.size, 2, none⟩ = some (.int .i64 s.O) ∧ W1.cell? ⟨w.heap.size, 3, none⟩ = some (.slice ag s.A.length tag) ∧ W1.cell? ⟨w.heap.size, 4, none⟩ = some (.slice bg s.B.length tbg) ∧ W1.cell? ⟨w.heap.size, 5, none⟩ = some (.slice cg s.C.length tcg) ∧ W1.cell? ⟨w.heap.size, 6, none⟩ = some (.slice dg s.D.length tdg))) (fun _ => True) 99 (by kernel_rfl) ?_
        refine AnyL.take (i := 0) (v := ?vx24) (by rfl) (by kernel_rfl) (by kernel_rfl) (by kernel_rfl) rfl (by exact fun _ _ _ h => h) (by rfl) ?hyx24 (by exact ⟨XEa.out, fun _ => trivial⟩) ?restx24
        case hyx24 => intro W hSW; (try dsimp only at hSW); first | (go_simp; done) | (go_simp; with_reducible rfl)
        try simp only [Act.put, List.setIfInBounds_toArray, List.set_cons_zero, List.set_cons_succ]
        refine AnyL.take (i := 1) (v := ?vx25) (by rfl) (by kernel_rfl) (by kernel_rfl) (by kernel_rfl) rfl (by exact fun _ _ _ h => h) (by rfl) ?hyx25 (by exact ⟨XEa.out, fun _ => trivial⟩) ?restx25
        case hyx25 => intro W hSW; (try dsimp only at hSW); first | (go_simp; done) | (go_simp; with_reducible rfl)
        try simp only [Act.put, List.setIfInBounds_toArray, List.set_cons_zero, List.set_cons_succ]
        refine AnyL.step (i := 2) (by kernel_rfl) (by rfl) (fun K hK => ?_)
        go_simp
        go_at_call 8
        with_reducible refine (HTG2.out _ HKEa.out).mono ?_
        rintro e w11 ⟨aE, bE, cE, dE, taE, tbE, tcE, tdE, xaE, xbE, xcE, xdE, rfl, ha, hb, hc, hd, hsg⟩
        have hxs := And.intro ha (And.intro hb (And.intro hc hd))
        have HXE := Lib.hid hxs
        have hs := HSEa.out.graft1 hsg OX4_own
        clear ha hb hc hd
        have HQEa := Lib.hid (HEG.out _ _ _ _ _ _ _ _ _ (OX4.rd hs.tl.tl.tl.tl.tl.tl.hd HXC.out) (OX4.rd hs.hd hxs))
        have HSFa := Lib.hid hs
        clear hsg hs hxs
        refine hK.out _ _ (by exact HBEa.out _ _ HSFa.out (by simp) (by simp)) (by exact fun _ => trivial) ?_
        clear hK K
        try simp only [Act.put, List.setIfInBounds_toArray, List.set_cons_zero, List.set_cons_succ]
        refine AnyL.step (i := 3) (by kernel_rfl) (by rfl) (fun K hK => ?_)
        go_simp
        go_at_call 11
        with_reducible refine HQEa.out.mono ?_
        rintro e w12 ⟨rfl, hg⟩
        have hs := (HSFa.out.grown hg).tl
        have HS12 := Lib.hid hs
        clear hg hs
        refine hK.out _ _ (by exact HBEa.out _ _ HS12.out (by simp) (by simp)) (by exact fun _ => trivial) ?_
        clear hK K
        try simp only [Act.put, List.setIfInBounds_toArray, List.set_cons_zero, List.set_cons_succ]
        refine AnyL.take (i := 4) (v := ?vx26) (by rfl) (by kernel_rfl) (by kernel_rfl) (by kernel_rfl) rfl (by exact fun _ _ _ h => h) (by rfl) ?hyx26 (by exact ⟨HBEa.out _ _ HS12.out (by simp) (by simp), fun _ => trivial⟩) ?restx26
        case hyx26 => intro W hSW; (try dsimp only at hSW); first | (go_simp; done) | (go_simp; with_reducible rfl)
        try simp only [Act.put, List.setIfInBounds_toArray, List.set_cons_zero, List.set_cons_succ]
        refine AnyL.done (by kernel_rfl) ?_ _
        clear HSEa HSFa XEa HBEa HQEa
        go_upto_region 16 with fail
        have HSEb := Lib.hid HS12.out.dr
        have HKEb := Lib.hid (show w.grownBy _ none from HSEb.out.tl.tl.tl.tl.tl.tl.tl.tl.tl.tl.hd)
        have HBEb := Lib.hid fun (W1 : World) (L : List Asrt) (h : Sep W1 L) (hG : BxA w8.heap.size #[.int .i64 cols, .slice mD M.length nD] 44 ∈ L) (hP : BxA (w.heap.size + 1) #[.int .i64 cols, .slice mg M.length ng] 40 ∈ L) => show (W1.cell? ⟨w8.heap.size, 0, none⟩ = some (.int .i64 cols) ∧ W1.cell? ⟨w8.heap.size, 1, none⟩ = some (.slice mD M.length nD)) ∧ (W1.cell? ⟨w.heap.size + 1, 0, none⟩ = some (.int .i64 cols) ∧ W1.cell? ⟨w.heap.size + 1, 1, none⟩ = some (.slice mg M.length ng)) from
          have q := bb2 (show W1.heap[w8.heap.size]? = some (.cells #[.int .i64 cols, .slice mD M.length nD] 44 (0, 0)) from Sep.all h _ hG)
          have q2 := bb2 (show W1.heap[w.heap.size + 1]? = some (.cells #[.int .i64 cols, .slice mg M.length ng] 40 (0, 0)) from Sep.all h _ hP)
          ⟨⟨q.1, q.2.1⟩, q2.1, q2.2.1⟩
        have XEb := Lib.hid (HBEb.out _ _ HSEb.out (by simp) (by simp))
        refine AnyL.start (fun W1 => (W1.cell? ⟨w8.heap.size, 0, none⟩ = some (.int .i64 cols) ∧ W1.cell? ⟨w8.heap.size, 1, none⟩ = some (.slice mD M.length nD)) ∧ (W1.cell? ⟨w.heap.size + 1, 0, none⟩ = some (.int .i64 cols) ∧ W1.cell? ⟨w.heap.size + 1, 1, none⟩ = some (.slice mg M.length ng))) (fun _ => True) 99 (by kernel_rfl) ?_
        refine AnyL.take (i := 0) (v := ?vx27) (by rfl) (by kernel_rfl) (by kernel_rfl) (by kernel_rfl) rfl (by exact fun _ _ _ h => h) (by rfl) ?hyx27 (by exact ⟨XEb.out, fun _ => trivial⟩) ?restx27
        case hyx27 => intro W hSW; (try dsimp only at hSW); first | (go_simp; done) | (go_simp; with_reducible rfl)
        try simp only [Act.put, List.setIfInBounds_toArray, List.set_cons_zero, List.set_cons_succ]
        refine AnyL.take (i := 1) (v := ?vx28) (by rfl) (by kernel_rfl) (by kernel_rfl) (by kernel_rfl) rfl (by exact fun _ _ _ h => h) (by rfl) ?hyx28 (by exact ⟨XEb.out, fun _ => trivial⟩) ?restx28
        case hyx28 => intro W hSW; (try dsimp only at hSW); first | (go_simp; done) | (go_simp; with_reducible rfl)
        try simp only [Act.put, List.setIfInBounds_toArray, List.set_cons_zero, List.set_cons_succ]
        refine AnyL.step (i := 2) (by kernel_rfl) (by rfl) (fun K hK => ?_)
        go_simp
        go_at_call 17
        with_reducible refine (HTP2.out _ HKEb.out).mono ?_
        rintro e w13 ⟨mF, nF, yF, rfl, hxs, hsg⟩
        have HXF := Lib.hid hxs
        have hs := HSEb.out.graft1 hsg OS_own
        have HQEb := Lib.hid (HEP.out _ _ _ (OS.rd hs.tl.tl.tl.tl.hd HXD.out) (OS.rd hs.hd hxs))
        have HSFb := Lib.hid hs
        clear hsg hs hxs
        refine hK.out _ _ (by exact HBEb.out _ _ HSFb.out (by simp) (by simp)) (by exact fun _ => trivial) ?_
        clear hK K
        try simp only [Act.put, List.setIfInBounds_toArray, List.set_cons_zero, List.set_cons_succ]
        refine AnyL.step (i := 3) (by kernel_rfl) (by rfl) (fun K hK => ?_)
        go_simp
        go_at_call 19
        with_reducible refine HQEb.out.mono ?_
        rintro e w14 ⟨rfl, hg⟩
        have hs := (HSFb.out.grown hg).tl
        have HS14 := Lib.hid hs
        clear hg hs
        refine hK.out _ _ (by exact HBEb.out _ _ HS14.out (by simp) (by simp)) (by exact fun _ => trivial) ?_
        clear hK K
        try simp only [Act.put, List.setIfInBounds_toArray, List.set_cons_zero, List.set_cons_succ]
        refine AnyL.take (i := 4) (v := ?vx29) (by rfl) (by kernel_rfl) (by kernel_rfl) (by kernel_rfl) rfl (by exact fun _ _ _ h => h) (by rfl) ?hyx29 (by exact ⟨HBEb.out _ _ HS14.out (by simp) (by simp), fun _ => trivial⟩) ?restx29
        case hyx29 => intro W hSW; (try dsimp only at hSW); first | (go_simp; done) | (go_simp; with_reducible rfl)
        try simp only [Act.put, List.setIfInBounds_toArray, List.set_cons_zero, List.set_cons_succ]
        refine AnyL.done (by kernel_rfl) ?_ _
        clear HSEb HSFb XEb HBEb HQEb
        obtain ⟨x0_, x1_, x2_, x3_, x4_, x5_, x6_⟩ := bq7 HS14.out.tl.tl.tl.tl.hd
        obtain ⟨y0_, y1_, _⟩ := bb2 HS14.out.tl.tl.hd
        have HS14b := Lib.hid (Sep.blk (A := [_, _, _, _, _]) (B := [_]) (HS14.out))
        have HMG14 := Lib.hid (HMG.out _ _ _ _ _ _ _ _ _ _ _ _ _ _ HS14b.out HXC.out)
        go_upto_region 31 with (first
          | (go_at_call 12
             with_reducible refine HMG14.out.mono ?_
             rintro e w15 ⟨r15, rfl, h15a, h15b, hs15⟩
             clear x0_ x1_ x2_ x3_ x4_ x5_ x6_
             clear y0_ y1_
             obtain ⟨y0_, y1_, _⟩ := bb2 hs15.tl.tl.hd
             have hs := Sep.blk (A := [_, _, _]) (B := [_]) (hs15)
             have HMP15 := Lib.hid (HMP.out r15 h15a (by omega) _ _ _ _ _ hs HXD.out)
             clear hs15 hs h15a h15b)
          | (go_at_call 20
             with_reducible refine HMP15.out.mono ?_
             rintro e w16 ⟨r16, rfl, h16a, h16b, hs16⟩
             clear y0_ y1_
             have hr16 : ¬ r16 < 0 := by omega
             obtain ⟨t0_, t1_, t2_, t3_, t4_, t5_, t6_⟩ := bq7 hs16.hd
             obtain ⟨v0_, v1_, v2_, v3_, v4_, v5_, v6_⟩ := bq7 hs16.tl.tl.tl.tl.hd
             have HS16 := Lib.hid hs16
             have HEQ16 := Lib.hid (HEQ.out _ _ _ _ _ _ _ _ _ (OX4.rd hs16.tl.hd HX1.out) (OX4.rd hs16.tl.tl.tl.tl.tl.hd HX0.out))
             clear hs16 h16a h16b)
          | (go_at_call 11
             with_reducible refine HEQ16.out.mono ?_
             rintro e w17 ⟨rfl, hg⟩
             have hs := Sep.blk (A := [_]) (B := [_]) (HS16.out.grown hg)
             clear t0_ t1_ t2_ t3_ t4_ t5_ t6_ v0_ v1_ v2_ v3_ v4_ v5_ v6_
             obtain ⟨t0_, t1_, t2_, t3_, t4_, t5_, t6_⟩ := bq7 hs.tl.hd
             have HMM17 := Lib.hid (HMM.out _ _ _ _ _ _ _ _ _ _ _ _ _ _ hs HX1.out)
             clear hg hs)
          | (go_at_call 12
             with_reducible refine HMM17.out.mono ?_
             rintro e w18 ⟨rfl, ya1, yb1, yc1, yd1, ha, hb, hc, hd, hs18⟩
             have hy := And.intro ha (And.intro hb (And.intro hc hd))
             have HY1 := Lib.hid hy
             clear t0_ t1_ t2_ t3_ t4_ t5_ t6_
             obtain ⟨t0_, t1_, t2_, t3_, t4_, t5_, t6_⟩ := bq7 hs18.tl.hd
             have HS18 := Lib.hid hs18
             have HHM18 := Lib.hid (HHM.out _ _ _ _ _ (OX4.rd hs18.hd hy))
             clear hs18 ha hb hc hd hy)
          | (go_at_call 21
             with_reducible refine HHM18.out.mono ?_
             rintro e w19 ⟨rfl, hg⟩
             have HS19 := Lib.hid (HS18.out.grown hg)
             clear hg
             clear t0_ t1_ t2_ t3_ t4_ t5_ t6_))
        have HSH := Lib.hid (show Sep _ [OX4 (.slice a1 R.A.length ta1) ya1 (.slice b1 R.B.length tb1) yb1 (.slice c1 R.C.length tc1) yc1 (.slice d1 R.D.length td1) yd1, BxA w9.heap.size #[.int .i64 R.S, .int .i64 R.I, .int .i64 R.O, .slice a1 R.A.length ta1, .slice b1 R.B.length tb1, .slice c1 R.C.length tc1, .slice d1 R.D.length td1] 32, BxA nb0 #[.int .i64 R.S, .int .i64 R.I, .int .i64 R.O, .slice a0 R.A.length ta0, .slice b0 R.B.length tb0, .slice c0 R.C.length tc0, .slice d0 R.D.length td0] 32, OX4 (.slice a0 R.A.length ta0) xa0 (.slice b0 R.B.length tb0) xb0 (.slice c0 R.C.length tc0) xc0 (.slice d0 R.D.length td0) xd0, BxA (w.heap.size + 1) #[.int .i64 cols, .slice mg M.length ng] 40, BxA w.heap.size #[.int .i64 s.S, .int .i64 s.I, .int .i64 s.O, .slice ag s.A.length tag, .slice bg s.B.length tbg, .slice cg s.C.length tcg, .slice dg s.D.length tdg] 24, KeepA w] from Sep.cutA (X := [_, _]) (A := [_]) (Sep.cutA (X := [_, _]) (A := [_]) (HS19.out.dr)))
        have HKH := Lib.hid (show w.grownBy _ none from HSH.out.tl.tl.tl.tl.tl.tl.hd)
        clear HS14 HS14b HS16 HS18 HMG14 HEQ16 HMM17 HHM18 HMP15 HS6 HS10 HS12
        go_cut [17, 18] from 98 to 106 (fun v6 v7 wx => ∃ (nb : Nat) (a2 b2 c2 d2 : Option Addr) (ta2 tb2 tc2 td2 : Nat) (xa2 xb2 xc2 xd2 : List XR), v6 = .pointer (some ⟨nb, 0, none⟩) ∧ v7 = .bool b ∧ (rws xa2 = R.A ∧ rws xb2 = R.B ∧ rws xc2 = R.C ∧ rws xd2 = R.D) ∧ Sep wx [BxA nb #[.int .i64 R.S, .int .i64 R.I, .int .i64 R.O, .slice a2 R.A.length ta2, .slice b2 R.B.length tb2, .slice c2 R.C.length tc2, .slice d2 R.D.length td2] 32, OX4 (.slice a2 R.A.length ta2) xa2 (.slice b2 R.B.length tb2) xb2 (.slice c2 R.C.length tc2) xc2 (.slice d2 R.D.length td2) xd2, OX4 (.slice a1 R.A.length ta1) ya1 (.slice b1 R.B.length tb1) yb1 (.slice c1 R.C.length tc1) yc1 (.slice d1 R.D.length td1) yd1, BxA w9.heap.size #[.int .i64 R.S, .int .i64 R.I, .int .i64 R.O, .slice a1 R.A.length ta1, .slice b1 R.B.length tb1, .slice c1 R.C.length tc1, .slice d1 R.D.length td1] 32, BxA nb0 #[.int .i64 R.S, .int .i64 R.I, .int .i64 R.O, .slice a0 R.A.length ta0, .slice b0 R.B.length tb0, .slice c0 R.C.length tc0, .slice d0 R.D.length td0] 32, OX4 (.slice a0 R.A.length ta0) xa0 (.slice b0 R.B.length tb0) xb0 (.slice c0 R.C.length tc0) xc0 (.slice d0 R.D.length td0) xd0, BxA (w.heap.size + 1) #[.int .i64 cols, .slice mg M.length ng] 40, BxA w.heap.size #[.int .i64 s.S, .int .i64 s.I, .int .i64 s.O, .slice ag s.A.length tag, .slice bg s.B.length tbg, .slice cg s.C.length tcg, .slice dg s.D.length tdg] 24, KeepA w])
        case first =>
          have XH0 := Lib.hid (HBM.out _ _ HSH.out (by simp) (by simp))
          refine AnyL.start (fun W1 => (W1.cell? ⟨w.heap.size, 0, none⟩ = some (.int .i64 s.S) ∧ W1.cell? ⟨w.heap.size, 1, none⟩ = some (.int .i64 s.I) ∧ W1.cell? ⟨w.heap.size, 2, none⟩ = some (.int .i64 s.O) ∧ W1.cell? ⟨w.heap.size, 3, none⟩ = some (.slice ag s.A.length tag) ∧ W1.cell? ⟨w.heap.size, 4, none⟩ = some (.slice bg s.B.length tbg) ∧ W1.cell? ⟨w.heap.size, 5, none⟩ = some (.slice cg s.C.length tcg) ∧ W1.cell? ⟨w.heap.size, 6, none⟩ = some (.slice dg s.D.length tdg)) ∧ (W1.cell? ⟨w.heap.size + 1, 0, none⟩ = some (.int .i64 cols) ∧ W1.cell? ⟨w.heap.size + 1, 1, none⟩ = some (.slice mg M.length ng))) (fun _ => True) 99 (by kernel_rfl) ?_
          refine AnyL.take (i := 0) (v := ?vx30) (by rfl) (by kernel_rfl) (by kernel_rfl) (by kernel_rfl) rfl (by exact fun _ _ _ h => h) (by rfl) ?hyx30 (by exact ⟨XH0.out, fun _ => trivial⟩) ?restx30
          case hyx30 => intro W hSW; (try dsimp only at hSW); first | (go_simp; done) | (go_simp; with_reducible rfl)
          try simp only [Act.put, List.setIfInBounds_toArray, List.set_cons_zero, List.set_cons_succ]
          refine AnyL.take (i := 1) (v := ?vx31) (by rfl) (by kernel_rfl) (by kernel_rfl) (by kernel_rfl) rfl (by exact fun _ _ _ h => h) (by rfl) ?hyx31 (by exact ⟨XH0.out, fun _ => trivial⟩) ?restx31
          case hyx31 => intro W hSW; (try dsimp only at hSW); first | (go_simp; done) | (go_simp; with_reducible rfl)
          try simp only [Act.put, List.setIfInBounds_toArray, List.set_cons_zero, List.set_cons_succ]
          refine AnyL.take (i := 3) (v := ?vx32) (by rfl) (by kernel_rfl) (by kernel_rfl) (by kernel_rfl) rfl (by exact fun _ _ _ h => h) (by rfl) ?hyx32 (by exact ⟨XH0.out, fun _ => trivial⟩) ?restx32
          case hyx32 => intro W hSW; (try dsimp only at hSW); first | (go_simp; done) | (go_simp; with_reducible rfl)
          try simp only [Act.put, List.setIfInBounds_toArray, List.set_cons_zero, List.set_cons_succ]
          refine AnyL.twoT (i := 2) (j := 9) (by kernel_rfl) (by rfl) (by rfl) (fun K hK => ?_) (fun K hK => ?_)
          · go_simp
            go_at_call 8
            with_reducible refine (HTG2.out _ HKH.out).mono ?_
            rintro e wdc ⟨aG, bG, cG, dG, taG, tbG, tcG, tdG, xaG, xbG, xcG, xdG, rfl, ha, hb, hc, hd, hsg⟩
            have hxs := And.intro ha (And.intro hb (And.intro hc hd))
            have HXG := Lib.hid hxs
            have hs := HSH.out.graft1 hsg OX4_own
            clear ha hb hc hd
            have HSdc := Lib.hid hs
            have HKdc := Lib.hid (show w.grownBy _ none from hs.tl.tl.tl.tl.tl.tl.tl.hd)
            clear hsg hs hxs
            refine hK.out _ _ (by exact HBM.out _ _ HSdc.out (by simp) (by simp)) (by exact fun _ => trivial) ?_
            clear hK K
            try simp only [Act.put, List.setIfInBounds_toArray, List.set_cons_zero, List.set_cons_succ]
            refine AnyL.twoT (i := 4) (j := 9) (by kernel_rfl) (by rfl) (by rfl) (fun K hK => ?_) (fun K hK => ?_)
            · go_simp
              go_at_call 17
              with_reducible refine (HTP2.out _ HKdc.out).mono ?_
              rintro e wdcc ⟨mH, nH, yH, rfl, hxs, hsg⟩
              have HXH := Lib.hid hxs
              have hs := HSdc.out.graft1 hsg OS_own
              have HSdcc := Lib.hid hs
              have HKdcc := Lib.hid (show w.grownBy _ none from hs.tl.tl.tl.tl.tl.tl.tl.tl.hd)
              clear hsg hs hxs
              refine hK.out _ _ (by exact HBM.out _ _ HSdcc.out (by simp) (by simp)) (by exact fun _ => trivial) ?_
              clear hK K
              try simp only [Act.put, List.setIfInBounds_toArray, List.set_cons_zero, List.set_cons_succ]
              refine AnyL.twoT (i := 5) (j := 9) (by kernel_rfl) (by rfl) (by rfl) (fun K hK => ?_) (fun K hK => ?_)
              · go_simp
                have HCC := Lib.hid (HIM.out _ _ _ _ _ _ HKdcc.out (OX4.rd HSdcc.out.tl.hd HXG.out) (OS.rd HSdcc.out.hd HXH.out))
                go_at_call 18
                with_reducible refine HCC.out.mono ?_
                rintro e wdccc ⟨a2, b2, c2, d2, ta2, tb2, tc2, td2, xa2, xb2, xc2, xd2, rfl, ha, hb, hc, hd, hsg⟩
                have HX2 := Lib.hid (And.intro ha (And.intro hb (And.intro hc hd)))
                have hs := Sep.cutA (X := [_]) (A := [_]) (Sep.cutA (X := [_, _]) (A := [_]) (HSdcc.out.graft1 hsg OX4_own))
                have HSdccc := Lib.hid hs
                have HKdccc := Lib.hid (show w.grownBy _ none from hs.tl.tl.tl.tl.tl.tl.tl.hd)
                clear hsg hs ha hb hc hd
                refine hK.out _ _ (by exact HBM.out _ _ HSdccc.out (by simp) (by simp)) (by exact fun _ => trivial) ?_
                clear hK K
                try simp only [Act.put, List.setIfInBounds_toArray, List.set_cons_zero, List.set_cons_succ]
                refine AnyL.take (i := 6) (v := ?vx33) (by rfl) (by kernel_rfl) (by kernel_rfl) (by kernel_rfl) rfl (by exact fun _ _ _ h => h) (by rfl) ?hyx33 (by exact ⟨HBM.out _ _ HSdccc.out (by simp) (by simp), fun _ => trivial⟩) ?restx33
                case hyx33 => intro W hSW; (try dsimp only at hSW); first | (go_simp; done) | (go_simp; with_reducible rfl)
                try simp only [Act.put, List.setIfInBounds_toArray, List.set_cons_zero, List.set_cons_succ]
                refine AnyL.take (i := 7) (v := ?vx34) (by rfl) (by kernel_rfl) (by kernel_rfl) (by kernel_rfl) rfl (by exact fun _ _ _ h => h) (by rfl) ?hyx34 (by exact ⟨HBM.out _ _ HSdccc.out (by simp) (by simp), fun _ => trivial⟩) ?restx34
                case hyx34 => intro W hSW; (try dsimp only at hSW); first | (go_simp; done) | (go_simp; with_reducible rfl)
                try simp only [Act.put, List.setIfInBounds_toArray, List.set_cons_zero, List.set_cons_succ]
                refine AnyL.take (i := 8) (v := ?vx35) (by rfl) (by kernel_rfl) (by kernel_rfl) (by kernel_rfl) rfl (by exact fun _ _ _ h => h) (by rfl) ?hyx35 (by exact ⟨HBM.out _ _ HSdccc.out (by simp) (by simp), fun _ => trivial⟩) ?restx35
                case hyx35 => intro W hSW; (try dsimp only at hSW); first | (go_simp; done) | (go_simp; with_reducible rfl)
                try simp only [Act.put, List.setIfInBounds_toArray, List.set_cons_zero, List.set_cons_succ]
                refine AnyL.step (i := 9) (by kernel_rfl) (by rfl) (fun K hK => ?_)
                go_simp
                have HSdcccz := Lib.hid (HSdccc.out.boxAt (wdccc.heap.size) (by rfl) #[.int .i64 0, .int .i64 0, .int .i64 0, .slice none 0 0, .slice none 0 0, .slice none 0 0, .slice none 0 0] 32)
                refine hK.out _ (wdccc.alloc (.cells #[.int .i64 0, .int .i64 0, .int .i64 0, .slice none 0 0, .slice none 0 0, .slice none 0 0, .slice none 0 0] 32)) (by exact HBM.out _ _ HSdcccz.out (by simp) (by simp)) (by exact fun _ => trivial) ?_
                clear hK K
                try simp only [Act.put, List.setIfInBounds_toArray, List.set_cons_zero, List.set_cons_succ]
                generalize wdccc.alloc (.cells #[.int .i64 0, .int .i64 0, .int .i64 0, .slice none 0 0, .slice none 0 0, .slice none 0 0, .slice none 0 0] 32) = wdcccz at *
                generalize wdccc.heap.size = nb at *
                have HKdcccz := Lib.hid (show w.grownBy _ none from HSdcccz.out.tl.tl.tl.tl.tl.tl.tl.tl.hd)
                have h8 := HSdcccz.out
                obtain ⟨k0, k1, k2, k3, k4, k5, k6⟩ := bq7 h8.hd
                obtain ⟨j0, j1, j2, j3, j4, j5, j6⟩ := bf7 h8.hd
                have HZ9 := Lib.hid (((((((h8.setB 0 (.int .i64 R.S)).setB 1 (.int .i64 R.I)).setB 2 (.int .i64 R.O)).setB 3 (.slice a2 R.A.length ta2)).setB 4 (.slice b2 R.B.length tb2)).setB 5 (.slice c2 R.C.length tc2)).setB 6 (.slice d2 R.D.length td2))
                clear h8
                refine AnyL.step (i := 10) (by kernel_rfl) (by rfl) (fun K hK => ?_)
                go_simp
                refine hK.out _ (((((((wdcccz.setCell ⟨nb, 0, none⟩ (.int .i64 R.S)).setCell ⟨nb, 1, none⟩ (.int .i64 R.I)).setCell ⟨nb, 2, none⟩ (.int .i64 R.O)).setCell ⟨nb, 3, none⟩ (.slice a2 R.A.length ta2)).setCell ⟨nb, 4, none⟩ (.slice b2 R.B.length tb2)).setCell ⟨nb, 5, none⟩ (.slice c2 R.C.length tc2)).setCell ⟨nb, 6, none⟩ (.slice d2 R.D.length td2)) (by exact HBM.out _ _ HZ9.out (by simp) (by simp)) (by exact fun _ => trivial) ?_
                clear hK K
                try simp only [Act.put, List.setIfInBounds_toArray, List.set_cons_zero, List.set_cons_succ]
                refine AnyL.take (i := 11) (v := ?vx40) (by rfl) (by kernel_rfl) (by kernel_rfl) (by kernel_rfl) rfl (by exact fun _ _ _ h => h) (by rfl) ?hyx40 (by exact ⟨HBM.out _ _ HZ9.out (by simp) (by simp), fun _ => trivial⟩) ?restx40
                case hyx40 => intro W hSW; (try dsimp only at hSW); first | (go_simp; done) | (go_simp; with_reducible rfl)
                try simp only [Act.put, List.setIfInBounds_toArray, List.set_cons_zero, List.set_cons_succ]
                refine AnyL.done (by kernel_rfl) ?_ _
                clear k0 k1 k2 k3 k4 k5 k6 j0 j1 j2 j3 j4 j5 j6
                go_wp2_with fail
                go_meet
                exact ⟨nb, a2, b2, c2, d2, ta2, tb2, tc2, td2, xa2, xb2, xc2, xd2, rfl, rfl, HX2.out, HZ9.out⟩
              · go_simp
                have HSdccz := Lib.hid (HSdcc.out.boxAt (wdcc.heap.size) (by rfl) #[.int .i64 0, .int .i64 0, .int .i64 0, .slice none 0 0, .slice none 0 0, .slice none 0 0, .slice none 0 0] 32)
                refine hK.out _ (wdcc.alloc (.cells #[.int .i64 0, .int .i64 0, .int .i64 0, .slice none 0 0, .slice none 0 0, .slice none 0 0, .slice none 0 0] 32)) (by exact HBM.out _ _ HSdccz.out (by simp) (by simp)) (by exact fun _ => trivial) ?_
                clear hK K
                try simp only [Act.put, List.setIfInBounds_toArray, List.set_cons_zero, List.set_cons_succ]
                generalize wdcc.alloc (.cells #[.int .i64 0, .int .i64 0, .int .i64 0, .slice none 0 0, .slice none 0 0, .slice none 0 0, .slice none 0 0] 32) = wdccz at *
                generalize wdcc.heap.size = nb at *
                have HKdccz := Lib.hid (show w.grownBy _ none from HSdccz.out.tl.tl.tl.tl.tl.tl.tl.tl.tl.hd)
                refine AnyL.step (i := 5) (by kernel_rfl) (by rfl) (fun K hK => ?_)
                go_simp
                have HCC := Lib.hid (HIM.out _ _ _ _ _ _ HKdccz.out (OX4.rd HSdccz.out.tl.tl.hd HXG.out) (OS.rd HSdccz.out.tl.hd HXH.out))
                go_at_call 18
                with_reducible refine HCC.out.mono ?_
                rintro e wdcczc ⟨a2, b2, c2, d2, ta2, tb2, tc2, td2, xa2, xb2, xc2, xd2, rfl, ha, hb, hc, hd, hsg⟩
                have HX2 := Lib.hid (And.intro ha (And.intro hb (And.intro hc hd)))
                have hs := Sep.cutA (X := [_, _]) (A := [_]) (Sep.cutA (X := [_, _, _]) (A := [_]) (HSdccz.out.graft1 hsg OX4_own))
                have HSdcczc := Lib.hid hs
                have HKdcczc := Lib.hid (show w.grownBy _ none from hs.tl.tl.tl.tl.tl.tl.tl.tl.hd)
                clear hsg hs ha hb hc hd
                refine hK.out _ _ (by exact HBM.out _ _ HSdcczc.out (by simp) (by simp)) (by exact fun _ => trivial) ?_
                clear hK K
                try simp only [Act.put, List.setIfInBounds_toArray, List.set_cons_zero, List.set_cons_succ]
                refine AnyL.take (i := 6) (v := ?vx41) (by rfl) (by kernel_rfl) (by kernel_rfl) (by kernel_rfl) rfl (by exact fun _ _ _ h => h) (by rfl) ?hyx41 (by exact ⟨HBM.out _ _ HSdcczc.out (by simp) (by simp), fun _ => trivial⟩) ?restx41
                case hyx41 => intro W hSW; (try dsimp only at hSW); first | (go_simp; done) | (go_simp; with_reducible rfl)
                try simp only [Act.put, List.setIfInBounds_toArray, List.set_cons_zero, List.set_cons_succ]
                refine AnyL.take (i := 7) (v := ?vx42) (by rfl) (by kernel_rfl) (by kernel_rfl) (by kernel_rfl) rfl (by exact fun _ _ _ h => h) (by rfl) ?hyx42 (by exact ⟨HBM.out _ _ HSdcczc.out (by simp) (by simp), fun _ => trivial⟩) ?restx42
                case hyx42 => intro W hSW; (try dsimp only at hSW); first | (go_simp; done) | (go_simp; with_reducible rfl)
                try simp only [Act.put, List.setIfInBounds_toArray, List.set_cons_zero, List.set_cons_succ]
                refine AnyL.take (i := 8) (v := ?vx43) (by rfl) (by kernel_rfl) (by kernel_rfl) (by kernel_rfl) rfl (by exact fun _ _ _ h => h) (by rfl) ?hyx43 (by exact ⟨HBM.out _ _ HSdcczc.out (by simp) (by simp), fun _ => trivial⟩) ?restx43
                case hyx43 => intro W hSW; (try dsimp only at hSW); first | (go_simp; done) | (go_simp; with_reducible rfl)
                try simp only [Act.put, List.setIfInBounds_toArray, List.set_cons_zero, List.set_cons_succ]
                have h8 := Sep.blk (A := [_]) (B := [_]) (HSdcczc.out)
                obtain ⟨k0, k1, k2, k3, k4, k5, k6⟩ := bq7 h8.hd
                obtain ⟨j0, j1, j2, j3, j4, j5, j6⟩ := bf7 h8.hd
                have HZ9 := Lib.hid (((((((h8.setB 0 (.int .i64 R.S)).setB 1 (.int .i64 R.I)).setB 2 (.int .i64 R.O)).setB 3 (.slice a2 R.A.length ta2)).setB 4 (.slice b2 R.B.length tb2)).setB 5 (.slice c2 R.C.length tc2)).setB 6 (.slice d2 R.D.length td2))
                clear h8
                refine AnyL.step (i := 10) (by kernel_rfl) (by rfl) (fun K hK => ?_)
                go_simp
                refine hK.out _ (((((((wdcczc.setCell ⟨nb, 0, none⟩ (.int .i64 R.S)).setCell ⟨nb, 1, none⟩ (.int .i64 R.I)).setCell ⟨nb, 2, none⟩ (.int .i64 R.O)).setCell ⟨nb, 3, none⟩ (.slice a2 R.A.length ta2)).setCell ⟨nb, 4, none⟩ (.slice b2 R.B.length tb2)).setCell ⟨nb, 5, none⟩ (.slice c2 R.C.length tc2)).setCell ⟨nb, 6, none⟩ (.slice d2 R.D.length td2)) (by exact HBM.out _ _ HZ9.out (by simp) (by simp)) (by exact fun _ => trivial) ?_
                clear hK K
                try simp only [Act.put, List.setIfInBounds_toArray, List.set_cons_zero, List.set_cons_succ]
                refine AnyL.take (i := 11) (v := ?vx44) (by rfl) (by kernel_rfl) (by kernel_rfl) (by kernel_rfl) rfl (by exact fun _ _ _ h => h) (by rfl) ?hyx44 (by exact ⟨HBM.out _ _ HZ9.out (by simp) (by simp), fun _ => trivial⟩) ?restx44
                case hyx44 => intro W hSW; (try dsimp only at hSW); first | (go_simp; done) | (go_simp; with_reducible rfl)
                try simp only [Act.put, List.setIfInBounds_toArray, List.set_cons_zero, List.set_cons_succ]
                refine AnyL.done (by kernel_rfl) ?_ _
                clear k0 k1 k2 k3 k4 k5 k6 j0 j1 j2 j3 j4 j5 j6
                go_wp2_with fail
                go_meet
                exact ⟨nb, a2, b2, c2, d2, ta2, tb2, tc2, td2, xa2, xb2, xc2, xd2, rfl, rfl, HX2.out, HZ9.out⟩
            · go_simp
              have HSdcz := Lib.hid (HSdc.out.boxAt (wdc.heap.size) (by rfl) #[.int .i64 0, .int .i64 0, .int .i64 0, .slice none 0 0, .slice none 0 0, .slice none 0 0, .slice none 0 0] 32)
              refine hK.out _ (wdc.alloc (.cells #[.int .i64 0, .int .i64 0, .int .i64 0, .slice none 0 0, .slice none 0 0, .slice none 0 0, .slice none 0 0] 32)) (by exact HBM.out _ _ HSdcz.out (by simp) (by simp)) (by exact fun _ => trivial) ?_
              clear hK K
              try simp only [Act.put, List.setIfInBounds_toArray, List.set_cons_zero, List.set_cons_succ]
              generalize wdc.alloc (.cells #[.int .i64 0, .int .i64 0, .int .i64 0, .slice none 0 0, .slice none 0 0, .slice none 0 0, .slice none 0 0] 32) = wdcz at *
              generalize wdc.heap.size = nb at *
              have HKdcz := Lib.hid (show w.grownBy _ none from HSdcz.out.tl.tl.tl.tl.tl.tl.tl.tl.hd)
              refine AnyL.step (i := 4) (by kernel_rfl) (by rfl) (fun K hK => ?_)
              go_simp
              go_at_call 17
              with_reducible refine (HTP2.out _ HKdcz.out).mono ?_
              rintro e wdczc ⟨mH, nH, yH, rfl, hxs, hsg⟩
              have HXH := Lib.hid hxs
              have hs := HSdcz.out.graft1 hsg OS_own
              have HSdczc := Lib.hid hs
              have HKdczc := Lib.hid (show w.grownBy _ none from hs.tl.tl.tl.tl.tl.tl.tl.tl.tl.hd)
              clear hsg hs hxs
              refine hK.out _ _ (by exact HBM.out _ _ HSdczc.out (by simp) (by simp)) (by exact fun _ => trivial) ?_
              clear hK K
              try simp only [Act.put, List.setIfInBounds_toArray, List.set_cons_zero, List.set_cons_succ]
              refine AnyL.step (i := 5) (by kernel_rfl) (by rfl) (fun K hK => ?_)
              go_simp
              have HCC := Lib.hid (HIM.out _ _ _ _ _ _ HKdczc.out (OX4.rd HSdczc.out.tl.tl.hd HXG.out) (OS.rd HSdczc.out.hd HXH.out))
              go_at_call 18
              with_reducible refine HCC.out.mono ?_
              rintro e wdczcc ⟨a2, b2, c2, d2, ta2, tb2, tc2, td2, xa2, xb2, xc2, xd2, rfl, ha, hb, hc, hd, hsg⟩
              have HX2 := Lib.hid (And.intro ha (And.intro hb (And.intro hc hd)))
              have hs := Sep.cutA (X := [_]) (A := [_]) (Sep.cutA (X := [_, _, _]) (A := [_]) (HSdczc.out.graft1 hsg OX4_own))
              have HSdczcc := Lib.hid hs
              have HKdczcc := Lib.hid (show w.grownBy _ none from hs.tl.tl.tl.tl.tl.tl.tl.tl.hd)
              clear hsg hs ha hb hc hd
              refine hK.out _ _ (by exact HBM.out _ _ HSdczcc.out (by simp) (by simp)) (by exact fun _ => trivial) ?_
              clear hK K
              try simp only [Act.put, List.setIfInBounds_toArray, List.set_cons_zero, List.set_cons_succ]
              refine AnyL.take (i := 6) (v := ?vx45) (by rfl) (by kernel_rfl) (by kernel_rfl) (by kernel_rfl) rfl (by exact fun _ _ _ h => h) (by rfl) ?hyx45 (by exact ⟨HBM.out _ _ HSdczcc.out (by simp) (by simp), fun _ => trivial⟩) ?restx45
              case hyx45 => intro W hSW; (try dsimp only at hSW); first | (go_simp; done) | (go_simp; with_reducible rfl)
              try simp only [Act.put, List.setIfInBounds_toArray, List.set_cons_zero, List.set_cons_succ]
              refine AnyL.take (i := 7) (v := ?vx46) (by rfl) (by kernel_rfl) (by kernel_rfl) (by kernel_rfl) rfl (by exact fun _ _ _ h => h) (by rfl) ?hyx46 (by exact ⟨HBM.out _ _ HSdczcc.out (by simp) (by simp), fun _ => trivial⟩) ?restx46
              case hyx46 => intro W hSW; (try dsimp only at hSW); first | (go_simp; done) | (go_simp; with_reducible rfl)
              try simp only [Act.put, List.setIfInBounds_toArray, List.set_cons_zero, List.set_cons_succ]
              refine AnyL.take (i := 8) (v := ?vx47) (by rfl) (by kernel_rfl) (by kernel_rfl) (by kernel_rfl) rfl (by exact fun _ _ _ h => h) (by rfl) ?hyx47 (by exact ⟨HBM.out _ _ HSdczcc.out (by simp) (by simp), fun _ => trivial⟩) ?restx47
              case hyx47 => intro W hSW; (try dsimp only at hSW); first | (go_simp; done) | (go_simp; with_reducible rfl)
              try simp only [Act.put, List.setIfInBounds_toArray, List.set_cons_zero, List.set_cons_succ]
              have h8 := Sep.blk (A := [_]) (B := [_]) (HSdczcc.out)
              obtain ⟨k0, k1, k2, k3, k4, k5, k6⟩ := bq7 h8.hd
              obtain ⟨j0, j1, j2, j3, j4, j5, j6⟩ := bf7 h8.hd
              have HZ9 := Lib.hid (((((((h8.setB 0 (.int .i64 R.S)).setB 1 (.int .i64 R.I)).setB 2 (.int .i64 R.O)).setB 3 (.slice a2 R.A.length ta2)).setB 4 (.slice b2 R.B.length tb2)).setB 5 (.slice c2 R.C.length tc2)).setB 6 (.slice d2 R.D.length td2))
              clear h8
              refine AnyL.step (i := 10) (by kernel_rfl) (by rfl) (fun K hK => ?_)
              go_simp
              refine hK.out _ (((((((wdczcc.setCell ⟨nb, 0, none⟩ (.int .i64 R.S)).setCell ⟨nb, 1, none⟩ (.int .i64 R.I)).setCell ⟨nb, 2, none⟩ (.int .i64 R.O)).setCell ⟨nb, 3, none⟩ (.slice a2 R.A.length ta2)).setCell ⟨nb, 4, none⟩ (.slice b2 R.B.length tb2)).setCell ⟨nb, 5, none⟩ (.slice c2 R.C.length tc2)).setCell ⟨nb, 6, none⟩ (.slice d2 R.D.length td2)) (by exact HBM.out _ _ HZ9.out (by simp) (by simp)) (by exact fun _ => trivial) ?_
              clear hK K
              try simp only [Act.put, List.setIfInBounds_toArray, List.set_cons_zero, List.set_cons_succ]
              refine AnyL.take (i := 11) (v := ?vx48) (by rfl) (by kernel_rfl) (by kernel_rfl) (by kernel_rfl) rfl (by exact fun _ _ _ h => h) (by rfl) ?hyx48 (by exact ⟨HBM.out _ _ HZ9.out (by simp) (by simp), fun _ => trivial⟩) ?restx48
              case hyx48 => intro W hSW; (try dsimp only at hSW); first | (go_simp; done) | (go_simp; with_reducible rfl)
              try simp only [Act.put, List.setIfInBounds_toArray, List.set_cons_zero, List.set_cons_succ]
              refine AnyL.done (by kernel_rfl) ?_ _
              clear k0 k1 k2 k3 k4 k5 k6 j0 j1 j2 j3 j4 j5 j6
              go_wp2_with fail
              go_meet
              exact ⟨nb, a2, b2, c2, d2, ta2, tb2, tc2, td2, xa2, xb2, xc2, xd2, rfl, rfl, HX2.out, HZ9.out⟩
          · go_simp
            have HSdz := Lib.hid (HSH.out.boxAt (w19.heap.size) (by rfl) #[.int .i64 0, .int .i64 0, .int .i64 0, .slice none 0 0, .slice none 0 0, .slice none 0 0, .slice none 0 0] 32)
            refine hK.out _ (w19.drew.alloc (.cells #[.int .i64 0, .int .i64 0, .int .i64 0, .slice none 0 0, .slice none 0 0, .slice none 0 0, .slice none 0 0] 32)) (by exact HBM.out _ _ HSdz.out (by simp) (by simp)) (by exact fun _ => trivial) ?_
            clear hK K
            try simp only [Act.put, List.setIfInBounds_toArray, List.set_cons_zero, List.set_cons_succ]
            generalize w19.drew.alloc (.cells #[.int .i64 0, .int .i64 0, .int .i64 0, .slice none 0 0, .slice none 0 0, .slice none 0 0, .slice none 0 0] 32) = wdz at *
            generalize w19.heap.size = nb at *
            have HKdz := Lib.hid (show w.grownBy _ none from HSdz.out.tl.tl.tl.tl.tl.tl.tl.hd)
            refine AnyL.step (i := 2) (by kernel_rfl) (by rfl) (fun K hK => ?_)
            go_simp
            go_at_call 8
            with_reducible refine (HTG2.out _ HKdz.out).mono ?_
            rintro e wdzc ⟨aG, bG, cG, dG, taG, tbG, tcG, tdG, xaG, xbG, xcG, xdG, rfl, ha, hb, hc, hd, hsg⟩
            have hxs := And.intro ha (And.intro hb (And.intro hc hd))
            have HXG := Lib.hid hxs
            have hs := HSdz.out.graft1 hsg OX4_own
            clear ha hb hc hd
            have HSdzc := Lib.hid hs
            have HKdzc := Lib.hid (show w.grownBy _ none from hs.tl.tl.tl.tl.tl.tl.tl.tl.hd)
            clear hsg hs hxs
            refine hK.out _ _ (by exact HBM.out _ _ HSdzc.out (by simp) (by simp)) (by exact fun _ => trivial) ?_
            clear hK K
            try simp only [Act.put, List.setIfInBounds_toArray, List.set_cons_zero, List.set_cons_succ]
            refine AnyL.step (i := 4) (by kernel_rfl) (by rfl) (fun K hK => ?_)
            go_simp
            go_at_call 17
            with_reducible refine (HTP2.out _ HKdzc.out).mono ?_
            rintro e wdzcc ⟨mH, nH, yH, rfl, hxs, hsg⟩
            have HXH := Lib.hid hxs
            have hs := HSdzc.out.graft1 hsg OS_own
            have HSdzcc := Lib.hid hs
            have HKdzcc := Lib.hid (show w.grownBy _ none from hs.tl.tl.tl.tl.tl.tl.tl.tl.tl.hd)
            clear hsg hs hxs
            refine hK.out _ _ (by exact HBM.out _ _ HSdzcc.out (by simp) (by simp)) (by exact fun _ => trivial) ?_
            clear hK K
            try simp only [Act.put, List.setIfInBounds_toArray, List.set_cons_zero, List.set_cons_succ]
            refine AnyL.step (i := 5) (by kernel_rfl) (by rfl) (fun K hK => ?_)
            go_simp
            have HCC := Lib.hid (HIM.out _ _ _ _ _ _ HKdzcc.out (OX4.rd HSdzcc.out.tl.hd HXG.out) (OS.rd HSdzcc.out.hd HXH.out))
            go_at_call 18
            with_reducible refine HCC.out.mono ?_
            rintro e wdzccc ⟨a2, b2, c2, d2, ta2, tb2, tc2, td2, xa2, xb2, xc2, xd2, rfl, ha, hb, hc, hd, hsg⟩
            have HX2 := Lib.hid (And.intro ha (And.intro hb (And.intro hc hd)))
            have hs := Sep.cutA (X := [_]) (A := [_]) (Sep.cutA (X := [_, _]) (A := [_]) (HSdzcc.out.graft1 hsg OX4_own))
            have HSdzccc := Lib.hid hs
            have HKdzccc := Lib.hid (show w.grownBy _ none from hs.tl.tl.tl.tl.tl.tl.tl.tl.hd)
            clear hsg hs ha hb hc hd
            refine hK.out _ _ (by exact HBM.out _ _ HSdzccc.out (by simp) (by simp)) (by exact fun _ => trivial) ?_
            clear hK K
            try simp only [Act.put, List.setIfInBounds_toArray, List.set_cons_zero, List.set_cons_succ]
            refine AnyL.take (i := 6) (v := ?vx49) (by rfl) (by kernel_rfl) (by kernel_rfl) (by kernel_rfl) rfl (by exact fun _ _ _ h => h) (by rfl) ?hyx49 (by exact ⟨HBM.out _ _ HSdzccc.out (by simp) (by simp), fun _ => trivial⟩) ?restx49
            case hyx49 => intro W hSW; (try dsimp only at hSW); first | (go_simp; done) | (go_simp; with_reducible rfl)
            try simp only [Act.put, List.setIfInBounds_toArray, List.set_cons_zero, List.set_cons_succ]
            refine AnyL.take (i := 7) (v := ?vx50) (by rfl) (by kernel_rfl) (by kernel_rfl) (by kernel_rfl) rfl (by exact fun _ _ _ h => h) (by rfl) ?hyx50 (by exact ⟨HBM.out _ _ HSdzccc.out (by simp) (by simp), fun _ => trivial⟩) ?restx50
            case hyx50 => intro W hSW; (try dsimp only at hSW); first | (go_simp; done) | (go_simp; with_reducible rfl)
            try simp only [Act.put, List.setIfInBounds_toArray, List.set_cons_zero, List.set_cons_succ]
            refine AnyL.take (i := 8) (v := ?vx51) (by rfl) (by kernel_rfl) (by kernel_rfl) (by kernel_rfl) rfl (by exact fun _ _ _ h => h) (by rfl) ?hyx51 (by exact ⟨HBM.out _ _ HSdzccc.out (by simp) (by simp), fun _ => trivial⟩) ?restx51
            case hyx51 => intro W hSW; (try dsimp only at hSW); first | (go_simp; done) | (go_simp; with_reducible rfl)
            try simp only [Act.put, List.setIfInBounds_toArray, List.set_cons_zero, List.set_cons_succ]
            have h8 := Sep.blk (A := [_]) (B := [_]) (HSdzccc.out)
            obtain ⟨k0, k1, k2, k3, k4, k5, k6⟩ := bq7 h8.hd
            obtain ⟨j0, j1, j2, j3, j4, j5, j6⟩ := bf7 h8.hd
            have HZ9 := Lib.hid (((((((h8.setB 0 (.int .i64 R.S)).setB 1 (.int .i64 R.I)).setB 2 (.int .i64 R.O)).setB 3 (.slice a2 R.A.length ta2)).setB 4 (.slice b2 R.B.length tb2)).setB 5 (.slice c2 R.C.length tc2)).setB 6 (.slice d2 R.D.length td2))
            clear h8
            refine AnyL.step (i := 10) (by kernel_rfl) (by rfl) (fun K hK => ?_)
            go_simp
            refine hK.out _ (((((((wdzccc.setCell ⟨nb, 0, none⟩ (.int .i64 R.S)).setCell ⟨nb, 1, none⟩ (.int .i64 R.I)).setCell ⟨nb, 2, none⟩ (.int .i64 R.O)).setCell ⟨nb, 3, none⟩ (.slice a2 R.A.length ta2)).setCell ⟨nb, 4, none⟩ (.slice b2 R.B.length tb2)).setCell ⟨nb, 5, none⟩ (.slice c2 R.C.length tc2)).setCell ⟨nb, 6, none⟩ (.slice d2 R.D.length td2)) (by exact HBM.out _ _ HZ9.out (by simp) (by simp)) (by exact fun _ => trivial) ?_
            clear hK K
            try simp only [Act.put, List.setIfInBounds_toArray, List.set_cons_zero, List.set_cons_succ]
            refine AnyL.take (i := 11) (v := ?vx52) (by rfl) (by kernel_rfl) (by kernel_rfl) (by kernel_rfl) rfl (by exact fun _ _ _ h => h) (by rfl) ?hyx52 (by exact ⟨HBM.out _ _ HZ9.out (by simp) (by simp), fun _ => trivial⟩) ?restx52
            case hyx52 => intro W hSW; (try dsimp only at hSW); first | (go_simp; done) | (go_simp; with_reducible rfl)
            try simp only [Act.put, List.setIfInBounds_toArray, List.set_cons_zero, List.set_cons_succ]
            refine AnyL.done (by kernel_rfl) ?_ _
            clear k0 k1 k2 k3 k4 k5 k6 j0 j1 j2 j3 j4 j5 j6
            go_wp2_with fail
            go_meet
            exact ⟨nb, a2, b2, c2, d2, ta2, tb2, tc2, td2, xa2, xb2, xc2, xd2, rfl, rfl, HX2.out, HZ9.out⟩
        case rest =>
          obtain ⟨nb2, a2, b2, c2, d2, ta2, tb2, tc2, td2, xa2, xb2, xc2, xd2, rfl, rfl, hx2, hs22⟩ := hcut
          obtain ⟨t0_, t1_, t2_, t3_, t4_, t5_, t6_⟩ := bq7 hs22.hd
          obtain ⟨v0_, v1_, v2_, v3_, v4_, v5_, v6_⟩ := bq7 hs22.tl.tl.tl.tl.hd
          have HS22 := Lib.hid hs22
          have HEQ22 := Lib.hid (HEQ.out _ _ _ _ _ _ _ _ _ (OX4.rd hs22.tl.hd hx2) (OX4.rd hs22.tl.tl.tl.tl.tl.hd HX0.out))
          clear hs22 HSH HKH hx2
          go_wp2_with (first
            | (go_at_call 11
               with_reducible refine HEQ22.out.mono ?_
               rintro e w23 ⟨rfl, hg⟩
               have hs := HS22.out.grown hg
               clear t0_ t1_ t2_ t3_ t4_ t5_ t6_ v0_ v1_ v2_ v3_ v4_ v5_ v6_
               obtain ⟨t0_, t1_, t2_, t3_, t4_, t5_, t6_⟩ := bq7 hs.tl.tl.tl.hd
               have HHM23 := Lib.hid (HHM.out _ _ _ _ _ (OX4.rd hs.tl.tl.hd HY1.out))
               have HK23 := Lib.hid (show w.grownBy w23 none from hs.tl.tl.tl.tl.tl.tl.tl.tl.hd)
               clear hg hs)
            | (go_at_call 21
               with_reducible refine HHM23.out.mono ?_
               rintro e w24 ⟨rfl, hg⟩
               have HK24 := Lib.hid (grownBy_trans HK23.out hg)
               clear hg))
          go_ret
          exact ⟨rfl, HK24.out⟩
end Go.Proofs.YtghfifpicklonaaDoor

/-
  The circuit of a state space, in the program. Conditions: the state space is valid.
-/
import Derived.Test.YtghfifpicklonaaDoorYt02
namespace Go.Proofs.YtghfifpicklonaaDoor
open Go.RowKit
set_option linter.unusedVariables false
set_option maxRecDepth 100000

def natL (b k : Nat) : List Int := (List.range k).map fun t => ((b + t : Nat) : Int)
theorem natL_succ (b k : Nat) : natL b (k + 1) = natL b k ++ [((b + k : Nat) : Int)] := by simp [natL, List.range_succ]
theorem natL_len (b k : Nat) : (natL b k).length = k := by simp [natL]
theorem natL_at (b : Nat) {k i : Nat} (h : i < k) : (natL b k).getD i 0 = ((b + i : Nat) : Int) := by
  unfold natL
  rw [List.getD_eq_getElem?_getD, List.getElem?_map, List.getElem?_range h]
  rfl
def inG (k : Nat) : List Gt := (List.range k).map fun (i : Nat) => ⟨1, 0, 0, (i : Int)⟩
theorem inG_succ (k : Nat) : inG (k + 1) = inG k ++ [⟨1, 0, 0, (k : Int)⟩] := by simp [inG, List.range_succ]
theorem inG_len (k : Nat) : (inG k).length = k := by simp [inG]
abbrev dlG : Gt := ⟨5, 0, 0, 0⟩
def gatesL (nS nI : Nat) : List Int := natL nI nS ++ natL 0 nI
theorem gatesL_len (nS nI : Nat) : (gatesL nS nI).length = nS + nI := by simp [gatesL, natL_len]
def prsL (nS nI : Nat) (M N : List (List Int)) (j : Nat) : List (Int × Int) := (gatesL nS nI).zip (colL M j ++ colL N j)
def setA (G : List Gt) (i : Nat) (a : Int) : List Gt := G.set i ⟨(G.getD i g0).k, a, (G.getD i g0).b, (G.getD i g0).v⟩
def AL (nS nI : Nat) (s : StSp) : Nat → List Gt
  | 0 => inG nI ++ List.replicate nS dlG
  | j + 1 => setA (sumG (AL nS nI s j) (prsL nS nI s.A s.B j)).1 (nI + j) (sumG (AL nS nI s j) (prsL nS nI s.A s.B j)).2
def CL (nS nI : Nat) (s : StSp) : Nat → List Gt × List Int
  | 0 => (AL nS nI s nS, [])
  | j + 1 => ((sumG (CL nS nI s j).1 (prsL nS nI s.C s.D j)).1, (CL nS nI s j).2 ++ [(sumG (CL nS nI s j).1 (prsL nS nI s.C s.D j)).2])
/-- What is known of a valid state space. -/
structure SsOk (s : StSp) (nS nI nO : Nat) : Prop where
  es : s.S = nS
  ei : s.I = nI
  eo : s.O = nO
  ls : nS ≤ 24
  li : nI ≤ 8
  lo : nO ≤ 8
  la : s.A.length = nS
  lb : s.B.length = nI
  lc : s.C.length = nS
  ld : s.D.length = nI
  ra : ∀ r ∈ s.A, r.length = nS
  rb : ∀ r ∈ s.B, r.length = nS
  rc : ∀ r ∈ s.C, r.length = nO
  rd : ∀ r ∈ s.D, r.length = nO
theorem ss_ok {p : Int} {s : StSp} (h : ssB p s = true) : ∃ nS nI nO, SsOk s nS nI nO := by
  unfold ssB inB3 tbB vsB vcB at h
  simp only [Bool.and_eq_true, decide_eq_true_iff, List.all_eq_true] at h
  obtain ⟨⟨⟨⟨⟨⟨⟨_, h1⟩, h2⟩, h3⟩, a1, a2⟩, b1, b2⟩, c1, c2⟩, d1, d2⟩ := h
  refine ⟨s.S.toNat, s.I.toNat, s.O.toNat, ⟨by omega, by omega, by omega, by omega, by omega, by omega, by omega, by omega, by omega, by omega, fun r hr => ?_, fun r hr => ?_, fun r hr => ?_, fun r hr => ?_⟩⟩
  · have := (a2 r hr).1; omega
  · have := (b2 r hr).1; omega
  · have := (c2 r hr).1; omega
  · have := (d2 r hr).1; omega
theorem prs_len (nS nI : Nat) (M N : List (List Int)) (j : Nat) : (prsL nS nI M N j).length ≤ nS + nI := by
  unfold prsL
  rw [List.length_zip, gatesL_len]
  omega
theorem setA_len (G : List Gt) (i : Nat) (a : Int) : (setA G i a).length = G.length := by simp [setA]
theorem AL_len {s : StSp} {nS nI : Nat} (h1 : nS ≤ 24) (h2 : nI ≤ 8) : ∀ j, (AL nS nI s j).length ≤ 32 + 65 * j ∧ nI + nS ≤ (AL nS nI s j).length
  | 0 => by simp [AL, inG_len]; omega
  | j + 1 => by
    have ih := AL_len (s := s) h1 h2 j
    have h := sumG_len (AL nS nI s j) (prsL nS nI s.A s.B j)
    have hp := prs_len nS nI s.A s.B j
    simp only [AL, setA_len]
    omega
theorem CL_len {s : StSp} {nS nI : Nat} (h1 : nS ≤ 24) (h2 : nI ≤ 8) : ∀ j, (CL nS nI s j).1.length ≤ 1600 + 65 * j ∧ (CL nS nI s j).2.length = j
  | 0 => by
    have := AL_len (s := s) h1 h2 nS
    simp only [CL]
    exact ⟨by omega, rfl⟩
  | j + 1 => by
    have ih := CL_len (s := s) h1 h2 j
    have h := sumG_len (CL nS nI s j).1 (prsL nS nI s.C s.D j)
    have hp := prs_len nS nI s.C s.D j
    simp only [CL, List.length_append, List.length_singleton]
    omega
theorem Sep.emptyAt {w : World} {l : List Asrt} (h : Sep w l) (b : Nat) (hb : b = w.heap.size) : Sep (w.alloc (.cells #[] 3)) (OI (.slice (some ⟨b, 0, none⟩) 0 0) [] :: l) := hb ▸ h.emptyI
theorem joinL_two (v1 v2 : Value) (z1 z2 : List Int) : joinL [⟨v1, z1⟩, ⟨v2, z2⟩] = z1 ++ z2 := by simp [joinL]
theorem colL_len (M : List (List Int)) (j : Nat) : (colL M j).length = M.length := by simp [colL]
theorem Sep.setAA {w : World} {g n cap : Nat} {G : List Gt} {l : List Asrt} (h : Sep w (OR gateE (.slice (some ⟨g, 0, none⟩) n cap) G :: l)) (hn : n = G.length) {i : Nat} (hi : i < G.length) (a : Int) :
    Sep (w.setCell ⟨g, i * 4 + 1, none⟩ (.int .i64 a)) (OR gateE (.slice (some ⟨g, 0, none⟩) n cap) (setA G i a) :: l) := by
  have e : G.getD i g0 = G[i] := by rw [List.getD_eq_getElem?_getD, List.getElem?_eq_getElem hi]; rfl
  have h1 := h.setR (E := gateE) hn (i := i) (j := 1) (y := ⟨G[i].k, a, G[i].b, G[i].v⟩) (u := .int .i64 a) hi (by decide) rfl
  unfold setA
  rw [e]
  exact h1
theorem step_app_intZ {ops : Array Oper} {o : Oper} {a : Act} {Q : Exit → Act → World → Prop} {K : Act → World → Prop} {Ex : Prop} {w : World} {v : Value} {zs : List Int} {n : Int} {q : Nat} {l : List Asrt} (hgd : o.guard = none) (s x : Operand)
    (ho : o.op = .call { callee := .builtin .append, args := #[s, x], argTypes := #[27, 27] })
    (hs : a.eval s = v) (hx : a.eval x = .slice (some ⟨q, 0, none⟩) 1 1) (hq : q = w.heap.size) (H : Sep w (OI v zs :: l)) (hl : zs.length ≤ 1000000000)
    (h : ∀ g cap w', Sep w' (OI (.slice (some ⟨g, 0, none⟩) (zs.length + 1) cap) (zs ++ [n]) :: l) → K (a.put o.dst (.slice (some ⟨g, 0, none⟩) (zs.length + 1) cap)) w') :
    if Region.wanted o (yielded ops a.tmps) = true then Oper.wp Tryd.prog o a (w.alloc (.cells #[.int .i64 n] 3)) K Q else Ex := by
  subst hq
  rw [if_pos (by simp [Region.wanted, hgd])]
  exact wp_app_int s x ho hs hx H hl h
/-- What hands back a circuit of its own. -/
def CirS (n : Int) (G : List Gt) (O : List Int) (w : World) (e : Ending) (w' : World) : Prop :=
  ∃ a1 c1 a2 c2, e = .returned (.agg #[.int .i64 n, .slice a1 G.length c1, .slice a2 O.length c2]) ∧ Sep w' [OR gateE (.slice a1 G.length c1) G, OI (.slice a2 O.length c2) O, KeepA w]
set_option maxHeartbeats 8000000 in
theorem circuit_any (s : StSp) (nS nI nO : Nat) (av bv cv dv : Value) (w : World) (h : RdSs w s av bv cv dv) (hk : SsOk s nS nI nO) :
    Calls Tryd.prog 35 #[.agg #[.int .i64 s.S, .int .i64 s.I, .int .i64 s.O, av, bv, cv, dv]] w (CirS (nI : Int) (CL nS nI s nO).1 (CL nS nI s nO).2 w) := by
  have HEL := Lib.hid fun (v : Value) (M : List (List Int)) (j : Nat) W (hv : RdS W v M) (hl : M.length ≤ 1000000) (hj : ∀ r ∈ M, j < r.length) => elements_any v M j W hv hl hj
  have HEA := Lib.hid fun (j : Nat) (hj : j < nS) W (hw : w.grownBy W none) => elements_any _ s.A j W (h.a.carry hw) (by have := hk.la; have := hk.ls; have := hk.li; omega) (fun r hr => by rw [hk.ra r hr]; exact hj)
  have HEB := Lib.hid fun (j : Nat) (hj : j < nS) W (hw : w.grownBy W none) => elements_any _ s.B j W (h.b.carry hw) (by have := hk.lb; have := hk.ls; have := hk.li; omega) (fun r hr => by rw [hk.rb r hr]; exact hj)
  have HEC := Lib.hid fun (j : Nat) (hj : j < nO) W (hw : w.grownBy W none) => elements_any _ s.C j W (h.c.carry hw) (by have := hk.lc; have := hk.ls; have := hk.li; omega) (fun r hr => by rw [hk.rc r hr]; exact hj)
  have HED := Lib.hid fun (j : Nat) (hj : j < nO) W (hw : w.grownBy W none) => elements_any _ s.D j W (h.d.carry hw) (by have := hk.ld; have := hk.ls; have := hk.li; omega) (fun r hr => by rw [hk.rd r hr]; exact hj)
  obtain ⟨sa, ta, rfl⟩ := h.a.shape
  obtain ⟨sb, tb, rfl⟩ := h.b.shape
  obtain ⟨sc, tc, rfl⟩ := h.c.shape
  obtain ⟨sd, td, rfl⟩ := h.d.shape
  have hls := hk.ls; have hli := hk.li; have hlo := hk.lo
  have HAL := Lib.hid fun j => AL_len (s := s) hls hli j
  have HCL := Lib.hid fun j => CL_len (s := s) hls hli j
  rw [hk.es, hk.ei, hk.eo, hk.la, hk.lb, hk.lc, hk.ld]
  rw [hk.la] at HEA
  rw [hk.lb] at HEB
  rw [hk.lc] at HEC
  rw [hk.ld] at HED
  have HLA := Lib.hid fun j => colL_len s.A j
  have HLB := Lib.hid fun j => colL_len s.B j
  have HLC := Lib.hid fun j => colL_len s.C j
  have HLD := Lib.hid fun j => colL_len s.D j
  rw [hk.la] at HLA
  rw [hk.lb] at HLB
  rw [hk.lc] at HLC
  rw [hk.ld] at HLD
  have HGT := Lib.hid fun (gv ov : Value) (G : List Gt) (y : Gt) W l (hl : G.length ≤ 1000000) (h : Sep W (BxA (w.heap.size + 1 + 1) #[.int .i64 nI, gv, ov] 29 :: OR gateE gv G :: l)) => gate_any (nI : Int) (w.heap.size + 1 + 1) gv ov G y W l hl h
  have HSM := Lib.hid fun (gv ov gsv cv : Value) (G : List Gt) (zs cs : List Int) W l hG h1 h2 (h : Sep W (BxA (w.heap.size + 1 + 1) #[.int .i64 nI, gv, ov] 29 :: OR gateE gv G :: OI gsv zs :: OI cv cs :: l)) => sum_any (nI : Int) (w.heap.size + 1 + 1) gv ov gsv cv G zs cs W l hG h1 h2 h
  have hs0 := ((((Sep.start w).boxAt w.heap.size rfl #[.int .i64 nS, .int .i64 nI, .int .i64 nO, .slice sa nS ta, .slice sb nI tb, .slice sc nS tc, .slice sd nI td] 32).boxAt (w.heap.size + 1) (by simp) #[.int .i64 0, .slice none 0 0, .slice none 0 0] 29).boxAt (w.heap.size + 1 + 1) (by simp) #[.int .i64 nI, .slice none 0 0, .slice none 0 0] 29).boxAt (w.heap.size + 1 + 1 + 1) (by simp) #[.pointer (some ⟨w.heap.size + 1 + 1, 0, none⟩)] 107
  have hs1 := Sep.nilR gateE ((hs0.emptyAt (w.heap.size + 1 + 1 + 1 + 1) (by simp)).emptyAt (w.heap.size + 1 + 1 + 1 + 1 + 1) (by simp))
  have HS0 := Lib.hid (Sep.blk (A := [_, _, _, _]) (B := [_]) hs1)
  obtain ⟨x0, x1, x2, x3, x4, x5, x6⟩ := bq7 hs0.tl.tl.tl.hd
  clear h hs0 hs1
  go_enter Tryd.func35, Tryd.ntmps35
  go_wp2_with fail
  clear x0 x1 x2 x3 x4 x5 x6
  go_loopw [5, 7, 21] (fun iv _ i wr => ∃ (k : Nat) (gv : Value), k ≤ nI ∧ i = .int .i64 k ∧ Sep wr [BxA (w.heap.size + 1 + 1) #[.int .i64 nI, gv, .slice none 0 0] 29, OR gateE gv (inG k), OI (.slice (some ⟨w.heap.size + 1 + 1 + 1 + 1 + 1, 0, none⟩) 0 0) ([]), OI iv (natL 0 k), BxA (w.heap.size + 1 + 1 + 1) #[.pointer (some ⟨w.heap.size + 1 + 1, 0, none⟩)] 107, BxA (w.heap.size + 1) #[.int .i64 0, .slice none 0 0, .slice none 0 0] 29, BxA w.heap.size #[.int .i64 nS, .int .i64 nI, .int .i64 nO, .slice sa nS ta, .slice sb nI tb, .slice sc nS tc, .slice sd nI td] 32, KeepA w]) (fun _ _ i _ => nI - (intOf i).toNat)
  case atStart => exact ⟨0, .slice none 0 0, by omega, rfl, HS0.out⟩
  case round =>
    obtain ⟨k, gv, hkk, rfl, hs⟩ := hrel
    obtain ⟨ia, ic, rfl⟩ := own_shape (show OwnInts 0 wr _ (natL 0 k) from hs.tl.tl.tl.hd)
    rw [natL_len] at hs
    try rw [natL_len]
    have HSR := Lib.hid hs
    clear HS0
    by_cases hlt : k < nI
    · have HC := Lib.hid (HGT.out gv (.slice none 0 0) (inG k) ⟨1, 0, 0, (k : Int)⟩ wr _ (by rw [inG_len]; omega) HSR.out)
      obtain ⟨k0, _⟩ := bq1Z HSR.out.tl.tl.tl.tl.hd
      have hki : (k : Int) < (nI : Int) := by omega
      clear hs
      go_wp2_with (first
        | (go_at_call 78
           with_reducible refine HC.out.mono ?_
           rintro e w2 ⟨gv2, rfl, hs2⟩
           rw [inG_len]
           have HS2 := Lib.hid (Sep.blk (A := [_, _, _]) (B := [_]) (hs2))
           clear hs2 k0)
        | (at_builtin
           go_loud (
           refine app_intS rfl _ _ rfl rfl rfl HS2.out (by rw [natL_len]; omega) ?_
           intro g c3 w3 h3
           rw [natL_len] at h3 ⊢
           have HS3 := Lib.hid (Sep.blk3 (X := []) (A := [_]) (B := [_, _, _]) h3)
           clear h3)))
      go_roundw
      case rel => exact ⟨k + 1, gv2, by omega, by go_num, by rw [inG_succ, natL_succ, Nat.zero_add]; exact HS3.out⟩
      case measure => simp [intOf]; omega
    · have hkm : k = nI := by omega
      subst hkm
      obtain ⟨x0, x1, x2, x3, x4, x5, x6⟩ := bq7 HSR.out.tl.tl.tl.tl.tl.tl.hd
      have hki : ¬ (k : Int) < (k : Int) := by omega
      clear hs
      go_wp2_with fail
      clear x0 x1 x2 x3 x4 x5 x6
      go_loopw [6, 34] (fun sv i wr => ∃ (t : Nat) (gv : Value), t ≤ nS ∧ i = .int .i64 t ∧ Sep wr [BxA (w.heap.size + 1 + 1) #[.int .i64 k, gv, .slice none 0 0] 29, OR gateE gv (inG k ++ List.replicate t dlG), OI sv (natL k t), OI (.slice ia k ic) (natL 0 k), BxA (w.heap.size + 1 + 1 + 1) #[.pointer (some ⟨w.heap.size + 1 + 1, 0, none⟩)] 107, BxA (w.heap.size + 1) #[.int .i64 0, .slice none 0 0, .slice none 0 0] 29, BxA w.heap.size #[.int .i64 nS, .int .i64 k, .int .i64 nO, .slice sa nS ta, .slice sb k tb, .slice sc nS tc, .slice sd k td] 32, KeepA w]) (fun _ i _ => nS - (intOf i).toNat)
      case atStart => exact ⟨0, gv, by omega, rfl, by rw [List.replicate_zero, List.append_nil]; exact HSR.out⟩
      case round =>
        obtain ⟨t, gv, htt, rfl, hs⟩ := hrel
        obtain ⟨ta2, tc2, rfl⟩ := own_shape (show OwnInts 0 wr _ (natL k t) from hs.tl.tl.hd)
        rw [natL_len] at hs
        try rw [natL_len]
        clear HSR
        have HSR := Lib.hid hs
        have hgl : (inG k ++ List.replicate t dlG).length = k + t := by simp [inG_len]
        by_cases hlt : t < nS
        · have HC := Lib.hid (HGT.out gv (.slice none 0 0) (inG k ++ List.replicate t dlG) dlG wr _ (by rw [hgl]; omega) HSR.out)
          have HG2 := Lib.hid hgl
          obtain ⟨k0, _⟩ := bq1Z HSR.out.tl.tl.tl.tl.hd
          have hki : (t : Int) < (nS : Int) := by omega
          clear hs hgl
          go_wp2_with (first
            | (go_at_call 78
               with_reducible refine HC.out.mono ?_
               rintro e w2 ⟨gv2, rfl, hs2⟩
               rw [HG2.out]
               have HS2 := Lib.hid (Sep.blk (A := [_, _]) (B := [_]) (hs2))
               clear hs2 k0)
            | (at_builtin
               go_loud (
               refine app_intS rfl _ _ rfl rfl rfl HS2.out (by rw [natL_len]; omega) ?_
               intro g c3 w3 h3
               rw [natL_len] at h3 ⊢
               have HS3 := Lib.hid (Sep.blk3 (X := []) (A := [_]) (B := [_, _]) h3)
               clear h3)))
          go_roundw
          case rel => exact ⟨t + 1, gv2, by omega, by go_num, by rw [natL_succ, List.replicate_succ', ← List.append_assoc]; exact HS3.out⟩
          case measure => simp [intOf]; omega
        · have htm : t = nS := by omega
          subst htm
          have hki : ¬ (t : Int) < (t : Int) := by omega
          clear hs hgl
          have HBM := Lib.hid fun (W1 : World) (L : List Asrt) (h : Sep W1 L) (h1 : BxA (w.heap.size + 1 + 1 + 1) #[.pointer (some ⟨w.heap.size + 1 + 1, 0, none⟩)] 107 ∈ L) (h2 : BxA w.heap.size #[.int .i64 t, .int .i64 k, .int .i64 nO, .slice sa t ta, .slice sb k tb, .slice sc t tc, .slice sd k td] 32 ∈ L) => show W1.cell? ⟨w.heap.size + 1 + 1 + 1, 0, none⟩ = some (.pointer (some ⟨w.heap.size + 1 + 1, 0, none⟩)) ∧ (W1.cell? ⟨w.heap.size, 3, none⟩ = some (.slice sa t ta) ∧ W1.cell? ⟨w.heap.size, 4, none⟩ = some (.slice sb k tb) ∧ W1.cell? ⟨w.heap.size, 5, none⟩ = some (.slice sc t tc) ∧ W1.cell? ⟨w.heap.size, 6, none⟩ = some (.slice sd k td)) from
            have q := bq1Z (show W1.heap[w.heap.size + 1 + 1 + 1]? = some (.cells #[.pointer (some ⟨w.heap.size + 1 + 1, 0, none⟩)] 107 (0, 0)) from Sep.all h _ h1)
            have q2 := bq7 (show W1.heap[w.heap.size]? = some (.cells #[.int .i64 t, .int .i64 k, .int .i64 nO, .slice sa t ta, .slice sb k tb, .slice sc t tc, .slice sd k td] 32 (0, 0)) from Sep.all h _ h2)
            ⟨q.1, q2.2.2.2.1, q2.2.2.2.2.1, q2.2.2.2.2.2.1, q2.2.2.2.2.2.2⟩
          have HJO := Lib.hid fun (v1 v2 : Value) (z1 z2 : List Int) W (h1 : IntsV W v1 z1) (h2 : IntsV W v2 z2) (hl : z1.length + z2.length ≤ 1000000) => show Calls Tryd.prog 79 #[.slice (some ⟨W.heap.size, 0, none⟩) 2 2] (W.alloc (.cells #[v1, v2] 27)) fun e w' => ∃ u, e = .returned u ∧ Sep w' [OI u (z1 ++ z2), KeepA (W.alloc (.cells #[v1, v2] 27))] from by
            have hj := joined_any (.slice (some ⟨W.heap.size, 0, none⟩) 2 2) [⟨v1, z1⟩, ⟨v2, z2⟩] _ (rdL_two h1 h2) (by simp) (by rw [joinL_two, List.length_append]; omega)
            rw [joinL_two] at hj
            exact hj
          have HJ1 := Lib.hid (HJO.out _ _ _ _ wr (OwnInts.read (show OwnInts 0 wr _ (natL k t) from HSR.out.tl.tl.hd)) (OwnInts.read (show OwnInts 0 wr _ (natL 0 k) from HSR.out.tl.tl.tl.hd)) (by rw [natL_len, natL_len]; omega))
          have hgz : natL k t ++ natL 0 k = gatesL t k := rfl
          rw [hgz] at HJ1
          clear hgz
          go_wp2_with (
            go_at_call 79
            with_reducible refine HJ1.out.mono ?_
            rintro e w2 ⟨u, rfl, hsg⟩
            obtain ⟨ua, uc, rfl⟩ := own_shape (show OwnInts 0 w2 _ (gatesL t k) from hsg.hd)
            have hs2 := (HSR.out.al _).graft1 hsg OI_own
            have HS2 := Lib.hid (Sep.blk3 (X := []) (A := [_]) (B := [_, _]) (Sep.cutA (X := [_, _, _, _]) (A := [_]) (hs2)))
            clear hsg hs2)
          clear HSR HJ1
          go_loopw [9, 10, 11, 49] (fun _ _ _ i wr => ∃ (j : Nat) (gv : Value), j ≤ t ∧ i = .int .i64 j ∧ Sep wr [BxA (w.heap.size + 1 + 1) #[.int .i64 k, gv, .slice none 0 0] 29, OR gateE gv (AL t k s j), OI (.slice ua (gatesL t k).length uc) (gatesL t k), OI (.slice ta2 t tc2) (natL k t), BxA (w.heap.size + 1 + 1 + 1) #[.pointer (some ⟨w.heap.size + 1 + 1, 0, none⟩)] 107, BxA (w.heap.size + 1) #[.int .i64 0, .slice none 0 0, .slice none 0 0] 29, BxA w.heap.size #[.int .i64 t, .int .i64 k, .int .i64 nO, .slice sa t ta, .slice sb k tb, .slice sc t tc, .slice sd k td] 32, KeepA w]) (fun _ _ _ i _ => t - (intOf i).toNat)
          case atStart => exact ⟨0, gv, by omega, rfl, HS2.out⟩
          case round =>
            obtain ⟨j, gv, hj, rfl, hs⟩ := hrel
            have HSR := Lib.hid hs
            clear HS2 hs
            by_cases hlt : j < t
            · have HLT := Lib.hid hlt
              have hki : (j : Int) < (t : Int) := by omega
              obtain ⟨tb2, htb⟩ := own_someZ (show OwnInts 0 wr (.slice ta2 t tc2) (natL k t) from HSR.out.tl.tl.tl.hd) (by rw [natL_len]; omega)
              subst htb
              have x0 := own_atZ (show OwnInts 0 wr (.slice (some ⟨tb2, 0, none⟩) t tc2) (natL k t) from HSR.out.tl.tl.tl.hd) (natL_len k t).symm (j := j) (by omega)
              rw [natL_at k hlt] at x0
              obtain ⟨d, hd⟩ : ∃ d, d = k + j := ⟨_, rfl⟩
              rw [← hd] at x0
              have HD0 := Lib.hid hd
              clear hd
              go_upto_region 17 with fail
              clear x0
              have HD := Lib.hid HSR.out.dr
              have X0 := Lib.hid (HBM.out _ _ HD.out (by simp) (by simp))
              refine AnyL.start (fun W1 => W1.cell? ⟨w.heap.size + 1 + 1 + 1, 0, none⟩ = some (.pointer (some ⟨w.heap.size + 1 + 1, 0, none⟩)) ∧ (W1.cell? ⟨w.heap.size, 3, none⟩ = some (.slice sa t ta) ∧ W1.cell? ⟨w.heap.size, 4, none⟩ = some (.slice sb k tb) ∧ W1.cell? ⟨w.heap.size, 5, none⟩ = some (.slice sc t tc) ∧ W1.cell? ⟨w.heap.size, 6, none⟩ = some (.slice sd k td))) (fun _ => True) 99 (by kernel_rfl) ?_
              refine AnyL.take (i := 0) (v := ?vx1) (by rfl) (by kernel_rfl) (by kernel_rfl) (by kernel_rfl) rfl (by exact fun _ _ _ h => h) (by rfl) ?hyx1 (by exact ⟨X0.out, fun _ => trivial⟩) ?restx1
              case hyx1 => intro W hSW; (try dsimp only at hSW); first | (go_simp; done) | (go_simp; with_reducible rfl)
              try simp only [Act.put, List.setIfInBounds_toArray, List.set_cons_zero, List.set_cons_succ]
              refine AnyL.take (i := 1) (v := ?vx2) (by rfl) (by kernel_rfl) (by kernel_rfl) (by kernel_rfl) rfl (by exact fun _ _ _ h => h) (by rfl) ?hyx2 (by exact ⟨X0.out, fun _ => trivial⟩) ?restx2
              case hyx2 => intro W hSW; (try dsimp only at hSW); first | (go_simp; done) | (go_simp; with_reducible rfl)
              try simp only [Act.put, List.setIfInBounds_toArray, List.set_cons_zero, List.set_cons_succ]
              refine AnyL.take (i := 2) (v := ?vx3) (by rfl) (by kernel_rfl) (by kernel_rfl) (by kernel_rfl) rfl (by exact fun _ _ _ h => h) (by rfl) ?hyx3 (by exact ⟨X0.out, fun _ => trivial⟩) ?restx3
              case hyx3 => intro W hSW; (try dsimp only at hSW); first | (go_simp; done) | (go_simp; with_reducible rfl)
              try simp only [Act.put, List.setIfInBounds_toArray, List.set_cons_zero, List.set_cons_succ]
              refine AnyL.take (i := 3) (v := ?vx4) (by rfl) (by kernel_rfl) (by kernel_rfl) (by kernel_rfl) rfl (by exact fun _ _ _ h => h) (by rfl) ?hyx4 (by exact ⟨X0.out, fun _ => trivial⟩) ?restx4
              case hyx4 => intro W hSW; (try dsimp only at hSW); first | (go_simp; done) | (go_simp; with_reducible rfl)
              try simp only [Act.put, List.setIfInBounds_toArray, List.set_cons_zero, List.set_cons_succ]
              refine AnyL.take (i := 4) (v := ?vx5) (by rfl) (by kernel_rfl) (by kernel_rfl) (by kernel_rfl) rfl (by exact fun _ _ _ h => h) (by rfl) ?hyx5 (by exact ⟨X0.out, fun _ => trivial⟩) ?restx5
              case hyx5 => intro W hSW; (try dsimp only at hSW); first | (go_simp; done) | (go_simp; with_reducible rfl)
              try simp only [Act.put, List.setIfInBounds_toArray, List.set_cons_zero, List.set_cons_succ]
              refine AnyL.take (i := 6) (v := ?vx6) (by rfl) (by kernel_rfl) (by kernel_rfl) (by kernel_rfl) rfl (by exact fun _ _ _ h => h) (by rfl) ?hyx6 (by exact ⟨X0.out, fun _ => trivial⟩) ?restx6
              case hyx6 => intro W hSW; (try dsimp only at hSW); first | (go_simp; done) | (go_simp; with_reducible rfl)
              try simp only [Act.put, List.setIfInBounds_toArray, List.set_cons_zero, List.set_cons_succ]
              refine AnyL.take (i := 7) (v := ?vx7) (by rfl) (by kernel_rfl) (by kernel_rfl) (by kernel_rfl) rfl (by exact fun _ _ _ h => h) (by rfl) ?hyx7 (by exact ⟨X0.out, fun _ => trivial⟩) ?restx7
              case hyx7 => intro W hSW; (try dsimp only at hSW); first | (go_simp; done) | (go_simp; with_reducible rfl)
              try simp only [Act.put, List.setIfInBounds_toArray, List.set_cons_zero, List.set_cons_succ]
              refine AnyL.take (i := 8) (v := ?vx8) (by rfl) (by kernel_rfl) (by kernel_rfl) (by kernel_rfl) rfl (by exact fun _ _ _ h => h) (by rfl) ?hyx8 (by exact ⟨X0.out, fun _ => trivial⟩) ?restx8
              case hyx8 => intro W hSW; (try dsimp only at hSW); first | (go_simp; done) | (go_simp; with_reducible rfl)
              try simp only [Act.put, List.setIfInBounds_toArray, List.set_cons_zero, List.set_cons_succ]
              refine AnyL.step (i := 5) (by kernel_rfl) (by rfl) (fun K hK => ?_)
              have hkE := (show w.grownBy _ none from HD.out.tl.tl.tl.tl.tl.tl.tl.hd)
              have HCE := Lib.hid (HEA.out j hlt _ hkE)
              clear hkE
              go_simp
              go_at_call 81
              with_reducible refine HCE.out.mono ?_
              rintro e w3 ⟨eA, fA, rfl, hsg⟩
              have H3 := Lib.hid (HD.out.graft1 hsg OI_own)
              clear hsg
              refine hK.out _ _ (by exact HBM.out _ _ H3.out (by simp) (by simp)) (by exact fun _ => trivial) ?_
              clear hK K
              try simp only [Act.put, List.setIfInBounds_toArray, List.set_cons_zero, List.set_cons_succ]
              refine AnyL.step (i := 9) (by kernel_rfl) (by rfl) (fun K hK => ?_)
              have hkE := (show w.grownBy _ none from H3.out.tl.tl.tl.tl.tl.tl.tl.tl.hd)
              have HCE := Lib.hid (HEB.out j hlt _ hkE)
              clear hkE
              go_simp
              go_at_call 81
              with_reducible refine HCE.out.mono ?_
              rintro e w4 ⟨eB, fB, rfl, hsg⟩
              have H4 := Lib.hid (H3.out.graft1 hsg OI_own)
              clear hsg
              refine hK.out _ _ (by exact HBM.out _ _ H4.out (by simp) (by simp)) (by exact fun _ => trivial) ?_
              clear hK K
              try simp only [Act.put, List.setIfInBounds_toArray, List.set_cons_zero, List.set_cons_succ]
              have YH4 := Lib.hid fun ob => HBM.out _ _ (H4.out.al ob) (by simp) (by simp)
              refine AnyL.step (i := 10) (by kernel_rfl) (by rfl) (fun K hK => ?_)
              go_simp
              refine hK.out _ _ (by exact YH4.out _) (by exact fun _ => trivial) ?_
              clear hK K
              try simp only [Act.put, List.setIfInBounds_toArray, List.set_cons_zero, List.set_cons_succ]
              refine AnyL.step (i := 11) (by kernel_rfl) (by rfl) (fun K hK => ?_)
              have HCJ := Lib.hid (HJO.out _ _ _ _ w4 (OwnInts.read (show OwnInts 0 w4 (.slice eA t fA) (colL s.A j) from H4.out.tl.hd)) (OwnInts.read (show OwnInts 0 w4 (.slice eB k fB) (colL s.B j) from H4.out.hd)) (by rw [HLA.out, HLB.out]; omega))
              go_simp
              go_at_call 79
              with_reducible refine HCJ.out.mono ?_
              rintro e w5 ⟨u2, rfl, hsg⟩
              obtain ⟨va, vc, rfl⟩ := own_shape (show OwnInts 0 w5 _ (colL s.A j ++ colL s.B j) from hsg.hd)
              have hlz : (colL s.A j ++ colL s.B j).length = t + k := by rw [List.length_append, HLA.out, HLB.out]
              rw [hlz] at hsg ⊢
              clear hlz
              have hs := (H4.out.al _).graft1 hsg OI_own
              have H5 := Lib.hid (Sep.blk3 (X := []) (A := [_]) (B := [_, _, _]) (Sep.cutA (X := [_]) (A := [_]) (Sep.cutA (X := [_]) (A := [_]) (hs))))
              clear hsg hs
              refine hK.out _ _ (by exact HBM.out _ _ H5.out (by simp) (by simp)) (by exact fun _ => trivial) ?_
              clear hK K
              try simp only [Act.put, List.setIfInBounds_toArray, List.set_cons_zero, List.set_cons_succ]
              refine AnyL.step (i := 12) (by kernel_rfl) (by rfl) (fun K hK => ?_)
              have HCS := Lib.hid (HSM.out gv (.slice none 0 0) _ _ (AL t k s j) (gatesL t k) (colL s.A j ++ colL s.B j) _ _ (by have := (HAL.out j).1; omega) (by rw [gatesL_len, List.length_append, HLA.out, HLB.out]) (by rw [List.length_append, HLA.out, HLB.out]; omega) H5.out)
              go_simp
              go_at_call 80
              with_reducible refine HCS.out.mono ?_
              rintro e w6 ⟨gv2, rfl, hs6⟩
              have H6 := Lib.hid (Sep.cutA (X := [_, _, _]) (A := [_]) (hs6))
              clear hs6
              refine hK.out _ _ (by exact HBM.out _ _ H6.out (by simp) (by simp)) (by exact fun _ => trivial) ?_
              clear hK K
              try simp only [Act.put, List.setIfInBounds_toArray, List.set_cons_zero, List.set_cons_succ]
              refine AnyL.take (i := 13) (v := ?vx9) (by rfl) (by kernel_rfl) (by kernel_rfl) (by kernel_rfl) rfl (by exact fun _ _ _ h => h) (by rfl) ?hyx9 (by exact ⟨HBM.out _ _ H6.out (by simp) (by simp), fun _ => trivial⟩) ?restx9
              case hyx9 => intro W hSW; (try dsimp only at hSW); first | (go_simp; done) | (go_simp; with_reducible rfl)
              try simp only [Act.put, List.setIfInBounds_toArray, List.set_cons_zero, List.set_cons_succ]
              refine AnyL.done (by kernel_rfl) ?_ _
              have HSC := Lib.hid (show AL t k s (j + 1) = setA (sumG (AL t k s j) ((gatesL t k).zip (colL s.A j ++ colL s.B j))).1 (k + j) (sumG (AL t k s j) ((gatesL t k).zip (colL s.A j ++ colL s.B j))).2 from rfl)
              have HLN := Lib.hid (show k + t ≤ (sumG (AL t k s j) ((gatesL t k).zip (colL s.A j ++ colL s.B j))).1.length from by have h1 := (HAL.out j).2; have h2 := (sumG_len (AL t k s j) ((gatesL t k).zip (colL s.A j ++ colL s.B j))).2; omega)
              clear X0 HD H3 H4 H5 YH4 HSR
              generalize sumG (AL t k s j) ((gatesL t k).zip (colL s.A j ++ colL s.B j)) = r at *
              obtain ⟨r1, r2⟩ := r
              simp only at *
              have hdl : d < r1.length := by have := HD0.out; have := HLN.out; omega
              obtain ⟨gb, gcap, hge, _, _, _⟩ := OwnR.parts (show OwnR gateE 0 w6 gv2 r1 from H6.out.tl.hd) (by omega)
              subst hge
              obtain ⟨m0, m1, m2, _⟩ := bx3 H6.out.hd
              have n1 := (gate_cells (show OwnR gateE 0 w6 _ r1 from H6.out.tl.hd) rfl hdl).2.1
              have n2 := (gate_free (show OwnR gateE 0 w6 _ r1 from H6.out.tl.hd) rfl d).2.1
              have H7 := Lib.hid (Sep.blk (A := [_]) (B := [_]) ((Sep.blk (A := [_]) (B := [_]) H6.out).setAA rfl hdl r2))
              have hdi : (d : Int) < (r1.length : Int) := by omega
              generalize (r1.getD d g0).a = old at n1
              go_wp2_with fail
              go_roundw
              case rel => exact ⟨j + 1, _, HLT.out, by go_num, by rw [HSC.out, ← HD0.out]; exact H7.out⟩
              case measure => simp [intOf]; omega
            · have hjt : j = t := by omega
              subst hjt
              have hki : ¬ (j : Int) < (j : Int) := by omega
              have HS3 := Lib.hid (Sep.blk3 (X := []) (A := [_]) (B := [_, _, _]) (Sep.nilI (Sep.cutA (X := [_, _, _]) (A := [_]) (HSR.out))))
              obtain ⟨x0, x1, x2, x3, x4, x5, x6⟩ := bq7 HSR.out.tl.tl.tl.tl.tl.tl.hd
              clear HSR
              go_wp2_with fail
              clear x0 x1 x2 x3 x4 x5 x6
              go_loopw [12, 76] (fun _ i wr => ∃ (m : Nat) (gv ov : Value), m ≤ nO ∧ i = .int .i64 m ∧ Sep wr [BxA (w.heap.size + 1 + 1) #[.int .i64 k, gv, ov] 29, OR gateE gv (CL j k s m).1, OI (.slice ua (gatesL j k).length uc) (gatesL j k), OI ov (CL j k s m).2, BxA (w.heap.size + 1 + 1 + 1) #[.pointer (some ⟨w.heap.size + 1 + 1, 0, none⟩)] 107, BxA (w.heap.size + 1) #[.int .i64 0, .slice none 0 0, .slice none 0 0] 29, BxA w.heap.size #[.int .i64 j, .int .i64 k, .int .i64 nO, .slice sa j ta, .slice sb k tb, .slice sc j tc, .slice sd k td] 32, KeepA w]) (fun _ i _ => nO - (intOf i).toNat)
              case atStart => exact ⟨0, gv, .slice none 0 0, by omega, rfl, HS3.out⟩
              case round =>
                obtain ⟨m, gv, ov, hm, rfl, hs⟩ := hrel
                have HSR := Lib.hid hs
                clear HS3 hs
                by_cases hlt : m < nO
                · have HLT := Lib.hid hlt
                  have hki : (m : Int) < (nO : Int) := by omega
                  go_upto_region 23 with fail
                  have HD := Lib.hid HSR.out.dr
                  have X0 := Lib.hid (HBM.out _ _ HD.out (by simp) (by simp))
                  have Z0 := Lib.hid ((bx3 HD.out.hd).2.2.1)
                  refine AnyL.start (fun W1 => W1.cell? ⟨w.heap.size + 1 + 1 + 1, 0, none⟩ = some (.pointer (some ⟨w.heap.size + 1 + 1, 0, none⟩)) ∧ (W1.cell? ⟨w.heap.size, 3, none⟩ = some (.slice sa j ta) ∧ W1.cell? ⟨w.heap.size, 4, none⟩ = some (.slice sb k tb) ∧ W1.cell? ⟨w.heap.size, 5, none⟩ = some (.slice sc j tc) ∧ W1.cell? ⟨w.heap.size, 6, none⟩ = some (.slice sd k td))) (fun W1 => W1.cell? ⟨w.heap.size + 1 + 1, 2, none⟩ = some ov) 18 (by kernel_rfl) ?_
                  refine AnyL.take (i := 0) (v := ?vx10) (by rfl) (by kernel_rfl) (by kernel_rfl) (by kernel_rfl) rfl (by exact fun _ _ _ h => h) (by rfl) ?hyx10 (by exact ⟨X0.out, fun _ => Z0.out⟩) ?restx10
                  case hyx10 => intro W hSW; (try dsimp only at hSW); first | (go_simp; done) | (go_simp; with_reducible rfl)
                  try simp only [Act.put, List.setIfInBounds_toArray, List.set_cons_zero, List.set_cons_succ]
                  refine AnyL.takeA (i := 1) (v := ?vx11) (by rfl) (by kernel_rfl) (by kernel_rfl) (by kernel_rfl) rfl (by rfl) (by kernel_rfl) (by kernel_rfl) (by exact fun _ _ _ h => h) (by rfl) ?hyx11 (by exact ⟨X0.out, fun _ => Z0.out⟩) ?restx11
                  case hyx11 => intro W hSW; (try dsimp only at hSW); first | (go_simp; done) | (go_simp; with_reducible rfl)
                  try simp only [Act.put, List.setIfInBounds_toArray, List.set_cons_zero, List.set_cons_succ]
                  refine AnyL.take (i := 2) (v := ?vx12) (by rfl) (by kernel_rfl) (by kernel_rfl) (by kernel_rfl) rfl (by exact fun _ _ _ h => h) (by rfl) ?hyx12 (by exact ⟨X0.out, fun _ => Z0.out⟩) ?restx12
                  case hyx12 => intro W hSW; (try dsimp only at hSW); first | (go_simp; done) | (go_simp; with_reducible rfl)
                  try simp only [Act.put, List.setIfInBounds_toArray, List.set_cons_zero, List.set_cons_succ]
                  refine AnyL.take (i := 3) (v := ?vx13) (by rfl) (by kernel_rfl) (by kernel_rfl) (by kernel_rfl) rfl (by exact fun _ _ _ h => h) (by rfl) ?hyx13 (by exact ⟨X0.out, fun _ => Z0.out⟩) ?restx13
                  case hyx13 => intro W hSW; (try dsimp only at hSW); first | (go_simp; done) | (go_simp; with_reducible rfl)
                  try simp only [Act.put, List.setIfInBounds_toArray, List.set_cons_zero, List.set_cons_succ]
                  refine AnyL.take (i := 4) (v := ?vx14) (by rfl) (by kernel_rfl) (by kernel_rfl) (by kernel_rfl) rfl (by exact fun _ _ _ h => h) (by rfl) ?hyx14 (by exact ⟨X0.out, fun _ => Z0.out⟩) ?restx14
                  case hyx14 => intro W hSW; (try dsimp only at hSW); first | (go_simp; done) | (go_simp; with_reducible rfl)
                  try simp only [Act.put, List.setIfInBounds_toArray, List.set_cons_zero, List.set_cons_succ]
                  refine AnyL.take (i := 5) (v := ?vx15) (by rfl) (by kernel_rfl) (by kernel_rfl) (by kernel_rfl) rfl (by exact fun _ _ _ h => h) (by rfl) ?hyx15 (by exact ⟨X0.out, fun _ => Z0.out⟩) ?restx15
                  case hyx15 => intro W hSW; (try dsimp only at hSW); first | (go_simp; done) | (go_simp; with_reducible rfl)
                  try simp only [Act.put, List.setIfInBounds_toArray, List.set_cons_zero, List.set_cons_succ]
                  refine AnyL.take (i := 6) (v := ?vx16) (by rfl) (by kernel_rfl) (by kernel_rfl) (by kernel_rfl) rfl (by exact fun _ _ _ h => h) (by rfl) ?hyx16 (by exact ⟨X0.out, fun _ => Z0.out⟩) ?restx16
                  case hyx16 => intro W hSW; (try dsimp only at hSW); first | (go_simp; done) | (go_simp; with_reducible rfl)
                  try simp only [Act.put, List.setIfInBounds_toArray, List.set_cons_zero, List.set_cons_succ]
                  refine AnyL.take (i := 8) (v := ?vx17) (by rfl) (by kernel_rfl) (by kernel_rfl) (by kernel_rfl) rfl (by exact fun _ _ _ h => h) (by rfl) ?hyx17 (by exact ⟨X0.out, fun _ => Z0.out⟩) ?restx17
                  case hyx17 => intro W hSW; (try dsimp only at hSW); first | (go_simp; done) | (go_simp; with_reducible rfl)
                  try simp only [Act.put, List.setIfInBounds_toArray, List.set_cons_zero, List.set_cons_succ]
                  refine AnyL.take (i := 9) (v := ?vx18) (by rfl) (by kernel_rfl) (by kernel_rfl) (by kernel_rfl) rfl (by exact fun _ _ _ h => h) (by rfl) ?hyx18 (by exact ⟨X0.out, fun _ => Z0.out⟩) ?restx18
                  case hyx18 => intro W hSW; (try dsimp only at hSW); first | (go_simp; done) | (go_simp; with_reducible rfl)
                  try simp only [Act.put, List.setIfInBounds_toArray, List.set_cons_zero, List.set_cons_succ]
                  refine AnyL.take (i := 10) (v := ?vx19) (by rfl) (by kernel_rfl) (by kernel_rfl) (by kernel_rfl) rfl (by exact fun _ _ _ h => h) (by rfl) ?hyx19 (by exact ⟨X0.out, fun _ => Z0.out⟩) ?restx19
                  case hyx19 => intro W hSW; (try dsimp only at hSW); first | (go_simp; done) | (go_simp; with_reducible rfl)
                  try simp only [Act.put, List.setIfInBounds_toArray, List.set_cons_zero, List.set_cons_succ]
                  refine AnyL.step (i := 7) (by kernel_rfl) (by rfl) (fun K hK => ?_)
                  have hkE := (show w.grownBy _ none from HD.out.tl.tl.tl.tl.tl.tl.tl.hd)
                  have HCE := Lib.hid (HEC.out m hlt _ hkE)
                  clear hkE
                  go_simp
                  go_at_call 81
                  with_reducible refine HCE.out.mono ?_
                  rintro e w3 ⟨eC, fC, rfl, hsg⟩
                  have H3 := Lib.hid (HD.out.graft1 hsg OI_own)
                  clear hsg
                  refine hK.out _ _ (by exact HBM.out _ _ H3.out (by simp) (by simp)) (by exact fun _ => (bx3 H3.out.tl.hd).2.2.1) ?_
                  clear hK K
                  try simp only [Act.put, List.setIfInBounds_toArray, List.set_cons_zero, List.set_cons_succ]
                  refine AnyL.step (i := 11) (by kernel_rfl) (by rfl) (fun K hK => ?_)
                  have hkE := (show w.grownBy _ none from H3.out.tl.tl.tl.tl.tl.tl.tl.tl.hd)
                  have HCE := Lib.hid (HED.out m hlt _ hkE)
                  clear hkE
                  go_simp
                  go_at_call 81
                  with_reducible refine HCE.out.mono ?_
                  rintro e w4 ⟨eD, fD, rfl, hsg⟩
                  have H4 := Lib.hid (H3.out.graft1 hsg OI_own)
                  clear hsg
                  refine hK.out _ _ (by exact HBM.out _ _ H4.out (by simp) (by simp)) (by exact fun _ => (bx3 H4.out.tl.tl.hd).2.2.1) ?_
                  clear hK K
                  try simp only [Act.put, List.setIfInBounds_toArray, List.set_cons_zero, List.set_cons_succ]
                  have YH4 := Lib.hid fun ob => HBM.out _ _ (H4.out.al ob) (by simp) (by simp)
                  have ZH4 := Lib.hid fun ob => (bx3 (H4.out.al ob).tl.tl.hd).2.2.1
                  refine AnyL.step (i := 12) (by kernel_rfl) (by rfl) (fun K hK => ?_)
                  go_simp
                  refine hK.out _ _ (by exact YH4.out _) (by exact fun _ => ZH4.out _) ?_
                  clear hK K
                  try simp only [Act.put, List.setIfInBounds_toArray, List.set_cons_zero, List.set_cons_succ]
                  refine AnyL.step (i := 13) (by kernel_rfl) (by rfl) (fun K hK => ?_)
                  have HCJ := Lib.hid (HJO.out _ _ _ _ w4 (OwnInts.read (show OwnInts 0 w4 (.slice eC j fC) (colL s.C m) from H4.out.tl.hd)) (OwnInts.read (show OwnInts 0 w4 (.slice eD k fD) (colL s.D m) from H4.out.hd)) (by rw [HLC.out, HLD.out]; omega))
                  go_simp
                  go_at_call 79
                  with_reducible refine HCJ.out.mono ?_
                  rintro e w5 ⟨u2, rfl, hsg⟩
                  obtain ⟨va, vc, rfl⟩ := own_shape (show OwnInts 0 w5 _ (colL s.C m ++ colL s.D m) from hsg.hd)
                  have hlz : (colL s.C m ++ colL s.D m).length = j + k := by rw [List.length_append, HLC.out, HLD.out]
                  rw [hlz] at hsg ⊢
                  clear hlz
                  have hs := (H4.out.al _).graft1 hsg OI_own
                  have H5 := Lib.hid (Sep.blk3 (X := []) (A := [_]) (B := [_, _, _]) (Sep.cutA (X := [_]) (A := [_]) (Sep.cutA (X := [_]) (A := [_]) (hs))))
                  clear hsg hs
                  refine hK.out _ _ (by exact HBM.out _ _ H5.out (by simp) (by simp)) (by exact fun _ => (bx3 H5.out.hd).2.2.1) ?_
                  clear hK K
                  try simp only [Act.put, List.setIfInBounds_toArray, List.set_cons_zero, List.set_cons_succ]
                  refine AnyL.step (i := 14) (by kernel_rfl) (by rfl) (fun K hK => ?_)
                  have HCS := Lib.hid (HSM.out gv ov _ _ (CL j k s m).1 (gatesL j k) (colL s.C m ++ colL s.D m) _ _ (by have := (HCL.out m).1; omega) (by rw [gatesL_len, List.length_append, HLC.out, HLD.out]) (by rw [List.length_append, HLC.out, HLD.out]; omega) H5.out)
                  go_simp
                  go_at_call 80
                  with_reducible refine HCS.out.mono ?_
                  rintro e w6 ⟨gv2, rfl, hs6⟩
                  have H6 := Lib.hid (Sep.cutA (X := [_, _, _]) (A := [_]) (hs6))
                  clear hs6
                  refine hK.out _ _ (by exact HBM.out _ _ H6.out (by simp) (by simp)) (by exact fun _ => (bx3 H6.out.hd).2.2.1) ?_
                  clear hK K
                  try simp only [Act.put, List.setIfInBounds_toArray, List.set_cons_zero, List.set_cons_succ]
                  have Y6 := Lib.hid fun ob => HBM.out _ _ (H6.out.al ob) (by simp) (by simp)
                  have Z6 := Lib.hid fun ob => (bx3 (H6.out.al ob).hd).2.2.1
                  refine AnyL.step (i := 15) (by kernel_rfl) (by rfl) (fun K hK => ?_)
                  go_simp
                  refine hK.out _ _ (by exact Y6.out _) (by exact fun _ => Z6.out _) ?_
                  clear hK K
                  try simp only [Act.put, List.setIfInBounds_toArray, List.set_cons_zero, List.set_cons_succ]
                  have HQ := Lib.hid (Sep.blk (A := [_, _, _]) (B := [_]) (H6.out))
                  have HOL := Lib.hid (show (CL j k s m).2.length ≤ 1000000000 from by have := (HCL.out m).2; omega)
                  refine AnyL.step (i := 16) (by kernel_rfl) (by rfl) (fun K hK => ?_)
                  refine step_app_intZ rfl (.tmp 80) (.tmp 94) rfl rfl rfl rfl HQ.out HOL.out ?_
                  intro g c7 w7 h7
                  have H7 := Lib.hid (Sep.blk3 (X := []) (A := [_]) (B := [_, _, _]) h7)
                  have Z7 := Lib.hid (bx3 H7.out.hd)
                  clear h7
                  refine hK.out _ _ (by exact HBM.out _ _ H7.out (by simp) (by simp)) (by exact fun _ => Z7.out.2.2.1) ?_
                  clear hK K
                  try simp only [Act.put, List.setIfInBounds_toArray, List.set_cons_zero, List.set_cons_succ]
                  refine AnyL.take (i := 17) (v := ?vx20) (by rfl) (by kernel_rfl) (by kernel_rfl) (by kernel_rfl) rfl (by exact fun _ _ _ h => h) (by rfl) ?hyx20 (by exact ⟨HBM.out _ _ H7.out (by simp) (by simp), fun _ => Z7.out.2.2.1⟩) ?restx20
                  case hyx20 => intro W hSW; (try dsimp only at hSW); first | (go_simp; done) | (go_simp; with_reducible rfl)
                  try simp only [Act.put, List.setIfInBounds_toArray, List.set_cons_zero, List.set_cons_succ]
                  have H8 := Lib.hid (H7.out.setB 2 (.slice (some ⟨g, 0, none⟩) ((CL j k s m).2.length + 1) c7))
                  obtain ⟨_, _, z1, _, _, z2⟩ := Z7.out
                  refine AnyL.step (i := 18) (by kernel_rfl) (by rfl) (fun K hK => ?_)
                  go_simp
                  refine hK.out _ (w7.setCell ⟨w.heap.size + 1 + 1, 2, none⟩ (.slice (some ⟨g, 0, none⟩) ((CL j k s m).2.length + 1) c7)) (by exact HBM.out _ _ H8.out (by simp) (by simp)) (by exact fun h => by cases h) ?_
                  clear hK K
                  try simp only [Act.put, List.setIfInBounds_toArray, List.set_cons_zero, List.set_cons_succ]
                  refine AnyL.done (by kernel_rfl) ?_ _
                  clear X0 Z0 HD H3 H4 H5 YH4 ZH4 Y6 Z6 Z7 HSR HQ z1 z2
                  go_wp2_with fail
                  go_roundw
                  case rel => exact ⟨m + 1, gv2, _, HLT.out, by go_num, H8.out⟩
                  case measure => simp [intOf]; omega
                · have hmo : m = nO := by omega
                  subst hmo
                  have hki : ¬ (m : Int) < (m : Int) := by omega
                  obtain ⟨ga, gc, rfl⟩ := OwnR.shape (show OwnR gateE 0 wr gv (CL j k s m).1 from HSR.out.tl.hd)
                  obtain ⟨oa, oc, rfl⟩ := own_shape (show OwnInts 0 wr ov (CL j k s m).2 from HSR.out.tl.tl.tl.hd)
                  obtain ⟨m0, m1, m2, _⟩ := bx3 HSR.out.hd
                  obtain ⟨_, _, _, f0, f1, f2⟩ := bx3 HSR.out.tl.tl.tl.tl.tl.hd
                  have H9 := Lib.hid ((((Sep.blk (A := [_, _, _, _, _]) (B := [_]) HSR.out).setB 0 (.int .i64 k)).setB 1 (.slice ga (CL j k s m).1.length gc)).setB 2 (.slice oa (CL j k s m).2.length oc))
                  obtain ⟨g0, g1, g2, _⟩ := bx3 H9.out.hd
                  have HF := Lib.hid (Sep.cutA (X := [_, _]) (A := [_, _]) (Sep.cutA (X := [_]) (A := [_]) H9.out.tl.tl))
                  clear HSR
                  go_wp2_with fail
                  generalize ((wr.setCell { block := w.heap.size + 1, off := 0 } (Value.int IntKind.i64 (k : Int))).setCell { block := w.heap.size + 1, off := 1 } (Value.slice ga (CL j k s m).fst.length gc)).setCell { block := w.heap.size + 1, off := 2 } (Value.slice oa (CL j k s m).snd.length oc) = w9 at *
                  refine bodyPost_ret_by (v := .agg #[.int .i64 k, .slice ga (CL j k s m).1.length gc, .slice oa (CL j k s m).2.length oc]) ?_ rfl ⟨_, _, _, _, rfl, HF.out⟩
                  simp [results, go_sem, *]
end Go.Proofs.YtghfifpicklonaaDoor

/-
  The circuit of a state space, in the second writing. Conditions: the state space is valid.
-/
namespace Go.Proofs.YtghfifpicklonaaDoor
open Go.RowKit
set_option linter.unusedVariables false
set_option maxRecDepth 100000

set_option maxHeartbeats 4000000 in
theorem coefs_any (v1 v2 : Value) (M1 M2 : List (List Int)) (j : Nat) (w : World) (hv1 : RdS w v1 M1) (hv2 : RdS w v2 M2) (hl1 : M1.length ≤ 1000000) (hl2 : M2.length ≤ 1000000) (hj1 : ∀ r ∈ M1, j < r.length) (hj2 : ∀ r ∈ M2, j < r.length) :
    Calls Tryd.prog 72 #[v1, v2, .int .i64 j] w fun e w' => ∃ u, e = .returned u ∧ Sep w' [OI u (colL M2 j ++ colL M1 j), KeepA w] := by
  have HV1 := Lib.hid hv1; have HJ1 := Lib.hid hj1
  have HV2 := Lib.hid hv2; have HJ2 := Lib.hid hj2
  obtain ⟨a, cp, rfl⟩ := hv1.shape
  obtain ⟨a2, cp2, rfl⟩ := hv2.shape
  generalize hlz : M1.length = m1 at *
  have HL1 := Lib.hid hlz
  clear hlz
  generalize hlz : M2.length = m2 at *
  have HL2 := Lib.hid hlz
  have HC2 := Lib.hid (show (colL M2 j).length = m2 from by rw [colL_len]; exact hlz)
  have HS0 := Lib.hid (Sep.start w).nilI
  clear hv1 hv2 hlz hj1 hj2
  go_enter Tryd.func72, Tryd.ntmps72
  go_wp2_with fail
  go_loopw [7, 9, 14] (fun ov _ i wr => ∃ k : Nat, k ≤ m2 ∧ i = .int .i64 k ∧ Sep wr [OI ov (colL (M2.take k) j), KeepA w]) (fun _ _ i _ => m2 - (intOf i).toNat)
  case atStart => exact ⟨0, by omega, rfl, HS0.out⟩
  case round =>
    obtain ⟨k, hk, rfl, hs⟩ := hrel
    obtain ⟨oa, oc, rfl⟩ := own_shape (show OwnInts 0 wr _ (colL (M2.take k) j) from hs.hd)
    have HSR := Lib.hid hs
    have hcl : (colL (M2.take k) j).length = k := by simp only [colL_len, List.length_take, HL2.out]; omega
    rw [hcl] at HSR ⊢
    have HCL := Lib.hid hcl
    clear hs HS0 hcl
    by_cases hlt : k < m2
    · have hkz : k < M2.length := by rw [HL2.out]; exact hlt
      obtain ⟨b, o, rv, rfl, _, x0, hr⟩ := (HV2.out.carry HSR.out.tl.hd).at hkz
      have hjr := HJ2.out _ (gm hkz)
      obtain ⟨ra, rc, rfl⟩ := hr.shape
      obtain ⟨b2, o2, rfl, _, y0⟩ := hr.atD hjr
      have hji : (j : Int) < ((M2.getD k []).length : Int) := by omega
      have hki : (k : Int) < (m2 : Int) := by omega
      have HT := Lib.hid (colL_take (j := j) hkz)
      generalize (M2.getD k []).length = ln at *
      generalize (M2.getD k []).getD j 0 = y at *
      clear hr hkz
      go_wp2_with (
        at_builtin
        go_loud (
          refine app_intS rfl _ _ rfl rfl rfl HSR.out (by rw [HCL.out]; omega) ?_
          intro g c3 w3 h3
          have HS3 := Lib.hid h3
          clear h3 x0 y0))
      go_roundw
      case rel => exact ⟨k + 1, by omega, by go_num, by rw [HT.out]; have h := HS3.out; rw [HCL.out] at h; rw [HCL.out]; exact h⟩
      case measure => simp [intOf]; omega
    · have hkm : m2 = k := by omega
      subst hkm
      have hs := HSR.out
      rw [List.take_of_length_le (by rw [HL2.out]; exact Nat.le_refl _)] at hs
      have HF := Lib.hid hs
      have hki : ¬ (m2 : Int) < (m2 : Int) := by omega
      clear hs HSR HCL
      go_wp2_with fail
      go_loopw [7, 11, 28] (fun ov _ i wr => ∃ k : Nat, k ≤ m1 ∧ i = .int .i64 k ∧ Sep wr [OI ov (colL M2 j ++ colL (M1.take k) j), KeepA w]) (fun _ _ i _ => m1 - (intOf i).toNat)
      case atStart => exact ⟨0, by omega, rfl, by show Sep wr [OI _ (colL M2 j ++ []), KeepA w]; rw [List.append_nil]; exact HF.out⟩
      case round =>
        obtain ⟨k, hk, rfl, hs⟩ := hrel
        obtain ⟨oa, oc, rfl⟩ := own_shape (show OwnInts 0 wr _ (colL M2 j ++ colL (M1.take k) j) from hs.hd)
        have HSR := Lib.hid hs
        have hcl : (colL M2 j ++ colL (M1.take k) j).length = m2 + k := by rw [List.length_append, HC2.out, colL_len, List.length_take, HL1.out]; omega
        rw [hcl] at HSR ⊢
        have HCL := Lib.hid hcl
        clear hs hcl HF
        by_cases hlt : k < m1
        · have hkz : k < M1.length := by rw [HL1.out]; exact hlt
          obtain ⟨b, o, rv, rfl, _, x0, hr⟩ := (HV1.out.carry HSR.out.tl.hd).at hkz
          have hjr := HJ1.out _ (gm hkz)
          obtain ⟨ra, rc, rfl⟩ := hr.shape
          obtain ⟨b2, o2, rfl, _, y0⟩ := hr.atD hjr
          have hji : (j : Int) < ((M1.getD k []).length : Int) := by omega
          have hki : (k : Int) < (m1 : Int) := by omega
          have HT := Lib.hid (colL_take (j := j) hkz)
          generalize (M1.getD k []).length = ln at *
          generalize (M1.getD k []).getD j 0 = y at *
          clear hr hkz
          go_wp2_with (
            at_builtin
            go_loud (
              refine app_intS rfl _ _ rfl rfl rfl HSR.out (by rw [HCL.out]; omega) ?_
              intro g c3 w3 h3
              have HS3 := Lib.hid h3
              clear h3 x0 y0))
          go_roundw
          case rel => exact ⟨k + 1, by omega, by go_num, by rw [HT.out]; rw [← List.append_assoc]; have h := HS3.out; rw [HCL.out] at h; first | exact h | (rw [HCL.out]; exact h) | (rw [← List.length_append, HCL.out]; exact h)⟩
          case measure => simp [intOf]; omega
        · have hkm : k = m1 := by omega
          subst hkm
          have hs := HSR.out
          rw [List.take_of_length_le (by rw [HL1.out]; exact Nat.le_refl _)] at hs
          have HF := Lib.hid hs
          have hki : ¬ (k : Int) < (k : Int) := by omega
          clear hs
          go_wp2_with fail
          go_ret
          exact ⟨_, rfl, HF.out⟩
end Go.Proofs.YtghfifpicklonaaDoor

/-
  A sum of gates, in the second writing. Conditions: lengths are small.
-/
namespace Go.Proofs.YtghfifpicklonaaDoor
open Go.RowKit
set_option linter.unusedVariables false
set_option maxRecDepth 100000

/-- The gates and their coefficients, in the order in which they are added. -/
def ordP (nI : Nat) (cs : List Int) (k : Nat) : List (Int × Int) := (List.range k).map fun n => ((((n + nI) % cs.length : Nat) : Int), cs.getD ((n + nI) % cs.length) 0)
theorem ordP_succ (nI : Nat) (cs : List Int) (k : Nat) : ordP nI cs (k + 1) = ordP nI cs k ++ [((((k + nI) % cs.length : Nat) : Int), cs.getD ((k + nI) % cs.length) 0)] := by simp [ordP, List.range_succ]
theorem ordP_len (nI : Nat) (cs : List Int) (k : Nat) : (ordP nI cs k).length = k := by simp [ordP]
theorem ordP_get (nI : Nat) (cs : List Int) (k n : Nat) (h : n < (ordP nI cs k).length) : (ordP nI cs k)[n] = ((((n + nI) % cs.length : Nat) : Int), cs.getD ((n + nI) % cs.length) 0) := by simp [ordP]
theorem prs_get (nS nI : Nat) (M N : List (List Int)) (j n : Nat) (h : n < (prsL nS nI M N j).length) (h1 : n < (gatesL nS nI).length) (h2 : n < (colL M j ++ colL N j).length) : (prsL nS nI M N j)[n] = ((gatesL nS nI)[n], (colL M j ++ colL N j)[n]) := List.getElem_zip
theorem ordP_eq {nS nI : Nat} {M N : List (List Int)} (j : Nat) (hM : M.length = nS) (hN : N.length = nI) : ordP nI (colL N j ++ colL M j) (nI + nS) = prsL nS nI M N j := by
  have e1 : (colL N j).length = nI := by rw [colL_len, hN]
  have e2 : (colL M j).length = nS := by rw [colL_len, hM]
  have e3 : (colL N j ++ colL M j).length = nI + nS := by rw [List.length_append, e1, e2]
  have e4 : (colL M j ++ colL N j).length = nS + nI := by rw [List.length_append, e1, e2]
  refine List.ext_getElem (by rw [ordP_len, prsL, List.length_zip, gatesL_len, e4]; omega) fun n h1 h2 => ?_
  rw [ordP_len] at h1
  have hgl : n < (gatesL nS nI).length := by rw [gatesL_len]; omega
  rw [ordP_get, prs_get _ _ _ _ _ n h2 (by rw [gatesL_len]; omega) (by rw [e4]; omega)]
  simp only [e3]
  by_cases hn : n < nS
  · have hd : (n + nI) % (nI + nS) = nI + n := by rw [Nat.mod_eq_of_lt (by omega)]; omega
    rw [hd, List.getElem_append_left (by omega : n < (colL M j).length)]
    refine Prod.ext ?_ ?_
    · show ((nI + n : Nat) : Int) = (gatesL nS nI)[n]
      have h := natL_at nI hn
      rw [List.getD_eq_getElem?_getD, List.getElem?_eq_getElem (by rw [natL_len]; exact hn)] at h
      show ((nI + n : Nat) : Int) = (natL nI nS ++ natL 0 nI)[n]'(by rw [List.length_append, natL_len, natL_len]; omega)
      rw [List.getElem_append_left (by rw [natL_len]; exact hn)]
      exact h.symm
    · show (colL N j ++ colL M j).getD (nI + n) 0 = (colL M j)[n]
      rw [List.getD_eq_getElem?_getD, List.getElem?_append_right (by omega), e1, Nat.add_sub_cancel_left, List.getElem?_eq_getElem (by omega)]
      rfl
  · have hd : (n + nI) % (nI + nS) = n - nS := by
      have : n + nI = (n - nS) + (nI + nS) := by omega
      rw [this, Nat.add_mod_right, Nat.mod_eq_of_lt (by omega)]
    rw [hd, List.getElem_append_right (by omega : (colL M j).length ≤ n)]
    refine Prod.ext ?_ ?_
    · show ((n - nS : Nat) : Int) = (gatesL nS nI)[n]
      have h := natL_at 0 (show n - nS < nI by omega)
      rw [List.getD_eq_getElem?_getD, List.getElem?_eq_getElem (by rw [natL_len]; omega)] at h
      show ((n - nS : Nat) : Int) = (natL nI nS ++ natL 0 nI)[n]'(by rw [List.length_append, natL_len, natL_len]; omega)
      rw [List.getElem_append_right (by rw [natL_len]; omega)]
      simp only [natL_len]
      rw [Nat.zero_add] at h
      exact h.symm
    · show (colL N j ++ colL M j).getD (n - nS) 0 = (colL N j)[n - (colL M j).length]
      rw [List.getD_eq_getElem?_getD, List.getElem?_append_left (by omega), List.getElem?_eq_getElem (by omega)]
      simp only [e2]
      rfl
/-- What adding a sum hands back. -/
def OrdR (I : Int) (ov : Value) (r : List Gt × Int) (l : List Asrt) (e : Ending) (w' : World) : Prop :=
  ∃ gv', e = .returned (.tuple #[.agg #[.int .i64 I, gv', ov], .int .i64 r.2]) ∧ Sep w' (OR gateE gv' r.1 :: l)
set_option maxHeartbeats 8000000 in
theorem ordered_any (I : Int) (gv csv : Value) (oa : Option Addr) (on oc : Nat) (G : List Gt) (cs : List Int) (nI : Nat) (w : World) (l : List Asrt) (hG : G.length ≤ 500000) (hcl : cs.length ≤ 100000) (hni : nI ≤ 100000)
    (hs : Sep w (OR gateE gv G :: OI csv cs :: l)) :
    Calls Tryd.prog 71 #[.agg #[.int .i64 I, gv, (.slice oa on oc)], csv, .int .i64 nI] w (OrdR I (.slice oa on oc) (sumG G (ordP nI cs cs.length)) (OI csv cs :: l)) := by
  obtain ⟨c1, c2, rfl⟩ := own_shape (show OwnInts 0 w csv cs from hs.tl.hd)
  have HS0 := Lib.hid (Sep.blk (A := [_]) (B := [_, _, _]) ((hs.boxAt w.heap.size rfl #[.int .i64 I, gv, (.slice oa on oc)] 29).boxAt (w.heap.size + 1) (by simp) #[.int .i64 0, .slice none 0 0, .slice none 0 0] 29))
  have HGL := Lib.hid hG; have HCL := Lib.hid hcl
  have HLZ := Lib.hid fun k => (sumF_len G (ordP nI cs k)).1
  obtain ⟨m, hm⟩ : ∃ m, m = cs.length := ⟨_, rfl⟩
  have HM := Lib.hid hm
  rw [← hm] at HS0 HCL ⊢
  have hmb : m ≤ 100000 := by omega
  clear hs hG hcl hm
  go_enter Tryd.func71, Tryd.ntmps71
  go_wp2_with fail
  go_loopw [8, 9, 10, 11, 14] (fun o _ _ _ i wr => ∃ (k : Nat) (gv' : Value), k ≤ m ∧ i = .int .i64 k ∧ o = .int .i64 (sumF G (ordP nI cs k)).2 ∧ Sep wr (BxA w.heap.size #[.int .i64 I, gv', (.slice oa on oc)] 29 :: OR gateE gv' ((sumF G (ordP nI cs k)).1) :: OI (.slice c1 m c2) cs :: BxA (w.heap.size + 1) #[.int .i64 0, .slice none 0 0, .slice none 0 0] 29 :: l)) (fun _ _ _ _ i _ => m - (intOf i).toNat)
  case atStart => exact ⟨0, gv, by omega, rfl, rfl, HS0.out⟩
  case round =>
    obtain ⟨k, gv', hk, rfl, rfl, hs⟩ := hrel
    obtain ⟨ga, gc, rfl⟩ := OwnR.shape (show OwnR gateE 0 wr gv' _ from hs.tl.hd)
    have HSR := Lib.hid hs
    clear hs HS0
    by_cases hlt : k < m
    · have HLT := Lib.hid hlt
      obtain ⟨cb2, hcb⟩ := own_someZ (show OwnInts 0 wr (.slice c1 m c2) cs from HSR.out.tl.tl.hd) (by rw [← HM.out]; omega)
      subst hcb
      obtain ⟨d, hd⟩ : ∃ d, d = (k + nI) % m := ⟨_, rfl⟩
      have hdm : d < m := by rw [hd]; exact Nat.mod_lt _ (by omega)
      have HAT := Lib.hid fun W (h : OwnInts 0 W (.slice (some ⟨cb2, 0, none⟩) m c2) cs) => own_atZ h HM.out (j := d) (by omega)
      have htm : ((k : Int) + (nI : Int)).tmod (m : Int) = (d : Int) := by rw [Int.tmod_eq_emod_of_nonneg (by omega), hd]; simp
      have hwk : IntKind.i64.wrap ((k : Int) + (nI : Int)) = (k : Int) + (nI : Int) := by rw [IntKind.wrap_i64]; omega
      have hwd : IntKind.i64.wrap (d : Int) = (d : Int) := by rw [IntKind.wrap_i64]; omega
      have hmz : ((m : Int) == 0) = false := by rw [beq_eq_false_iff_ne]; omega
      have hmz2 : (m : Int) ≠ 0 := by omega
      have HTK := Lib.hid (show sumF G (ordP nI cs (k + 1)) = sumStep (sumF G (ordP nI cs k)) ((d : Int), cs.getD d 0) from by rw [ordP_succ, sumF_snoc, ← HM.out, ← hd])
      have hln := HLZ.out k
      rw [ordP_len] at hln
      have hH : (sumF G (ordP nI cs k)).1.length ≤ 900000 := by have := HGL.out; omega
      have hki : (k : Int) < (m : Int) := by omega
      have hdi : (d : Int) < (m : Int) := by omega
      clear hln hd
      generalize hst : sumF G (ordP nI cs k) = st at *
      obtain ⟨H, o⟩ := st
      simp only at hH ⊢
      generalize cs.getD d 0 = c at *
      clear hst
      have HST := Lib.hid (show sumStep (H, o) ((d : Int), c) = if c = 0 then (H, o) else if c = 1 then (if 0 ≤ o then (H ++ [⟨3, o, d, 0⟩], (H.length : Int)) else (H, (d : Int))) else if 0 ≤ o then (H ++ [⟨4, d, 0, c⟩, ⟨3, o, (H.length : Int), 0⟩], (H.length : Int) + 1) else (H ++ [⟨4, d, 0, c⟩], (H.length : Int)) from rfl)
      have HSR := Lib.hid (show Sep wr (BxA w.heap.size #[.int .i64 I, (.slice ga H.length gc), (.slice oa on oc)] 29 :: OR gateE (.slice ga H.length gc) H :: _) from HSR.out)
      have x0 := HAT.out _ HSR.out.tl.tl.hd
      obtain ⟨m0, m1, m2, _⟩ := bx3 HSR.out.hd
      by_cases h0 : c = 0
      · have e0 : (c == 0) = true := by simpa using h0
        have HF := Lib.hid (show sumF G (ordP nI cs (k + 1)) = (H, o) from by rw [HTK.out, HST.out, if_pos h0])
        clear h0
        go_wp2_with fail
        go_roundw
        case rel => exact ⟨k + 1, _, HLT.out, by go_num, by rw [HF.out], by rw [HF.out]; exact HSR.out⟩
        case measure => simp [intOf]; omega
      · have e0 : (c == 0) = false := by simpa using h0
        by_cases h1 : c = 1
        · have e1 : (c != 1) = false := by simpa using h1
          by_cases ho : 0 ≤ o
          · have HF := Lib.hid (show sumF G (ordP nI cs (k + 1)) = (H ++ [⟨3, o, (d : Int), 0⟩], (H.length : Int)) from by rw [HTK.out, HST.out, if_neg h0, if_pos h1, if_pos ho])
            have hwr : IntKind.i64.wrap (((H.length + 1 : Nat) : Int) - 1) = (H.length : Int) := by rw [wrap_id (by omega) (by omega)]; omega
            have hwr2 : IntKind.i64.wrap ((H.length : Int) + 1 - 1) = (H.length : Int) := by rw [wrap_id (by omega) (by omega)]; omega
            clear h0 h1
            go_wp2_with (
              at_builtin
              go_loud (
                refine app_R (E := gateE) (y := ⟨3, o, (d : Int), 0⟩) info_gate rfl (by decide) Tryd.underlying26 (gate_one ⟨3, o, (d : Int), 0⟩) rfl (.tmp 51) (.tmp 55) rfl rfl rfl rfl (Sep.blk (A := [_]) (B := [_]) HSR.out) (by first | omega | (simp only [List.length_append, List.length_singleton]; omega)) ?_
                intro g5 c5 w3 h5
                have H5 := Lib.hid (Sep.blk (A := [_]) (B := [_]) h5)
                obtain ⟨_, _, _, _, z5, _⟩ := bx3 H5.out.hd
                have H6 := Lib.hid (H5.out.setB 1 (.slice (some ⟨g5, 0, none⟩) ((H).length + 1) c5))
                obtain ⟨n0, n1, n2, _⟩ := bx3 (x := .int .i64 I) (y := .slice (some ⟨g5, 0, none⟩) ((H).length + 1) c5) (z := (.slice oa on oc)) (t := 29) H6.out.hd
                clear h5 x0 m0 m1 m2))
            go_roundw
            case rel => exact ⟨k + 1, _, HLT.out, by go_num, by rw [HF.out], by rw [HF.out]; exact H6.out⟩
            case measure => simp [intOf]; omega
          · have HF := Lib.hid (show sumF G (ordP nI cs (k + 1)) = (H, (d : Int)) from by rw [HTK.out, HST.out, if_neg h0, if_pos h1, if_neg ho])
            clear h0 h1
            go_wp2_with fail
            go_roundw
            case rel => exact ⟨k + 1, _, HLT.out, by go_num, by rw [HF.out], by rw [HF.out]; exact HSR.out⟩
            case measure => simp [intOf]; omega
        · have e1 : (c != 1) = true := by simpa using h1
          go_upto_region 10 with fail
          have HD := Lib.hid HSR.out.dr
          have X0 := Lib.hid (HAT.out _ HD.out.tl.tl.hd)
          have Y0 := Lib.hid (bx3 HD.out.hd).2.1
          clear x0 m0 m1 m2
          refine AnyL.start (fun W1 => W1.cell? ⟨cb2, d, none⟩ = some (.int .i64 c)) (fun W1 => W1.cell? ⟨w.heap.size, 1, none⟩ = some (.slice ga H.length gc)) 11 (by kernel_rfl) ?_
          refine AnyL.take (i := 0) (v := ?vx1) (by rfl) (by kernel_rfl) (by kernel_rfl) (by kernel_rfl) rfl (by exact fun _ _ _ h => h) (by rfl) ?hyx1 (by exact ⟨X0.out, fun _ => Y0.out⟩) ?restx1
          case hyx1 => intro W hSW; (try dsimp only at hSW); first | (go_simp; done) | (go_simp; with_reducible rfl)
          try simp only [Act.put, List.setIfInBounds_toArray, List.set_cons_zero, List.set_cons_succ]
          refine AnyL.takeA (i := 1) (v := ?vx2) (by rfl) (by kernel_rfl) (by kernel_rfl) (by kernel_rfl) rfl (by rfl) (by kernel_rfl) (by kernel_rfl) (by exact fun _ _ _ h => h) (by rfl) ?hyx2 (by exact ⟨X0.out, fun _ => Y0.out⟩) ?restx2
          case hyx2 => intro W hSW; (try dsimp only at hSW); first | (go_simp; done) | (go_simp; with_reducible rfl)
          try simp only [Act.put, List.setIfInBounds_toArray, List.set_cons_zero, List.set_cons_succ]
          refine AnyL.take (i := 2) (v := ?vx3) (by rfl) (by kernel_rfl) (by kernel_rfl) (by kernel_rfl) rfl (by exact fun _ _ _ h => h) (by rfl) ?hyx3 (by exact ⟨X0.out, fun _ => Y0.out⟩) ?restx3
          case hyx3 => intro W hSW; (try dsimp only at hSW); first | (go_simp; done) | (go_simp; with_reducible rfl)
          try simp only [Act.put, List.setIfInBounds_toArray, List.set_cons_zero, List.set_cons_succ]
          refine AnyL.take (i := 3) (v := ?vx4) (by rfl) (by kernel_rfl) (by kernel_rfl) (by kernel_rfl) rfl (by exact fun _ _ _ h => h) (by rfl) ?hyx4 (by exact ⟨X0.out, fun _ => Y0.out⟩) ?restx4
          case hyx4 => intro W hSW; (try dsimp only at hSW); first | (go_simp; done) | (go_simp; with_reducible rfl)
          try simp only [Act.put, List.setIfInBounds_toArray, List.set_cons_zero, List.set_cons_succ]
          refine AnyL.take (i := 4) (v := ?vx5) (by rfl) (by kernel_rfl) (by kernel_rfl) (by kernel_rfl) rfl (by exact fun _ _ _ h => h) (by rfl) ?hyx5 (by exact ⟨X0.out, fun _ => Y0.out⟩) ?restx5
          case hyx5 => intro W hSW; (try dsimp only at hSW); first | (go_simp; done) | (go_simp; with_reducible rfl)
          try simp only [Act.put, List.setIfInBounds_toArray, List.set_cons_zero, List.set_cons_succ]
          refine AnyL.take (i := 5) (v := ?vx6) (by rfl) (by kernel_rfl) (by kernel_rfl) (by kernel_rfl) rfl (by exact fun _ _ _ h => h) (by rfl) ?hyx6 (by exact ⟨X0.out, fun _ => Y0.out⟩) ?restx6
          case hyx6 => intro W hSW; (try dsimp only at hSW); first | (go_simp; done) | (go_simp; with_reducible rfl)
          try simp only [Act.put, List.setIfInBounds_toArray, List.set_cons_zero, List.set_cons_succ]
          refine AnyL.take (i := 6) (v := ?vx7) (by rfl) (by kernel_rfl) (by kernel_rfl) (by kernel_rfl) rfl (by exact fun _ _ _ h => h) (by rfl) ?hyx7 (by exact ⟨X0.out, fun _ => Y0.out⟩) ?restx7
          case hyx7 => intro W hSW; (try dsimp only at hSW); first | (go_simp; done) | (go_simp; with_reducible rfl)
          try simp only [Act.put, List.setIfInBounds_toArray, List.set_cons_zero, List.set_cons_succ]
          refine AnyL.take (i := 7) (v := ?vx8) (by rfl) (by kernel_rfl) (by kernel_rfl) (by kernel_rfl) rfl (by exact fun _ _ _ h => h) (by rfl) ?hyx8 (by exact ⟨X0.out, fun _ => Y0.out⟩) ?restx8
          case hyx8 => intro W hSW; (try dsimp only at hSW); first | (go_simp; done) | (go_simp; with_reducible rfl)
          try simp only [Act.put, List.setIfInBounds_toArray, List.set_cons_zero, List.set_cons_succ]
          have Y3 := Lib.hid fun ob => HAT.out _ (HD.out.al ob).tl.tl.hd
          have Z3 := Lib.hid fun ob => (bx3 (HD.out.al ob).hd).2.1
          refine AnyL.step (i := 8) (by kernel_rfl) (by rfl) (fun K hK => ?_)
          go_simp
          refine hK.out _ _ (by exact Y3.out _) (by exact fun _ => Z3.out _) ?_
          clear hK K
          try simp only [Act.put, List.setIfInBounds_toArray, List.set_cons_zero, List.set_cons_succ]
          have HQ := Lib.hid (Sep.blk (A := [_]) (B := [_]) HD.out)
          refine AnyL.step (i := 9) (by kernel_rfl) (by rfl) (fun K hK => ?_)
          refine step_app_RG (E := gateE) (y := ⟨4, (d : Int), 0, c⟩) (xs := H) (v := .slice ga H.length gc) (q := wr.heap.size) info_gate rfl (by decide) Tryd.underlying26 (gate_one ⟨4, (d : Int), 0, c⟩) rfl (.tmp 38) (.tmp 45) rfl rfl rfl (by simp) rfl HQ.out (by omega) ?_
          intro g4 c4 w4 h4
          have H4 := Lib.hid (Sep.blk (A := [_]) (B := [_]) h4)
          have X4 := Lib.hid (HAT.out _ H4.out.tl.tl.hd)
          have Y4 := Lib.hid (bx3 H4.out.hd)
          clear h4
          refine hK.out _ _ (by exact X4.out) (by exact fun _ => Y4.out.2.1) ?_
          clear hK K
          try simp only [Act.put, List.setIfInBounds_toArray, List.set_cons_zero, List.set_cons_succ]
          refine AnyL.take (i := 10) (v := ?vx9) (by rfl) (by kernel_rfl) (by kernel_rfl) (by kernel_rfl) rfl (by exact fun _ _ _ h => h) (by rfl) ?hyx9 (by exact ⟨X4.out, fun _ => Y4.out.2.1⟩) ?restx9
          case hyx9 => intro W hSW; (try dsimp only at hSW); first | (go_simp; done) | (go_simp; with_reducible rfl)
          try simp only [Act.put, List.setIfInBounds_toArray, List.set_cons_zero, List.set_cons_succ]
          have HW := Lib.hid (H4.out.setB 1 (.slice (some ⟨g4, 0, none⟩) (H.length + 1) c4))
          obtain ⟨_, z0, _, _, z1, _⟩ := Y4.out
          have X5 := Lib.hid (HAT.out _ HW.out.tl.tl.hd)
          refine AnyL.step (i := 11) (by kernel_rfl) (by rfl) (fun K hK => ?_)
          go_simp
          refine hK.out _ (w4.setCell ⟨w.heap.size, 1, none⟩ (.slice (some ⟨g4, 0, none⟩) (H.length + 1) c4)) (by exact X5.out) (by exact fun h => by cases h) ?_
          clear hK K
          try simp only [Act.put, List.setIfInBounds_toArray, List.set_cons_zero, List.set_cons_succ]
          refine AnyL.done (by kernel_rfl) ?_ _
          obtain ⟨m0, m1, m2, _⟩ := bx3 (x := .int .i64 I) (y := .slice (some ⟨g4, 0, none⟩) (H.length + 1) c4) (z := (.slice oa on oc)) (t := 29) HW.out.hd
          have HLL := Lib.hid (show (H ++ [(⟨4, (d : Int), 0, c⟩ : Gt)]).length = H.length + 1 from by simp)
          have HX := Lib.hid (show Sep _ (BxA w.heap.size #[.int .i64 I, (.slice (some ⟨g4, 0, none⟩) (H.length + 1) c4), (.slice oa on oc)] 29 :: OR gateE (.slice (some ⟨g4, 0, none⟩) (H.length + 1) c4) (H ++ [⟨4, (d : Int), 0, c⟩]) :: _) from HW.out)
          clear X0 Y0 HD HQ Y3 Z3 H4 X4 Y4 HSR X5 HW z0 z1
          generalize w4.setCell ⟨w.heap.size, 1, none⟩ (.slice (some ⟨g4, 0, none⟩) (H.length + 1) c4) = w5 at *
          by_cases ho : 0 ≤ o
          · have HF := Lib.hid (show sumF G (ordP nI cs (k + 1)) = (H ++ [⟨4, d, 0, c⟩, ⟨3, o, (H.length : Int), 0⟩], (H.length : Int) + 1) from by rw [HTK.out, HST.out, if_neg h0, if_neg h1, if_pos ho])
            have hwr : IntKind.i64.wrap (((H.length + 1 + 1 : Nat) : Int) - 1) = (H.length : Int) + 1 := by rw [wrap_id (by omega) (by omega)]; omega
            have hwr2 : IntKind.i64.wrap ((H.length : Int) + 1 + 1 - 1) = (H.length : Int) + 1 := by rw [wrap_id (by omega) (by omega)]; omega
            clear h0 h1
            have x0 := trivial
            go_wp2_with (
              at_builtin
              go_loud (
                refine app_R (E := gateE) (y := ⟨3, o, (H.length : Int), 0⟩) info_gate rfl (by decide) Tryd.underlying26 (gate_one ⟨3, o, (H.length : Int), 0⟩) rfl (.tmp 51) (.tmp 55) rfl rfl rfl rfl (Sep.blk (A := [_]) (B := [_]) HX.out) (by first | omega | (simp only [List.length_append, List.length_singleton]; omega)) ?_
                intro g5 c5 w6 h5
                have H5 := Lib.hid (Sep.blk (A := [_]) (B := [_]) h5)
                obtain ⟨_, _, _, _, z5, _⟩ := bx3 H5.out.hd
                have H6 := Lib.hid (H5.out.setB 1 (.slice (some ⟨g5, 0, none⟩) (((H ++ [(⟨4, (d : Int), 0, c⟩ : Gt)])).length + 1) c5))
                obtain ⟨n0, n1, n2, _⟩ := bx3 (x := .int .i64 I) (y := .slice (some ⟨g5, 0, none⟩) (((H ++ [(⟨4, (d : Int), 0, c⟩ : Gt)])).length + 1) c5) (z := (.slice oa on oc)) (t := 29) H6.out.hd
                clear h5 x0 m0 m1 m2))
            go_roundw
            case rel => exact ⟨k + 1, _, HLT.out, by go_num, by rw [HF.out], by rw [HF.out]; have h := H6.out; rw [HLL.out, List.append_assoc] at h; exact h⟩
            case measure => simp [intOf]; omega
          · have HF := Lib.hid (show sumF G (ordP nI cs (k + 1)) = (H ++ [⟨4, d, 0, c⟩], (H.length : Int)) from by rw [HTK.out, HST.out, if_neg h0, if_neg h1, if_neg ho])
            clear h0 h1
            go_wp2_with fail
            go_roundw
            case rel => exact ⟨k + 1, _, HLT.out, by go_num, by rw [HF.out], by rw [HF.out]; exact HX.out⟩
            case measure => simp [intOf]; omega
    · have hkm : m = k := by omega
      subst hkm
      have hki : ¬ (m : Int) < (m : Int) := by omega
      have hH := HLZ.out m
      rw [ordP_len] at hH
      have hHb : (sumF G (ordP nI cs m)).1.length ≤ 900000 := by have := HGL.out; omega
      clear hH
      have HE := Lib.hid (show sumG G (ordP nI cs m) = sumEnd (sumF G (ordP nI cs m)) from rfl)
      generalize sumF G (ordP nI cs m) = st at *
      obtain ⟨H, o⟩ := st
      simp only at hHb ⊢
      have HSR := Lib.hid (show Sep wr (BxA w.heap.size #[.int .i64 I, (.slice ga H.length gc), (.slice oa on oc)] 29 :: OR gateE (.slice ga H.length gc) H :: _) from HSR.out)
      obtain ⟨m0, m1, m2, _⟩ := bx3 HSR.out.hd
      have x0 := trivial
      by_cases ho : o < 0
      · have HF0 := Lib.hid (show sumEnd (H, o) = (H ++ [⟨2, 0, 0, 0⟩], (H.length : Int)) from by unfold sumEnd; rw [if_pos ho])
        go_wp2_with (
          at_builtin
          go_loud (
            refine app_R (E := gateE) (y := ⟨2, 0, 0, 0⟩) info_gate rfl (by decide) Tryd.underlying26 (gate_one ⟨2, 0, 0, 0⟩) rfl (.tmp 70) (.tmp 72) rfl rfl rfl rfl (Sep.blk (A := [_]) (B := [_]) HSR.out) (by first | omega | (simp only [List.length_append, List.length_singleton]; omega)) ?_
            intro g5 c5 w6 h5
            have H5 := Lib.hid (Sep.blk (A := [_]) (B := [_]) h5)
            obtain ⟨_, _, _, _, z5, _⟩ := bx3 H5.out.hd
            have H6 := Lib.hid (H5.out.setB 1 (.slice (some ⟨g5, 0, none⟩) ((H).length + 1) c5))
            obtain ⟨n0, n1, n2, _⟩ := bx3 (x := .int .i64 I) (y := .slice (some ⟨g5, 0, none⟩) ((H).length + 1) c5) (z := (.slice oa on oc)) (t := 29) H6.out.hd
            have H6b := Lib.hid (Sep.blk (A := [_, _, _]) (B := [_]) H6.out)
            obtain ⟨_, _, _, f0, f1, f2⟩ := bx3 H6b.out.hd
            have H9 := Lib.hid ((((H6b.out).setB 0 (.int .i64 I)).setB 1 (.slice (some ⟨g5, 0, none⟩) (H.length + 1) c5)).setB 2 (.slice oa on oc))
            obtain ⟨g0, g1, g2, _⟩ := bx3 H9.out.hd
            have HF := Lib.hid H9.out.tl.tl
            clear h5 H6b HSR m0 m1 m2))
        generalize (((w6.setCell ⟨w.heap.size, 1, none⟩ (.slice (some ⟨g5, 0, none⟩) (H.length + 1) c5)).setCell { block := w.heap.size + 1, off := 0 } (Value.int IntKind.i64 I)).setCell { block := w.heap.size + 1, off := 1 } (.slice (some ⟨g5, 0, none⟩) (H.length + 1) c5)).setCell { block := w.heap.size + 1, off := 2 } (.slice oa on oc) = w9 at *
        rw [HE.out, HF0.out]
        refine bodyPost_ret_by (v := .tuple #[.agg #[.int .i64 I, .slice (some ⟨g5, 0, none⟩) (H.length + 1) c5, (.slice oa on oc)], .int .i64 H.length]) ?_ rfl ⟨_, rfl, HF.out⟩
        simp [results, go_sem, *]
      · have HF0 := Lib.hid (show sumEnd (H, o) = (H, o) from by unfold sumEnd; rw [if_neg ho])
        have HSRb := Lib.hid (Sep.blk (A := [_, _, _]) (B := [_]) HSR.out)
        obtain ⟨_, _, _, f0, f1, f2⟩ := bx3 HSRb.out.hd
        have H9 := Lib.hid ((((HSRb.out).setB 0 (.int .i64 I)).setB 1 (.slice ga H.length gc)).setB 2 (.slice oa on oc))
        obtain ⟨g0, g1, g2, _⟩ := bx3 H9.out.hd
        have HF := Lib.hid H9.out.tl.tl
        clear HSR HSRb
        go_wp2_with fail
        generalize ((wr.setCell { block := w.heap.size + 1, off := 0 } (Value.int IntKind.i64 I)).setCell { block := w.heap.size + 1, off := 1 } (.slice ga H.length gc)).setCell { block := w.heap.size + 1, off := 2 } (.slice oa on oc) = w9 at *
        rw [HE.out, HF0.out]
        refine bodyPost_ret_by (v := .tuple #[.agg #[.int .i64 I, .slice ga H.length gc, (.slice oa on oc)], .int .i64 o]) ?_ rfl ⟨_, rfl, HF.out⟩
        simp [results, go_sem, *]
end Go.Proofs.YtghfifpicklonaaDoor

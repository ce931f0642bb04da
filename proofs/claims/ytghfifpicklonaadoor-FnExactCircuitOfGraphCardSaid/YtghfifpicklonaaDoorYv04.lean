/-
  The circuit of a graph, in the program. Conditions: the graph is as a circuit's is to be.
-/
import Derived.Test.YtghfifpicklonaaDoorYv03
namespace Go.Proofs.YtghfifpicklonaaDoor
open Go.RowKit
set_option linter.unusedVariables false
set_option maxRecDepth 100000

theorem Sep.emptyRC {α : Type} {w : World} {l : List Asrt} (E : Lay α) (h : Sep w l) (b : Nat) (hb : b = w.heap.size) : Sep (w.alloc (.cells #[] E.ty)) (OR E (.slice (some ⟨b, 0, none⟩) 0 0) [] :: l) := by
  subst hb
  refine h.new (grownBy_alloc _ _ none) (OwnR.empty E (Nat.zero_le _) rfl) fun k hk => ?_
  have : w.heap.size = k := by simpa [OR, Hits, Value.ownBlock] using hk
  omega
def inGt (k : Nat) : List Gt := (List.range k).map fun i : Nat => ⟨1, 0, 0, (i : Int)⟩
theorem inGt_succ (k : Nat) : inGt (k + 1) = inGt k ++ [⟨1, 0, 0, (k : Int)⟩] := by simp [inGt, List.range_succ]
theorem inGt_len (k : Nat) : (inGt k).length = k := by simp [inGt]
/-- The edges that are gates. -/
def gtE (es : List Ed) : List Ed := es.filter isGt
def gt0 (e : Ed) : Gt := ⟨gKd e.k, 0, 0, gVl e.k e.v⟩
/-- An edge's gate, its operands found. -/
def gtA (S : Int → Int) (e : Ed) : Gt := ⟨gKd e.k, if 0 < e.i.length then S (e.i.getD 0 0) else 0, 0, gVl e.k e.v⟩
def gtB (S : Int → Int) (e : Ed) : Gt := ⟨gKd e.k, if 0 < e.i.length then S (e.i.getD 0 0) else 0, if 1 < e.i.length then S (e.i.getD 1 0) else 0, gVl e.k e.v⟩
noncomputable def cirG (g : Gr) (n : Nat) : Circ := ⟨(g.i.length : Int), inGt g.i.length ++ (gtE g.es).map (gtB (srcV (srcG n g) g.es)), g.o.map (srcV (srcG n g) g.es)⟩
theorem gtE_step {es : List Ed} {j : Nat} (h : j < es.length) : gtE (es.take (j + 1)) = gtE (es.take j) ++ if isGt (es.getD j e0) = true then [es.getD j e0] else [] := by
  unfold gtE
  rw [List.take_succ_eq_append_getElem h, List.filter_append, List.getD_eq_getElem?_getD, List.getElem?_eq_getElem h]
  simp only [Option.getD_some]
  by_cases h8 : isGt es[j] = true <;> simp [h8]
theorem gtE_len (es : List Ed) : (gtE es).length ≤ es.length := List.length_filter_le _ _
theorem gtE_mem {es : List Ed} {e : Ed} (h : e ∈ gtE es) : e ∈ es := (List.mem_filter.1 h).1
theorem gtM_cnt (base : List Int) (nI : Nat) (es : List Ed) : ∀ j, j ≤ es.length → (gtM base nI es j).2 = (gtE (es.take j)).length
  | 0, _ => by simp [gtM, gtE]
  | j + 1, h => by
    have ih := gtM_cnt base nI es j (by omega)
    rw [gtE_step (show j < es.length by omega)]
    unfold gtM
    by_cases hg : isGt (es.getD j e0) = true
    · rw [if_pos hg, if_pos hg]; simp [ih]
    · rw [if_neg hg, if_neg hg]; simp [ih]
theorem two_cases {l : List Int} (h : l.length ≤ 2) : l = [] ∨ (∃ a, l = [a]) ∨ ∃ a c, l = [a, c] := by
  match l, h with
  | [], _ => exact Or.inl rfl
  | [a], _ => exact Or.inr (Or.inl ⟨a, rfl⟩)
  | [a, c], _ => exact Or.inr (Or.inr ⟨a, c, rfl⟩)
theorem OR.edgeAt {w : World} {a : Option Addr} {n c : Nat} {xs : List XE} (h : (OR edgeE (.slice a n c) xs).holds w) {i : Nat} (hi : i < xs.length) :
    ∃ b o, a = some ⟨b, o, none⟩ ∧ w.cell? ⟨b, o + i * 4, none⟩ = some (.int .i64 (xs.getD i xe0).ed.k) ∧ w.cell? ⟨b, o + i * 4 + 1, none⟩ = some (.int .i64 (xs.getD i xe0).ed.v) ∧ w.cell? ⟨b, o + i * 4 + 2, none⟩ = some (xs.getD i xe0).iv ∧ w.cell? ⟨b, o + i * 4 + 3, none⟩ = some (xs.getD i xe0).ov := by
  obtain ⟨b, o, rfl, _, hc⟩ := (OwnR.read (show OwnR edgeE 0 w _ xs from h)).at hi
  rw [List.getD_eq_getElem?_getD, List.getElem?_eq_getElem hi]
  simp only [Option.getD_some]
  exact ⟨b, o, rfl, hc 0 (by decide), hc 1 (by decide), hc 2 (by decide), hc 3 (by decide)⟩
/-- The gates when i of them have their operands. -/
def gtsI (S : Int → Int) (a : List Gt) (M : List Ed) (i : Nat) : List Gt := a ++ ((M.take i).map (gtB S) ++ (M.drop i).map gt0)
theorem gtsI_len (S : Int → Int) (a : List Gt) (M : List Ed) {i : Nat} (h : i ≤ M.length) : (gtsI S a M i).length = a.length + M.length := by
  unfold gtsI
  rw [List.length_append, List.length_append, List.length_map, List.length_map, List.length_take, List.length_drop]
  omega
theorem gtsI_zero (S : Int → Int) (a : List Gt) (M : List Ed) : gtsI S a M 0 = a ++ M.map gt0 := by simp [gtsI]
theorem gtsI_all (S : Int → Int) (a : List Gt) (M : List Ed) : gtsI S a M M.length = a ++ M.map (gtB S) := by simp [gtsI]
theorem gtsI_cut {S : Int → Int} {a : List Gt} {M : List Ed} {i : Nat} (h : i < M.length) : gtsI S a M i = (a ++ (M.take i).map (gtB S)) ++ gt0 (M.getD i e0) :: (M.drop (i + 1)).map gt0 := by
  unfold gtsI
  rw [List.drop_eq_getElem_cons h, List.map_cons, List.append_assoc, List.getD_eq_getElem?_getD, List.getElem?_eq_getElem h]
  rfl
theorem gtsI_next {S : Int → Int} {a : List Gt} {M : List Ed} {i : Nat} (h : i < M.length) : gtsI S a M (i + 1) = (a ++ (M.take i).map (gtB S)) ++ gtB S (M.getD i e0) :: (M.drop (i + 1)).map gt0 := by
  unfold gtsI
  rw [List.take_succ_eq_append_getElem h, List.map_append, List.getD_eq_getElem?_getD, List.getElem?_eq_getElem h]
  simp
theorem gset_mid {A B : List Gt} {x y : Gt} {i : Nat} (h : A.length = i) : (A ++ x :: B).set i y = A ++ y :: B := by
  rw [List.set_append_right _ _ (by omega), show i - A.length = 0 by omega]; rfl
theorem gget_mid {A B : List Gt} {x : Gt} {i : Nat} (h : A.length = i) (hi : i < (A ++ x :: B).length) : (A ++ x :: B)[i] = x := by
  rw [List.getElem_append_right (by omega)]
  simp [h]
/-- One cell of a gate in the middle is set. -/
theorem Sep.setGm {w : World} {gg L gc : Nat} {A B : List Gt} {x y : Gt} {i j : Nat} {u : Value} {l : List Asrt} (h : Sep w (OR gateE (.slice (some ⟨gg, 0, none⟩) L gc) (A ++ x :: B) :: l)) (hL : L = (A ++ x :: B).length) (hA : A.length = i) (hj : j < 4) (hy : gateC y = (gateC x).set j u) :
    Sep (w.setCell ⟨gg, i * 4 + j, none⟩ u) (OR gateE (.slice (some ⟨gg, 0, none⟩) L gc) (A ++ y :: B) :: l) ∧ (∃ q, w.cell? ⟨gg, i * 4 + j, none⟩ = some q) ∧ w.frozen? ⟨gg, i * 4 + j, none⟩ = false := by
  have hi : i < (A ++ x :: B).length := by rw [List.length_append, hA]; simp
  have h1 := h.setR (E := gateE) hL (i := i) (j := j) (y := y) (u := u) hi hj (by rw [gget_mid hA hi]; exact hy)
  rw [gset_mid hA] at h1
  have h2 := (show OwnR gateE 0 w _ (A ++ x :: B) from h.hd).cell hL hi (j := j) hj
  have h3 : ∃ q, (gateE.cs (A ++ x :: B)[i])[j]? = some q := ⟨_, List.getElem?_eq_getElem (show j < (gateC (A ++ x :: B)[i]).length from by rw [show (gateC (A ++ x :: B)[i]).length = 4 from rfl]; exact hj)⟩
  obtain ⟨q, h3⟩ := h3
  exact ⟨h1, ⟨q, h2.trans h3⟩, (show OwnR gateE 0 w _ (A ++ x :: B) from h.hd).free hL _⟩
set_option maxHeartbeats 16000000 in
theorem gcircuit_any (g : Gr) (n : Nat) (ev iv ov : Value) (w : World) (hk : CgOk g n) (hac : acyB (ndE g.es) = true) (he : RdE edgeE w ev g.es) (hi : IntsV w iv g.i) (ho : IntsV w ov g.o) :
    Calls Tryd.prog 64 #[grV n ev iv ov] w fun e w' => ∃ (a1 : Option Addr) (c1 : Nat) (a2 : Option Addr) (c2 : Nat), e = .returned (.agg #[.int .i64 (cirG g n).n, .slice a1 (cirG g n).gs.length c1, .slice a2 (cirG g n).os.length c2]) ∧ Sep w' [OR gateE (.slice a1 (cirG g n).gs.length c1) (cirG g n).gs, OI (.slice a2 (cirG g n).os.length c2) (cirG g n).os, KeepA w] := by
  have hln := hk.ln; have hle := hk.le; have hli := hk.li; have hlo := hk.lo
  have HRP := Lib.hid fun W => repeated_any (-1) n W (by omega)
  have HEN := Lib.hid fun W (hW : w.grownBy W none) => gends_any g n ev iv ov W hk (he.carry hW) (hi.carry hW) (ho.carry hW)
  have HGO := Lib.hid fun (e : Ed) (h : e ∈ g.es) s1 n1 r1 s2 n2 r2 W => gateOf_any e.k e.v s1 n1 r1 s2 n2 r2 W (hk.k1 e h)
  have HE := Lib.hid he; have HII := Lib.hid hi; have HOO := Lib.hid ho; have HK := Lib.hid hk; have HAC := Lib.hid hac
  unfold grV at *
  obtain ⟨ea, ec, rfl⟩ := he.shape
  obtain ⟨ia, ic, rfl⟩ := hi.shape
  obtain ⟨oa, oc, rfl⟩ := ho.shape
  obtain ⟨R, hR⟩ : ∃ R, cirG g n = R := ⟨_, rfl⟩
  rw [hR]
  have HRR := Lib.hid hR
  obtain ⟨m, hm⟩ : ∃ m, g.es.length = m := ⟨_, rfl⟩
  obtain ⟨m1, hm1⟩ : ∃ m, g.i.length = m := ⟨_, rfl⟩
  obtain ⟨m2, hm2⟩ : ∃ m, g.o.length = m := ⟨_, rfl⟩
  have HM := Lib.hid hm; have HM1 := Lib.hid hm1; have HM2 := Lib.hid hm2
  rw [hm] at HEN hle ⊢
  rw [hm1] at HEN hli ⊢
  rw [hm2] at HEN hlo ⊢
  clear he hi ho hk hac hR hm hm1 hm2
  have hs0 := (((Sep.start w).boxAt w.heap.size rfl #[.int .i64 n, .slice ea m ec, .slice ia m1 ic, .slice oa m2 oc] 56).boxAt (w.heap.size + 1) (by simp) #[.int .i64 0, .slice none 0 0, .slice none 0 0] 29).boxAt (w.heap.size + 2) (by simp) #[.int .i64 m1, .slice none 0 0, .slice none 0 0] 29
  obtain ⟨x0, x1, x2, x3, _⟩ := bq4 hs0.tl.tl.hd
  have HS0 := Lib.hid (Sep.nilR gateE hs0)
  clear hs0
  go_enter Tryd.func64, Tryd.ntmps64
  go_upto_region 4 with (
    go_at_call 109
    with_reducible refine (HRP.out _).mono ?_
    rintro e w1 ⟨sg, sc, rfl, hsg⟩
    have hs1 := (HS0.out.graft1 hsg OI_own).boxAt w1.heap.size rfl #[.slice (some ⟨sg, 0, none⟩) n sc] 27
    clear x0 x1 x2 x3
    obtain ⟨x0, x1, x2, x3, _⟩ := bq4 hs1.tl.tl.tl.tl.tl.hd
    have HS1 := Lib.hid hs1
    clear hsg hs1)
  obtain ⟨sb, hsb⟩ : ∃ sb, w1.heap.size = sb := ⟨_, rfl⟩
  rw [hsb] at HS1 ⊢
  clear x0 x1 x2 x3 HS0
  have hs1 := Sep.blk (A := [_, _]) (B := [_, _]) HS1.out
  have HS2 := Lib.hid hs1
  clear HS1 hs1
  go_loopw [5, 6, 29] (fun _ _ i wr => ∃ (k : Nat) (gv : Value), k ≤ m1 ∧ i = .int .i64 k ∧ Sep wr [OR gateE gv (inGt k), BxA (w.heap.size + 2) #[.int .i64 m1, gv, .slice none 0 0] 29, BxA sb #[.slice (some ⟨sg, 0, none⟩) n sc] 27, OI (.slice (some ⟨sg, 0, none⟩) n sc) (inM n g.i k), BxA (w.heap.size + 1) #[.int .i64 0, .slice none 0 0, .slice none 0 0] 29, BxA w.heap.size #[.int .i64 n, .slice ea m ec, .slice ia m1 ic, .slice oa m2 oc] 56, KeepA w]) (fun _ _ i _ => m1 - (intOf i).toNat)
  case atStart => exact ⟨0, _, by omega, rfl, HS2.out⟩
  case round =>
    obtain ⟨k, gv, hk, rfl, hs⟩ := hrel
    obtain ⟨ga, gc, rfl⟩ := OwnR.shape (show OwnR gateE 0 wr gv _ from hs.hd)
    rw [inGt_len] at hs
    have HSX := Lib.hid hs
    clear hs HS2
    obtain ⟨c0, c1, c2, _⟩ := bx3 HSX.out.tl.hd
    obtain ⟨y0, _⟩ := bx1 HSX.out.tl.tl.hd
    obtain ⟨x0, x1, x2, x3, _⟩ := bq4 HSX.out.tl.tl.tl.tl.tl.hd
    by_cases hlt : k < m1
    · have hki : (k : Int) < (m1 : Int) := by omega
      have hkl : k < g.i.length := by rw [HM1.out]; exact hlt
      obtain ⟨ib, io, rfl, _, q0⟩ := (HII.out.carry HSX.out.tl.tl.tl.tl.tl.tl.hd).atD hkl
      have hvr := HK.out.ri _ (getD_mem' hkl)
      obtain ⟨v, hv⟩ : ∃ v : Nat, g.i.getD k 0 = (v : Int) := ⟨(g.i.getD k 0).toNat, by omega⟩
      have hvn : v < n := by omega
      have hvi : (v : Int) < (n : Int) := by omega
      have HIM := Lib.hid (show inM n g.i (k + 1) = (inM n g.i k).set v (k : Int) from by show (inM n g.i k).set (g.i.getD k 0).toNat (k : Int) = _; rw [hv]; rfl)
      have hzl : n = (inM n g.i k).length := (inM_len n g.i k).symm
      have HZL := Lib.hid hzl
      rw [hv] at q0
      clear hvr hv hkl hzl
      go_upto_region 7 with (
        at_builtin
        go_loud (
        refine app_R (E := gateE) (y := ⟨1, 0, 0, (k : Int)⟩) info_gate rfl (by decide) Tryd.underlying26 (gate_one _) rfl (.tmp 35) (.tmp 38) rfl rfl rfl rfl HSX.out (by rw [inGt_len]; omega) ?_
        intro g5 c5 w5 h5
        rw [inGt_len] at h5 ⊢
        have h6 := Sep.blk (A := [_]) (B := [_]) h5
        obtain ⟨d0, d1, d2, _, f1, _⟩ := bx3 h6.hd
        have HS7 := Lib.hid (Sep.blk (A := [_]) (B := [_]) (h6.setB 1 (.slice (some ⟨g5, 0, none⟩) (k + 1) c5)))
        clear h5 h6 c0 c1 c2 y0 x0 x1 x2 x3))
      obtain ⟨y0, _⟩ := bx1 HS7.out.tl.tl.hd
      have hs3 := Sep.blk (A := [_, _, _]) (B := [_]) HS7.out
      have hf := (show OwnInts 0 _ _ (inM n g.i k) from hs3.hd).free HZL.out v
      obtain ⟨q, hc0⟩ := (show OwnInts 0 _ _ (inM n g.i k) from hs3.hd).cellQ HZL.out (j := v) hvn
      have hs4 := Sep.blk (A := [_]) (B := [_, _, _]) (hs3.setI HZL.out v (k : Int))
      rw [← HIM.out, ← inGt_succ] at hs4
      have HS8 := Lib.hid hs4
      clear hs3 hs4
      go_wp2_with fail
      go_roundw
      case rel => exact ⟨k + 1, .slice (some ⟨g5, 0, none⟩) (k + 1) c5, by omega, by go_num, HS8.out⟩
      case measure => simp [intOf]; omega
    · have hkm : m1 = k := by omega
      subst hkm
      have hkk : ¬ (m1 : Int) < (m1 : Int) := by omega
      have HBASE := Lib.hid (show inM n g.i g.i.length = inM n g.i m1 from by rw [HM1.out])
      have HS9 := Lib.hid (show Sep (wr.alloc (.cells #[] 84)) _ from Sep.emptyRC edgeE HSX.out wr.heap.size rfl)
      obtain ⟨z0, z1, z2, z3, _⟩ := bq4 HS9.out.tl.tl.tl.tl.tl.tl.hd
      go_wp2_with fail
      clear c0 c1 c2 y0 x0 x1 x2 x3 z0 z1 z2 z3
      go_loopw [7, 9, 10, 11, 50] (fun xv _ _ _ i wr => ∃ (j : Nat) (gv : Value) (xs : List XE), j ≤ m ∧ i = .int .i64 j ∧ eds xs = gtE (g.es.take j) ∧ (∀ W, w.grownBy W none → ∀ x ∈ xs, IntsV W x.iv x.ed.i ∧ IntsV W x.ov x.ed.o) ∧ Sep wr [OR edgeE xv (xs), OR gateE gv (inGt m1 ++ (gtE (g.es.take j)).map gt0), BxA (w.heap.size + 2) #[.int .i64 m1, gv, .slice none 0 0] 29, BxA sb #[.slice (some ⟨sg, 0, none⟩) n sc] 27, OI (.slice (some ⟨sg, 0, none⟩) n sc) ((gtM (inM n g.i m1) m1 g.es j).1), BxA (w.heap.size + 1) #[.int .i64 0, .slice none 0 0, .slice none 0 0] 29, BxA w.heap.size #[.int .i64 n, .slice ea m ec, .slice ia m1 ic, .slice oa m2 oc] 56, KeepA w]) (fun _ _ _ _ i _ => m - (intOf i).toNat)
      case atStart => exact ⟨0, _, [], by omega, rfl, rfl, (fun W hW x hx => by cases hx), by simpa [gtE, gtM] using HS9.out⟩
      case round =>
        obtain ⟨j, gv, xs, hj, rfl, hxe, hxr, hs⟩ := hrel
        obtain ⟨ga, gc, rfl⟩ := OwnR.shape (show OwnR gateE 0 wr gv _ from hs.tl.hd)
        obtain ⟨xa, xc, rfl⟩ := OwnR.shape (show OwnR edgeE 0 wr _ xs from hs.hd)
        have hgl : (inGt m1 ++ (gtE (g.es.take j)).map gt0).length = m1 + (gtM (inM n g.i m1) m1 g.es j).2 := by rw [List.length_append, inGt_len, List.length_map, gtM_cnt _ _ _ _ (by rw [HM.out]; exact hj)]
        rw [hgl] at hs
        have hcb : (gtM (inM n g.i m1) m1 g.es j).2 ≤ j := by rw [gtM_cnt _ _ _ _ (by rw [HM.out]; exact hj)]; have := gtE_len (g.es.take j); rw [List.length_take] at this; omega
        have HSX := Lib.hid hs; have HXE := Lib.hid hxe; have HXR := Lib.hid hxr; have HGL := Lib.hid hgl
        clear hs hxe hxr HS9 hgl
        obtain ⟨x0, x1, x2, x3, _⟩ := bq4 HSX.out.tl.tl.tl.tl.tl.tl.hd
        by_cases hlt : j < m
        · have hke : j < g.es.length := by rw [HM.out]; exact hlt
          have hji : (j : Int) < (m : Int) := by omega
          obtain ⟨eb, eo, u1, u2, rfl, hat⟩ := HE.out.atK rfl rfl hke
          obtain ⟨⟨q0, q1, q2, q3⟩, hqi, hqo⟩ := hat wr HSX.out.tl.tl.tl.tl.tl.tl.tl.hd
          have HGTM := Lib.hid (show gtM (inM n g.i m1) m1 g.es (j + 1) = if isGt (g.es.getD j e0) = true then ((gtM (inM n g.i m1) m1 g.es j).1.set ((g.es.getD j e0).o.getD 0 0).toNat ((m1 + (gtM (inM n g.i m1) m1 g.es j).2 : Nat) : Int), (gtM (inM n g.i m1) m1 g.es j).2 + 1) else gtM (inM n g.i m1) m1 g.es j from rfl)
          have HGTE := Lib.hid (gtE_step hke)
          have HYM := Lib.hid (esMem hke)
          have hsl : (gtM (inM n g.i m1) m1 g.es j).1.length = n := by rw [gtM_len, inM_len]
          obtain ⟨src, cnt, hsc⟩ : ∃ src cnt, gtM (inM n g.i m1) m1 g.es j = (src, cnt) := ⟨_, _, rfl⟩
          rw [hsc] at HSX HGL HGTM hsl hcb
          simp only at HSX HGL HGTM hsl hcb
          have HSC := Lib.hid hsc
          have HSL := Lib.hid hsl.symm
          obtain ⟨y, hy⟩ : ∃ y, g.es.getD j e0 = y := ⟨_, rfl⟩
          rw [hy] at q0 q1 hqi hqo hat HGTM HGTE HYM
          obtain ⟨s1, r1, hu1⟩ := hqi.shape
          obtain ⟨s2, r2, hu2⟩ := hqo.shape
          subst hu1 hu2
          have HYR := Lib.hid fun W (hW : w.grownBy W none) => (hat W hW).2
          have HGF := Lib.hid fun W => HGO.out y HYM.out s1 y.i.length r1 s2 y.o.length r2 W
          have hs2 := HSX.out.boxAt wr.heap.size rfl #[.int .i64 y.k, .int .i64 y.v, .slice s1 y.i.length r1, .slice s2 y.o.length r2] 84
          obtain ⟨z0, z1, z2, z3, _⟩ := bq4 hs2.hd
          have HS2 := Lib.hid hs2
          clear hqi hqo hat hke hs2 hy hsc hsl
          go_upto_region 14 with (
            go_at_call 110
            with_reducible refine (HGF.out _).mono ?_
            rintro e w3 ⟨rfl, hg⟩
            have hs3 := (HS2.out.grown hg).boxAt w3.heap.size rfl #[.int .i64 (gKd y.k), .int .i64 0, .int .i64 0, .int .i64 (gVl y.k y.v)] 98
            have HS3 := Lib.hid hs3
            clear hs3 hg)
          clear q0 q1 q2 q3 x0 x1 x2 x3 z0 z1 z2 z3 HSX
          generalize wr.heap.size = xb at *
          have hsg : decide (5 ≤ y.k) = isGt y := rfl
          rw [hsg]
          clear hsg
          cases hgt : isGt y
          · rw [hgt] at HGTM HGTE
            have HN1 := Lib.hid (show eds xs = gtE (g.es.take (j + 1)) from by rw [HGTE.out]; simpa using HXE.out)
            have HN2 := Lib.hid (show (gtM (inM n g.i m1) m1 g.es (j + 1)).1 = src from by rw [HGTM.out]; simp)
            have HN3 := Lib.hid (show gtE (g.es.take (j + 1)) = gtE (g.es.take j) from by rw [HGTE.out]; simp)
            clear hgt
            go_wp2_with fail
            go_roundw
            case rel => exact ⟨j + 1, _, xs, by omega, by go_num, HN1.out, HXR.out, by rw [HN2.out, HN3.out]; exact HS3.out.tl.tl⟩
            case measure => simp [intOf]; omega
          · rw [hgt] at HGTM HGTE
            have hol := HK.out.w5 y HYM.out hgt
            have hvr := (HK.out.re y HYM.out).2 _ (head_mem (l := y.o) (by omega))
            obtain ⟨v, hv⟩ : ∃ v : Nat, y.o.getD 0 0 = (v : Int) := ⟨(y.o.getD 0 0).toNat, by omega⟩
            have hvn : v < n := by omega
            have hvi : (v : Int) < (n : Int) := by omega
            have hyo := (HYR.out w (grownBy_refl _ _)).2
            obtain ⟨ob, oo, hoa, hob, hoc⟩ := hyo.atD (i := 0) (by omega)
            subst hoa
            rw [hol] at HS3 HYR ⊢
            rw [hv, Nat.add_zero] at hoc
            have HOB := Lib.hid hob; have HOC := Lib.hid hoc
            have HN1 := Lib.hid (show eds (xs ++ [(⟨y, .slice s1 y.i.length r1, .slice (some ⟨ob, oo, none⟩) 1 r2⟩ : XE)]) = gtE (g.es.take (j + 1)) from by rw [HGTE.out, if_pos rfl, ← HXE.out]; simp [eds])
            have HNR := Lib.hid (show ∀ W, w.grownBy W none → ∀ x ∈ xs ++ [(⟨y, .slice s1 y.i.length r1, .slice (some ⟨ob, oo, none⟩) 1 r2⟩ : XE)], IntsV W x.iv x.ed.i ∧ IntsV W x.ov x.ed.o from fun W hW x hx => by
              rcases List.mem_append.1 hx with hx | hx
              · exact HXR.out W hW x hx
              · rw [List.mem_singleton.1 hx]; exact HYR.out W hW)
            have HN2 := Lib.hid (show (gtM (inM n g.i m1) m1 g.es (j + 1)).1 = src.set v ((m1 + cnt : Nat) : Int) from by rw [HGTM.out, if_pos rfl, hv]; rfl)
            have HN3 := Lib.hid (show (inGt m1 ++ (gtE (g.es.take j)).map gt0) ++ [gt0 y] = inGt m1 ++ (gtE (g.es.take (j + 1))).map gt0 from by rw [HGTE.out, if_pos rfl, List.map_append, List.append_assoc]; rfl)
            have hxl : xs.length ≤ 60 := by
              have h1 : (eds xs).length = (gtE (g.es.take j)).length := by rw [HXE.out]
              have h2 := gtE_len (g.es.take j)
              rw [List.length_take] at h2
              unfold eds at h1
              rw [List.length_map] at h1
              omega
            clear hgt hvr hv hyo hob hoc hol
            go_upto_region 15 with fail
            generalize w3.alloc (.cells #[.int .i64 (gKd y.k), .int .i64 0, .int .i64 0, .int .i64 (gVl y.k y.v)] 98) = w4 at *
            obtain ⟨tb, htb⟩ : ∃ tb, w3.heap.size = tb := ⟨_, rfl⟩
            rw [htb] at HS3 ⊢
            have HSD := Lib.hid HS3.out.dr
            have HBM := Lib.hid fun (W1 : World) (L : List Asrt) (h : Sep W1 L) (h1 : BxA xb #[.int .i64 y.k, .int .i64 y.v, .slice s1 y.i.length r1, .slice (some ⟨ob, oo, none⟩) 1 r2] 84 ∈ L) (h2 : BxA (w.heap.size + 2) #[.int .i64 m1, (.slice ga (m1 + cnt) gc), .slice none 0 0] 29 ∈ L) (h3 : BxA sb #[.slice (some ⟨sg, 0, none⟩) n sc] 27 ∈ L) (h4 : KeepA w ∈ L) => show W1.cell? ⟨sb, 0, none⟩ = some (.slice (some ⟨sg, 0, none⟩) n sc) ∧ W1.cell? ⟨xb, 3, none⟩ = some (.slice (some ⟨ob, oo, none⟩) 1 r2) ∧ W1.cell? ⟨ob, oo, none⟩ = some (.int .i64 v) ∧ W1.cell? ⟨w.heap.size + 2, 1, none⟩ = some (.slice ga (m1 + cnt) gc) from by
              obtain ⟨_, _, _, a3, _⟩ := bq4 (show W1.heap[xb]? = some (.cells #[.int .i64 y.k, .int .i64 y.v, .slice s1 y.i.length r1, .slice (some ⟨ob, oo, none⟩) 1 r2] 84 (0, 0)) from Sep.all h _ h1)
              obtain ⟨_, b1, _⟩ := bx3 (show W1.heap[w.heap.size + 2]? = some (.cells #[.int .i64 m1, .slice ga (m1 + cnt) gc, .slice none 0 0] 29 (0, 0)) from Sep.all h _ h2)
              obtain ⟨d0, _⟩ := bx1 (show W1.heap[sb]? = some (.cells #[.slice (some ⟨sg, 0, none⟩) n sc] 27 (0, 0)) from Sep.all h _ h3)
              have hg : w.grownBy W1 none := Sep.all h _ h4
              exact ⟨d0, a3, (World.cell?_of_block (a := ⟨ob, oo, none⟩) (hg.block ob HOB.out (by simp))).trans HOC.out, b1⟩
            have X0 := Lib.hid (HBM.out _ _ HSD.out (by simp) (by simp) (by simp) (by simp))
            refine AnyL.start (fun W1 => W1.cell? ⟨sb, 0, none⟩ = some (.slice (some ⟨sg, 0, none⟩) n sc) ∧ W1.cell? ⟨xb, 3, none⟩ = some (.slice (some ⟨ob, oo, none⟩) 1 r2) ∧ W1.cell? ⟨ob, oo, none⟩ = some (.int .i64 v) ∧ W1.cell? ⟨w.heap.size + 2, 1, none⟩ = some (.slice ga (m1 + cnt) gc)) (fun _ => True) 99 (by kernel_rfl) ?_
            refine AnyL.take (i := 0) (v := ?vx1) (by rfl) (by kernel_rfl) (by kernel_rfl) (by kernel_rfl) rfl (by exact fun _ _ _ h => h) (by rfl) ?hyx1 (by exact ⟨X0.out, fun _ => trivial⟩) ?restx1
            case hyx1 => intro W hSW; (try dsimp only at hSW); first | (go_simp; done) | (go_simp; with_reducible rfl)
            try simp only [Act.put, List.setIfInBounds_toArray, List.set_cons_zero, List.set_cons_succ]
            refine AnyL.take (i := 1) (v := ?vx2) (by rfl) (by kernel_rfl) (by kernel_rfl) (by kernel_rfl) rfl (by exact fun _ _ _ h => h) (by rfl) ?hyx2 (by exact ⟨X0.out, fun _ => trivial⟩) ?restx2
            case hyx2 => intro W hSW; (try dsimp only at hSW); first | (go_simp; done) | (go_simp; with_reducible rfl)
            try simp only [Act.put, List.setIfInBounds_toArray, List.set_cons_zero, List.set_cons_succ]
            refine AnyL.take (i := 2) (v := ?vx3) (by rfl) (by kernel_rfl) (by kernel_rfl) (by kernel_rfl) rfl (by exact fun _ _ _ h => h) (by rfl) ?hyx3 (by exact ⟨X0.out, fun _ => trivial⟩) ?restx3
            case hyx3 => intro W hSW; (try dsimp only at hSW); first | (go_simp; done) | (go_simp; with_reducible rfl)
            try simp only [Act.put, List.setIfInBounds_toArray, List.set_cons_zero, List.set_cons_succ]
            refine AnyL.take (i := 3) (v := ?vx4) (by rfl) (by kernel_rfl) (by kernel_rfl) (by kernel_rfl) rfl (by exact fun _ _ _ h => h) (by rfl) ?hyx4 (by exact ⟨X0.out, fun _ => trivial⟩) ?restx4
            case hyx4 => intro W hSW; (try dsimp only at hSW); first | (go_simp; done) | (go_simp; with_reducible rfl)
            try simp only [Act.put, List.setIfInBounds_toArray, List.set_cons_zero, List.set_cons_succ]
            refine AnyL.take (i := 4) (v := ?vx5) (by rfl) (by kernel_rfl) (by kernel_rfl) (by kernel_rfl) rfl (by exact fun _ _ _ h => h) (by rfl) ?hyx5 (by exact ⟨X0.out, fun _ => trivial⟩) ?restx5
            case hyx5 => intro W hSW; (try dsimp only at hSW); first | (go_simp; done) | (go_simp; with_reducible rfl)
            try simp only [Act.put, List.setIfInBounds_toArray, List.set_cons_zero, List.set_cons_succ]
            refine AnyL.take (i := 5) (v := ?vx6) (by rfl) (by kernel_rfl) (by kernel_rfl) (by kernel_rfl) rfl (by exact fun _ _ _ h => h) (by rfl) ?hyx6 (by exact ⟨X0.out, fun _ => trivial⟩) ?restx6
            case hyx6 => intro W hSW; (try dsimp only at hSW); first | (go_simp; done) | (go_simp; with_reducible rfl)
            try simp only [Act.put, List.setIfInBounds_toArray, List.set_cons_zero, List.set_cons_succ]
            refine AnyL.take (i := 6) (v := ?vx7) (by rfl) (by kernel_rfl) (by kernel_rfl) (by kernel_rfl) rfl (by exact fun _ _ _ h => h) (by rfl) ?hyx7 (by exact ⟨X0.out, fun _ => trivial⟩) ?restx7
            case hyx7 => intro W hSW; (try dsimp only at hSW); first | (go_simp; done) | (go_simp; with_reducible rfl)
            try simp only [Act.put, List.setIfInBounds_toArray, List.set_cons_zero, List.set_cons_succ]
            refine AnyL.take (i := 7) (v := ?vx8) (by rfl) (by kernel_rfl) (by kernel_rfl) (by kernel_rfl) rfl (by exact fun _ _ _ h => h) (by rfl) ?hyx8 (by exact ⟨X0.out, fun _ => trivial⟩) ?restx8
            case hyx8 => intro W hSW; (try dsimp only at hSW); first | (go_simp; done) | (go_simp; with_reducible rfl)
            try simp only [Act.put, List.setIfInBounds_toArray, List.set_cons_zero, List.set_cons_succ]
            refine AnyL.take (i := 8) (v := ?vx9) (by rfl) (by kernel_rfl) (by kernel_rfl) (by kernel_rfl) rfl (by exact fun _ _ _ h => h) (by rfl) ?hyx9 (by exact ⟨X0.out, fun _ => trivial⟩) ?restx9
            case hyx9 => intro W hSW; (try dsimp only at hSW); first | (go_simp; done) | (go_simp; with_reducible rfl)
            try simp only [Act.put, List.setIfInBounds_toArray, List.set_cons_zero, List.set_cons_succ]
            have hs4 := Sep.blk (A := [_, _, _, _, _, _]) (B := [_]) HSD.out
            have hf := (show OwnInts 0 _ _ src from hs4.hd).free HSL.out v
            obtain ⟨q, hc0⟩ := (show OwnInts 0 _ _ src from hs4.hd).cellQ HSL.out (j := v) hvn
            have HS4 := Lib.hid (Sep.blk (A := [_]) (B := [_, _, _, _, _, _]) (hs4.setI HSL.out v ((m1 + cnt : Nat) : Int)))
            rw [← HN2.out] at HS4
            clear hs4
            refine AnyL.step (i := 9) (by kernel_rfl) (by rfl) (fun K hK => ?_)
            go_simp
            refine hK.out _ (w4.drew.setCell ⟨sg, v, none⟩ (.int .i64 ((m1 + cnt : Nat) : Int))) (by exact HBM.out _ _ HS4.out (by simp) (by simp) (by simp) (by simp)) (by exact fun _ => trivial) ?_
            clear hK K
            try simp only [Act.put, List.setIfInBounds_toArray, List.set_cons_zero, List.set_cons_succ]
            refine AnyL.done (by kernel_rfl) ?_ _
            clear hf hc0 X0 HS3 HSD
            generalize w4.drew.setCell ⟨sg, v, none⟩ (.int .i64 ((m1 + cnt : Nat) : Int)) = w5 at *
            obtain ⟨t0, t1, t2, t3, _⟩ := bq4 HS4.out.hd
            obtain ⟨c0, c1, c2, _⟩ := bx3 HS4.out.tl.tl.tl.tl.hd
            have HS5 := Lib.hid (Sep.blk (A := [_, _, _]) (B := [_]) HS4.out)
            have HLG := Lib.hid HGL.out
            go_upto_region 17 with (
              at_builtin
              go_loud (
              refine app_R (E := gateE) (y := gt0 y) info_gate rfl (by decide) Tryd.underlying26 (gate_one _) rfl (.tmp 70) (.tmp 72) rfl rfl rfl rfl HS5.out (by rw [HLG.out]; omega) ?_
              intro g5 c5 w6 h5
              rw [HLG.out, HN3.out] at h5
              try rw [HLG.out]
              have h6 := Sep.blk (A := [_, _, _, _]) (B := [_]) h5
              obtain ⟨d0, d1, d2, _, f1, _⟩ := bx3 h6.hd
              have HS7 := Lib.hid (h6.setB 1 (.slice (some ⟨g5, 0, none⟩) (m1 + cnt + 1) c5))
              clear h5 h6 c0 c1 c2 t0 t1 t2 t3))
            generalize w6.setCell ⟨w.heap.size + 2, 1, none⟩ (.slice (some ⟨g5, 0, none⟩) (m1 + cnt + 1) c5) = w7 at *
            obtain ⟨k0, k1, k2, k3, _⟩ := bq4 HS7.out.tl.tl.tl.hd
            have HS8 := Lib.hid (Sep.blk (A := [_, _, _, _]) (B := [_]) HS7.out)
            go_wp2_with (
              at_builtin
              go_loud (
              refine app_R (E := edgeE) (y := ⟨y, .slice s1 y.i.length r1, .slice (some ⟨ob, oo, none⟩) 1 r2⟩) info_edge rfl (by decide) Tryd.underlying54 (edge_oneC _ _ _ _ _ _ _) rfl (.tmp 75) (.tmp 77) rfl rfl rfl rfl HS8.out (by omega) ?_
              intro g8 c8 w8 h8
              have h9 := Sep.cutA (X := [_, _, _]) (A := [_, _]) h8
              have HS9 := Lib.hid (Sep.blk3 (X := [_]) (A := [_]) (B := [_]) h9)
              clear h8 h9 k0 k1 k2 k3))
            go_roundw
            case rel => exact ⟨j + 1, .slice (some ⟨g5, 0, none⟩) (m1 + cnt + 1) c5, xs ++ [(⟨y, .slice s1 y.i.length r1, .slice (some ⟨ob, oo, none⟩) 1 r2⟩ : XE)], by omega, by go_num, HN1.out, HNR.out, HS9.out⟩
            case measure => simp [intOf]; omega
        · have hjm : m = j := by omega
          subst hjm
          have hjj : ¬ (m : Int) < (m : Int) := by omega
          have htk : g.es.take m = g.es := List.take_of_length_le (by rw [HM.out]; exact Nat.le_refl _)
          have hs1 := HSX.out
          have hxe := HXE.out
          have hgl := HGL.out
          rw [htk] at hs1 hxe hgl
          have hsr : (gtM (inM n g.i m1) m1 g.es m).1 = srcG n g := by unfold srcG; rw [HM.out, HM1.out]
          rw [hsr] at hs1
          obtain ⟨cnt, hcnt⟩ : ∃ c, (gtM (inM n g.i m1) m1 g.es m).2 = c := ⟨_, rfl⟩
          rw [hcnt] at hs1 hgl hcb
          have hml : (gtE g.es).length = cnt := by rw [List.length_append, inGt_len, List.length_map] at hgl; omega
          have hxl : xs.length = cnt := by rw [← hml, ← hxe]; simp [eds]
          rw [hxl] at hs1 ⊢
          rw [← gtsI_zero (srcV (srcG n g) g.es)] at hs1
          have HXX := Lib.hid hxe; have HML := Lib.hid hml; have HXL := Lib.hid hxl
          have HS1 := Lib.hid hs1
          clear hs1 hxe hgl htk hsr hcnt hml hxl HSX HXE HGL
          have HKW := Lib.hid (show w.grownBy wr none from HS1.out.tl.tl.tl.tl.tl.tl.tl.hd)
          go_upto_region 20 with (
            go_at_call 111
            with_reducible refine (HEN.out _ HKW.out).mono ?_
            rintro e w3 ⟨b, bc, d, dc, zs, ys, rfl, hoz, hyl, hsg⟩
            have HOZ := Lib.hid hoz
            have HS3 := Lib.hid ((HS1.out.graft2 hsg OI_own OI_own).boxAt w3.heap.size rfl #[.slice (some ⟨b, 0, none⟩) n bc, .slice (some ⟨d, 0, none⟩) n dc] 135)
            clear hsg hoz hyl)
          generalize w3.alloc (.cells #[.slice (some ⟨b, 0, none⟩) n bc, .slice (some ⟨d, 0, none⟩) n dc] 135) = w4 at *
          obtain ⟨tb, htb⟩ : ∃ tb, w3.heap.size = tb := ⟨_, rfl⟩
          rw [htb] at HS3 ⊢
          have hs4 : Sep w4 [BxA tb #[.slice (some ⟨b, 0, none⟩) n bc, .slice (some ⟨d, 0, none⟩) n dc] 135, OI (.slice (some ⟨b, 0, none⟩) n bc) zs, OI (.slice (some ⟨d, 0, none⟩) n dc) ys, OR edgeE (.slice xa cnt xc) xs, OR gateE (.slice ga (m1 + cnt) gc) (gtsI (srcV (srcG n g) g.es) (inGt m1) (gtE g.es) 0), BxA (w.heap.size + 2) #[.int .i64 m1, .slice ga (m1 + cnt) gc, .slice none 0 0] 29, BxA sb #[.slice (some ⟨sg, 0, none⟩) n sc] 27, OI (.slice (some ⟨sg, 0, none⟩) n sc) (srcG n g), BxA (w.heap.size + 1) #[.int .i64 0, .slice none 0 0, .slice none 0 0] 29, BxA w.heap.size #[.int .i64 n, .slice ea m ec, .slice ia m1 ic, .slice oa m2 oc] 56, KeepA w] := HS3.out
          have hs5 := Sep.blk (A := [_, _, _, _, _, _]) (B := [_, _]) hs4
          have hs6 := Sep.blk (A := [_]) (B := [_]) hs5
          have hs7 := Sep.blk3 (X := [_, _]) (A := [_, _, _, _, _, _, _]) (B := [_]) hs6
          have HS5 := Lib.hid hs7
          clear hs4 hs5 hs6 hs7 HS3 HS1 HKW
          have HFR := Lib.hid fun (v : Nat) (hv : v < n) W l (hg : w.grownBy W none) (hs : Sep W (OI (.slice (some ⟨sg, 0, none⟩) n sc) (srcG n g) :: BxA sb #[.slice (some ⟨sg, 0, none⟩) n sc] 27 :: BxA w.heap.size #[.int .i64 n, .slice ea m ec, .slice ia m1 ic, .slice oa m2 oc] 56 :: BxA tb #[.slice (some ⟨b, 0, none⟩) n bc, .slice (some ⟨d, 0, none⟩) n dc] 135 :: OI (.slice (some ⟨b, 0, none⟩) n bc) zs :: l)) => (show Calls Tryd.prog 112 #[.int .i64 v, .pointer (some ⟨sb, 0, none⟩), .pointer (some ⟨w.heap.size, 0, none⟩), .pointer (some ⟨tb, 0, none⟩)] W fun e w' => e = .returned (.int .i64 (srcV (srcG n g) g.es v)) ∧ W.grownBy w' none from from_any g n sb w.heap.size tb sg b sc bc m1 ic m2 oc ec ea ia oa _ zs v W l HK.out HAC.out (by rw [HM.out]; exact hs) (HE.out.carry hg) HOZ.out hv)
          obtain ⟨x0, x1, x2, x3, _⟩ := bq4 HS5.out.tl.tl.hd
          go_upto_region 22 with fail
          clear x0 x1 x2 x3
          go_loopw [14, 15, 16, 85] (fun _ _ _ i wr => ∃ k : Nat, k ≤ cnt ∧ i = .int .i64 k ∧ Sep wr [OI (.slice (some ⟨sg, 0, none⟩) n sc) (srcG n g), BxA sb #[.slice (some ⟨sg, 0, none⟩) n sc] 27, BxA w.heap.size #[.int .i64 n, .slice ea m ec, .slice ia m1 ic, .slice oa m2 oc] 56, BxA tb #[.slice (some ⟨b, 0, none⟩) n bc, .slice (some ⟨d, 0, none⟩) n dc] 135, OI (.slice (some ⟨b, 0, none⟩) n bc) zs, OI (.slice (some ⟨d, 0, none⟩) n dc) ys, OR edgeE (.slice xa cnt xc) xs, OR gateE (.slice ga (m1 + cnt) gc) (gtsI (srcV (srcG n g) g.es) (inGt m1) (gtE g.es) k), BxA (w.heap.size + 2) #[.int .i64 m1, .slice ga (m1 + cnt) gc, .slice none 0 0] 29, BxA (w.heap.size + 1) #[.int .i64 0, .slice none 0 0, .slice none 0 0] 29, KeepA w]) (fun _ _ _ i _ => cnt - (intOf i).toNat)
          case atStart => exact ⟨0, by omega, rfl, HS5.out⟩
          case round =>
            obtain ⟨k, hkc, rfl, hs⟩ := hrel
            have HSX := Lib.hid hs
            clear hs HS5
            have hkl := (show w.grownBy wr none from HSX.out.tl.tl.tl.tl.tl.tl.tl.tl.tl.tl.hd)
            by_cases hlt : k < cnt
            · have hkM : k < (gtE g.es).length := by rw [HML.out]; exact hlt
              have hkx : k < xs.length := by rw [HXL.out]; exact hlt
              have hki : (k : Int) < (cnt : Int) := by omega
              obtain ⟨eb, eo, rfl, q0, q1, q2, q3⟩ := OR.edgeAt HSX.out.tl.tl.tl.tl.tl.tl.hd hkx
              have HXM := Lib.hid (show xs.getD k xe0 ∈ xs from by rw [List.getD_eq_getElem?_getD, List.getElem?_eq_getElem hkx]; exact List.getElem_mem _)
              have HYE := Lib.hid (show (xs.getD k xe0).ed = (gtE g.es).getD k e0 from by rw [← HXX.out, eds_at])
              have HYM := Lib.hid (gtE_mem (esMem hkM))
              have HCUT := Lib.hid (gtsI_cut (S := srcV (srcG n g) g.es) (a := inGt m1) hkM)
              have HNXT := Lib.hid (gtsI_next (S := srcV (srcG n g) g.es) (a := inGt m1) hkM)
              have HAL := Lib.hid (show (inGt m1 ++ ((gtE g.es).take k).map (gtB (srcV (srcG n g) g.es))).length = m1 + k from by rw [List.length_append, inGt_len, List.length_map, List.length_take]; omega)
              have HTL := Lib.hid (gtsI_len (srcV (srcG n g) g.es) (inGt m1) (gtE g.es) (i := k) (by omega))
              rw [← HYE.out] at HCUT HNXT HYM
              obtain ⟨x, hx⟩ : ∃ x, xs.getD k xe0 = x := ⟨_, rfl⟩
              rw [hx] at q0 q1 q2 q3 HXM HCUT HNXT HYM
              clear HYE hx
              obtain ⟨y, xiv, xov⟩ := x
              simp only at q0 q1 q2 q3 HCUT HNXT HYM
              have HYR := Lib.hid fun W (hW : w.grownBy W none) => HXR.out W hW _ HXM.out
              simp only at HYR
              obtain ⟨s1, r1, hu1⟩ := (HYR.out w (grownBy_refl _ _)).1.shape
              obtain ⟨s2, r2, hu2⟩ := (HYR.out w (grownBy_refl _ _)).2.shape
              subst hu1 hu2
              have hrl := (HK.out.rl y HYM.out).1
              have hre := (HK.out.re y HYM.out).1
              rw [inGt_len, HML.out] at HTL
              obtain ⟨gg, gcp, hge, _, _, _⟩ := OwnR.parts (show OwnR gateE 0 wr (.slice ga (m1 + cnt) gc) _ from HSX.out.tl.tl.tl.tl.tl.tl.tl.hd) (by rw [HTL.out]; omega)
              rw [HTL.out] at hge
              injection hge with hge1 _ hge2
              subst hge1 hge2
              have hs2 := HSX.out
              rw [HCUT.out] at hs2
              have HAG := Lib.hid (show m1 + cnt = ((inGt m1 ++ ((gtE g.es).take k).map (gtB (srcV (srcG n g) g.es))) ++ gt0 y :: ((gtE g.es).drop (k + 1)).map gt0).length from by rw [← HCUT.out]; exact HTL.out.symm)
              obtain ⟨AA, hAA⟩ : ∃ A, inGt m1 ++ ((gtE g.es).take k).map (gtB (srcV (srcG n g) g.es)) = A := ⟨_, rfl⟩
              obtain ⟨BB, hBB⟩ : ∃ B, ((gtE g.es).drop (k + 1)).map gt0 = B := ⟨_, rfl⟩
              rw [hAA, hBB] at hs2 HNXT HAG
              rw [hAA] at HAL
              have hs3 := hs2.boxAt wr.heap.size rfl #[.int .i64 y.k, .int .i64 y.v, .slice s1 y.i.length r1, .slice s2 y.o.length r2] 84
              have hs4 := Sep.blk (A := [_]) (B := [_, _, _, _, _]) hs3
              obtain ⟨z0, z1, z2, z3, _⟩ := bq4 hs4.tl.tl.tl.tl.tl.hd
              obtain ⟨x0, x1, x2, x3, _⟩ := bq4 hs4.tl.tl.hd
              obtain ⟨c0, c1, c2, _⟩ := bx3 hs4.tl.tl.tl.tl.tl.tl.tl.tl.tl.hd
              have HS4 := Lib.hid hs4
              have hwr : IntKind.i64.wrap ((m1 : Int) + (k : Int)) = ((m1 + k : Nat) : Int) := by rw [wrap_id (by omega) (by omega)]; omega
              have hmk : ((m1 + k : Nat) : Int) < ((m1 + cnt : Nat) : Int) := by omega
              have HK4 := Lib.hid (show w.grownBy _ none from hs4.tl.tl.tl.tl.tl.tl.tl.tl.tl.tl.tl.hd)
              clear hs2 hs3 hs4 HCUT HTL hAA hBB HSX hkl HXM
              go_upto_region 25 with fail
              generalize wr.alloc (.cells #[.int .i64 y.k, .int .i64 y.v, .slice s1 y.i.length r1, .slice s2 y.o.length r2] 84) = w5 at *
              generalize wr.heap.size = xb at *
              clear q0 q1 q2 q3 x0 x1 x2 x3 z0 z1 z2 z3 c0 c1 c2
              obtain ⟨yk, yv, yi, yo⟩ := y
              simp only at HYR HNXT HAG HS4 hrl hre HYM
              obtain ⟨z0, z1, z2, z3, _⟩ := bq4 HS4.out.tl.tl.tl.tl.tl.hd
              obtain rfl | ⟨a, rfl⟩ | ⟨a, c, rfl⟩ := two_cases hrl
              · have HNX2 := HNXT.out
                have eg : gtB (srcV (srcG n g) g.es) ⟨yk, yv, [], yo⟩ = gt0 ⟨yk, yv, [], yo⟩ := rfl
                rw [eg] at HNX2
                have HN9 := Lib.hid HNX2
                clear HNX2 eg HNXT
                have HS9 := Lib.hid (Sep.cutA (X := [_, _, _, _, _]) (A := [_]) HS4.out)
                go_wp2_with fail
                go_roundw
                case rel => exact ⟨k + 1, by omega, by go_num, by rw [HN9.out]; exact HS9.out⟩
                case measure => simp [intOf]; omega
              · have har := hre a (by simp)
                obtain ⟨an, han⟩ : ∃ v : Nat, a = (v : Int) := ⟨a.toNat, by omega⟩
                subst han
                have hal : an < n := by omega
                obtain ⟨ib, io, hia, hib, hic⟩ := (HYR.out w (grownBy_refl _ _)).1.atD (i := 0) (by simp)
                subst hia
                have hic := (World.cell?_of_block (a := ⟨ib, io + 0, none⟩) (HK4.out.block ib hib (by simp))).trans hic
                rw [Nat.add_zero] at hic
                simp only [List.getD_cons_zero] at hic
                have HS5 := Lib.hid (show Sep w5 [OI (.slice (some ⟨sg, 0, none⟩) n sc) (srcG n g), BxA sb #[.slice (some ⟨sg, 0, none⟩) n sc] 27, BxA w.heap.size #[.int .i64 n, .slice ea m ec, .slice ia m1 ic, .slice oa m2 oc] 56, BxA tb #[.slice (some ⟨b, 0, none⟩) n bc, .slice (some ⟨d, 0, none⟩) n dc] 135, OI (.slice (some ⟨b, 0, none⟩) n bc) zs, BxA xb #[.int .i64 yk, .int .i64 yv, .slice (some ⟨ib, io, none⟩) 1 r1, .slice s2 yo.length r2] 84, OI (.slice (some ⟨d, 0, none⟩) n dc) ys, OR edgeE (.slice (some ⟨eb, eo, none⟩) cnt xc) xs, OR gateE (.slice (some ⟨gg, 0, none⟩) (m1 + cnt) gc) (AA ++ gt0 ⟨yk, yv, [(an : Int)], yo⟩ :: BB), BxA (w.heap.size + 2) #[.int .i64 m1, .slice (some ⟨gg, 0, none⟩) (m1 + cnt) gc, .slice none 0 0] 29, BxA (w.heap.size + 1) #[.int .i64 0, .slice none 0 0, .slice none 0 0] 29, KeepA w] from HS4.out)
                have HSe := Lib.hid (show gtB (srcV (srcG n g) g.es) ⟨yk, yv, [(an : Int)], yo⟩ = gtA (srcV (srcG n g) g.es) ⟨yk, yv, [(an : Int)], yo⟩ from rfl)
                go_upto_region 27 with (
                  (go_at_call 112
                   go_loud (
                   with_reducible refine (HFR.out an hal _ _ HK4.out HS5.out).mono ?_
                   rintro e w6 ⟨rfl, hg⟩
                   have hs5 := Sep.blk (A := [_, _, _, _, _, _, _, _]) (B := [_]) (HS5.out.grown hg)
                   obtain ⟨hs6, ⟨qq, hq⟩, hfz⟩ := hs5.setGm (y := (gtA (srcV (srcG n g) g.es) ⟨yk, yv, [(an : Int)], yo⟩)) (j := 1) (u := .int .i64 (srcV (srcG n g) g.es an)) HAG.out HAL.out (by decide) (by simp [gateC, gt0, gtA])
                   have HS7 := Lib.hid (Sep.blk (A := [_]) (B := [_, _, _, _, _, _, _, _]) hs6)
                   clear hs5 hs6 hg)))
                generalize w6.setCell ⟨gg, (m1 + k) * 4 + 1, none⟩ (.int .i64 (srcV (srcG n g) g.es an)) = w8 at *
                have HS8 := Lib.hid (show Sep w8 [OI (.slice (some ⟨sg, 0, none⟩) n sc) (srcG n g), BxA sb #[.slice (some ⟨sg, 0, none⟩) n sc] 27, BxA w.heap.size #[.int .i64 n, .slice ea m ec, .slice ia m1 ic, .slice oa m2 oc] 56, BxA tb #[.slice (some ⟨b, 0, none⟩) n bc, .slice (some ⟨d, 0, none⟩) n dc] 135, OI (.slice (some ⟨b, 0, none⟩) n bc) zs, BxA xb #[.int .i64 yk, .int .i64 yv, .slice (some ⟨ib, io, none⟩) 1 r1, .slice s2 yo.length r2] 84, OI (.slice (some ⟨d, 0, none⟩) n dc) ys, OR edgeE (.slice (some ⟨eb, eo, none⟩) cnt xc) xs, OR gateE (.slice (some ⟨gg, 0, none⟩) (m1 + cnt) gc) (AA ++ gtA (srcV (srcG n g) g.es) ⟨yk, yv, [(an : Int)], yo⟩ :: BB), BxA (w.heap.size + 2) #[.int .i64 m1, .slice (some ⟨gg, 0, none⟩) (m1 + cnt) gc, .slice none 0 0] 29, BxA (w.heap.size + 1) #[.int .i64 0, .slice none 0 0, .slice none 0 0] 29, KeepA w] from HS7.out)
                obtain ⟨t0, t1, t2, t3, _⟩ := bq4 HS8.out.tl.tl.tl.tl.tl.hd
                clear hic z0 z1 z2 z3 hq hfz
                go_wp2_with fail
                go_roundw
                case rel => exact ⟨k + 1, by omega, by go_num, by rw [HNXT.out, HSe.out]; exact Sep.cutA (X := [_, _, _, _, _]) (A := [_]) HS8.out⟩
                case measure => simp [intOf]; omega
              · have har := hre a (by simp)
                obtain ⟨an, han⟩ : ∃ v : Nat, a = (v : Int) := ⟨a.toNat, by omega⟩
                subst han
                have hal : an < n := by omega
                have hcr := hre c (by simp)
                obtain ⟨cn, hcn⟩ : ∃ v : Nat, c = (v : Int) := ⟨c.toNat, by omega⟩
                subst hcn
                have hcl : cn < n := by omega
                obtain ⟨ib, io, hia, hib, hic⟩ := (HYR.out w (grownBy_refl _ _)).1.atD (i := 0) (by simp)
                subst hia
                obtain ⟨ib2, io2, hia2, hib2, hic2⟩ := (HYR.out w (grownBy_refl _ _)).1.atD (i := 1) (by simp)
                injection hia2 with hia2
                injection hia2 with hb2 ho2 _
                subst hb2 ho2
                have HIC2 := Lib.hid hic2
                have HIB := Lib.hid hib
                have hic := (World.cell?_of_block (a := ⟨ib, io + 0, none⟩) (HK4.out.block ib hib (by simp))).trans hic
                rw [Nat.add_zero] at hic
                simp only [List.getD_cons_zero] at hic
                clear hic2
                have HS5 := Lib.hid (show Sep w5 [OI (.slice (some ⟨sg, 0, none⟩) n sc) (srcG n g), BxA sb #[.slice (some ⟨sg, 0, none⟩) n sc] 27, BxA w.heap.size #[.int .i64 n, .slice ea m ec, .slice ia m1 ic, .slice oa m2 oc] 56, BxA tb #[.slice (some ⟨b, 0, none⟩) n bc, .slice (some ⟨d, 0, none⟩) n dc] 135, OI (.slice (some ⟨b, 0, none⟩) n bc) zs, BxA xb #[.int .i64 yk, .int .i64 yv, .slice (some ⟨ib, io, none⟩) 2 r1, .slice s2 yo.length r2] 84, OI (.slice (some ⟨d, 0, none⟩) n dc) ys, OR edgeE (.slice (some ⟨eb, eo, none⟩) cnt xc) xs, OR gateE (.slice (some ⟨gg, 0, none⟩) (m1 + cnt) gc) (AA ++ gt0 ⟨yk, yv, [(an : Int), (cn : Int)], yo⟩ :: BB), BxA (w.heap.size + 2) #[.int .i64 m1, .slice (some ⟨gg, 0, none⟩) (m1 + cnt) gc, .slice none 0 0] 29, BxA (w.heap.size + 1) #[.int .i64 0, .slice none 0 0, .slice none 0 0] 29, KeepA w] from HS4.out)
                have h12 : (1 : Int) < ((2 : Nat) : Int) := by decide
                have h02 : (0 : Int) < ((2 : Nat) : Int) := by decide
                go_upto_region 27 with (
                  (go_at_call 112
                   go_loud (
                   with_reducible refine (HFR.out an hal _ _ HK4.out HS5.out).mono ?_
                   rintro e w6 ⟨rfl, hg⟩
                   have hs5 := Sep.blk (A := [_, _, _, _, _, _, _, _]) (B := [_]) (HS5.out.grown hg)
                   obtain ⟨hs6, ⟨qq, hq⟩, hfz⟩ := hs5.setGm (y := (gtA (srcV (srcG n g) g.es) ⟨yk, yv, [(an : Int), (cn : Int)], yo⟩)) (j := 1) (u := .int .i64 (srcV (srcG n g) g.es an)) HAG.out HAL.out (by decide) (by simp [gateC, gt0, gtA])
                   have HS7 := Lib.hid (Sep.blk (A := [_]) (B := [_, _, _, _, _, _, _, _]) hs6)
                   clear hs5 hs6 hg)))
                generalize w6.setCell ⟨gg, (m1 + k) * 4 + 1, none⟩ (.int .i64 (srcV (srcG n g) g.es an)) = w8 at *
                have HS8 := Lib.hid (show Sep w8 [OI (.slice (some ⟨sg, 0, none⟩) n sc) (srcG n g), BxA sb #[.slice (some ⟨sg, 0, none⟩) n sc] 27, BxA w.heap.size #[.int .i64 n, .slice ea m ec, .slice ia m1 ic, .slice oa m2 oc] 56, BxA tb #[.slice (some ⟨b, 0, none⟩) n bc, .slice (some ⟨d, 0, none⟩) n dc] 135, OI (.slice (some ⟨b, 0, none⟩) n bc) zs, BxA xb #[.int .i64 yk, .int .i64 yv, .slice (some ⟨ib, io, none⟩) 2 r1, .slice s2 yo.length r2] 84, OI (.slice (some ⟨d, 0, none⟩) n dc) ys, OR edgeE (.slice (some ⟨eb, eo, none⟩) cnt xc) xs, OR gateE (.slice (some ⟨gg, 0, none⟩) (m1 + cnt) gc) (AA ++ gtA (srcV (srcG n g) g.es) ⟨yk, yv, [(an : Int), (cn : Int)], yo⟩ :: BB), BxA (w.heap.size + 2) #[.int .i64 m1, .slice (some ⟨gg, 0, none⟩) (m1 + cnt) gc, .slice none 0 0] 29, BxA (w.heap.size + 1) #[.int .i64 0, .slice none 0 0, .slice none 0 0] 29, KeepA w] from HS7.out)
                have HK8 := Lib.hid (show w.grownBy w8 none from HS8.out.tl.tl.tl.tl.tl.tl.tl.tl.tl.tl.tl.hd)
                obtain ⟨t0, t1, t2, t3, _⟩ := bq4 HS8.out.tl.tl.tl.tl.tl.hd
                have hid := (World.cell?_of_block (a := ⟨ib, io + 1, none⟩) (HK8.out.block ib HIB.out (by simp))).trans HIC2.out
                have hid : w8.cell? ⟨ib, io + 1, none⟩ = some (.int .i64 (cn : Int)) := hid
                have HAG2 := Lib.hid (show m1 + cnt = (AA ++ gtA (srcV (srcG n g) g.es) ⟨yk, yv, [(an : Int), (cn : Int)], yo⟩ :: BB).length from by have := HAG.out; rw [List.length_append, List.length_cons] at this ⊢; exact this)
                clear hic z0 z1 z2 z3 hq hfz
                go_wp2_with (
                  (go_at_call 112
                   go_loud (
                   with_reducible refine (HFR.out cn hcl _ _ HK8.out HS8.out).mono ?_
                   rintro e w9 ⟨rfl, hg⟩
                   have hs5 := Sep.blk (A := [_, _, _, _, _, _, _, _]) (B := [_]) (HS8.out.grown hg)
                   obtain ⟨hs6, ⟨qq, hq⟩, hfz⟩ := hs5.setGm (y := (gtB (srcV (srcG n g) g.es) ⟨yk, yv, [(an : Int), (cn : Int)], yo⟩)) (j := 2) (u := .int .i64 (srcV (srcG n g) g.es cn)) HAG2.out HAL.out (by decide) (by simp [gateC, gtA, gtB])
                   have HS10 := Lib.hid (Sep.blk (A := [_]) (B := [_, _, _, _, _, _, _, _]) hs6)
                   clear hs5 hs6 hg)))
                go_roundw
                case rel => exact ⟨k + 1, by omega, by go_num, by rw [HNXT.out]; exact Sep.cutA (X := [_, _, _, _, _]) (A := [_]) HS10.out⟩
                case measure => simp [intOf]; omega
            · have hkc2 : cnt = k := by omega
              subst hkc2
              have hkk : ¬ (cnt : Int) < (cnt : Int) := by omega
              have hga := gtsI_all (srcV (srcG n g) g.es) (inGt m1) (gtE g.es)
              rw [HML.out] at hga
              have hs2 := HSX.out
              rw [hga] at hs2
              have hs3 := Sep.cutA (X := [_, _, _, _, _]) (A := [_, _]) hs2
              have HS6 := Lib.hid (show Sep wr [OI (.slice (some ⟨sg, 0, none⟩) n sc) (srcG n g), BxA sb #[.slice (some ⟨sg, 0, none⟩) n sc] 27, BxA w.heap.size #[.int .i64 n, .slice ea m ec, .slice ia m1 ic, .slice oa m2 oc] 56, BxA tb #[.slice (some ⟨b, 0, none⟩) n bc, .slice (some ⟨d, 0, none⟩) n dc] 135, OI (.slice (some ⟨b, 0, none⟩) n bc) zs, OI (.slice none 0 0) ([]), OR gateE (.slice ga (m1 + cnt) gc) (inGt m1 ++ (gtE g.es).map (gtB (srcV (srcG n g) g.es))), BxA (w.heap.size + 2) #[.int .i64 m1, .slice ga (m1 + cnt) gc, .slice none 0 0] 29, BxA (w.heap.size + 1) #[.int .i64 0, .slice none 0 0, .slice none 0 0] 29, KeepA w] from Sep.blk (A := [_]) (B := [_, _, _, _, _]) hs3.nilI)
              have HGSL := Lib.hid (show (inGt m1 ++ (gtE g.es).map (gtB (srcV (srcG n g) g.es))).length = m1 + cnt from by rw [List.length_append, inGt_len, List.length_map, HML.out])
              obtain ⟨x0, x1, x2, x3, _⟩ := bq4 HS6.out.tl.tl.hd
              clear hs2 hs3 hga HSX hkl
              go_upto_region 31 with fail
              clear x0 x1 x2 x3
              go_loopw [18, 128] (fun _ i wr => ∃ (t : Nat) (vv : Value), t ≤ m2 ∧ i = .int .i64 t ∧ Sep wr [OI (.slice (some ⟨sg, 0, none⟩) n sc) (srcG n g), BxA sb #[.slice (some ⟨sg, 0, none⟩) n sc] 27, BxA w.heap.size #[.int .i64 n, .slice ea m ec, .slice ia m1 ic, .slice oa m2 oc] 56, BxA tb #[.slice (some ⟨b, 0, none⟩) n bc, .slice (some ⟨d, 0, none⟩) n dc] 135, OI (.slice (some ⟨b, 0, none⟩) n bc) zs, OI vv ((g.o.take t).map (srcV (srcG n g) g.es)), OR gateE (.slice ga (m1 + cnt) gc) (inGt m1 ++ (gtE g.es).map (gtB (srcV (srcG n g) g.es))), BxA (w.heap.size + 2) #[.int .i64 m1, .slice ga (m1 + cnt) gc, vv] 29, BxA (w.heap.size + 1) #[.int .i64 0, .slice none 0 0, .slice none 0 0] 29, KeepA w]) (fun _ i _ => m2 - (intOf i).toNat)
              case atStart => exact ⟨0, _, by omega, rfl, HS6.out⟩
              case round =>
                obtain ⟨t, vv, htm, rfl, hs⟩ := hrel
                obtain ⟨va, vc, rfl⟩ := own_shape (show OwnInts 0 wr vv _ from hs.tl.tl.tl.tl.tl.hd)
                have htl : ((g.o.take t).map (srcV (srcG n g) g.es)).length = t := by rw [List.length_map, List.length_take, HM2.out]; omega
                rw [htl] at hs
                have HTL := Lib.hid htl
                have HSX := Lib.hid hs
                clear hs htl HS6
                by_cases hlt : t < m2
                · have hkl : t < g.o.length := by rw [HM2.out]; exact hlt
                  have hti : (t : Int) < (m2 : Int) := by omega
                  obtain ⟨ib, io, rfl, _, q0⟩ := (HOO.out.carry HSX.out.tl.tl.tl.tl.tl.tl.tl.tl.tl.hd).atD hkl
                  have hvr := HK.out.ro _ (getD_mem' hkl)
                  obtain ⟨v, hv⟩ : ∃ v : Nat, g.o.getD t 0 = (v : Int) := ⟨(g.o.getD t 0).toNat, by omega⟩
                  have hvn : v < n := by omega
                  have HOT := Lib.hid (show (g.o.take (t + 1)).map (srcV (srcG n g) g.es) = (g.o.take t).map (srcV (srcG n g) g.es) ++ [srcV (srcG n g) g.es v] from by rw [List.take_succ_eq_append_getElem hkl, List.map_append, ← hv, List.getD_eq_getElem?_getD, List.getElem?_eq_getElem hkl]; rfl)
                  rw [hv] at q0
                  clear hvr hv hkl
                  go_upto_region 33 with fail
                  clear q0
                  have HSD := Lib.hid HSX.out.dr
                  have Y0 := Lib.hid (bx3 HSD.out.tl.tl.tl.tl.tl.tl.tl.hd).2.2.1
                  have HKD := Lib.hid (show w.grownBy _ none from HSD.out.tl.tl.tl.tl.tl.tl.tl.tl.tl.hd)
                  obtain ⟨ww, hww⟩ : ∃ x, srcV (srcG n g) g.es v = x := ⟨_, rfl⟩
                  have HFV := Lib.hid (HFR.out v hvn)
                  rw [hww] at HFV HOT
                  clear hww
                  refine AnyL.start (fun _ => True) (fun W1 => W1.cell? ⟨w.heap.size + 2, 2, none⟩ = some (.slice va t vc)) 8 (by kernel_rfl) ?_
                  refine AnyL.take (i := 0) (v := ?vx10) (by rfl) (by kernel_rfl) (by kernel_rfl) (by kernel_rfl) rfl (by exact fun _ _ _ h => h) (by rfl) ?hyx10 (by exact ⟨trivial, fun _ => Y0.out⟩) ?restx10
                  case hyx10 => intro W hSW; (try dsimp only at hSW); first | (go_simp; done) | (go_simp; with_reducible rfl)
                  try simp only [Act.put, List.setIfInBounds_toArray, List.set_cons_zero, List.set_cons_succ]
                  refine AnyL.takeA (i := 1) (v := ?vx11) (by rfl) (by kernel_rfl) (by kernel_rfl) (by kernel_rfl) rfl (by rfl) (by kernel_rfl) (by kernel_rfl) (by exact fun _ _ _ h => h) (by rfl) ?hyx11 (by exact ⟨trivial, fun _ => Y0.out⟩) ?restx11
                  case hyx11 => intro W hSW; (try dsimp only at hSW); first | (go_simp; done) | (go_simp; with_reducible rfl)
                  try simp only [Act.put, List.setIfInBounds_toArray, List.set_cons_zero, List.set_cons_succ]
                  refine AnyL.take (i := 2) (v := ?vx12) (by rfl) (by kernel_rfl) (by kernel_rfl) (by kernel_rfl) rfl (by exact fun _ _ _ h => h) (by rfl) ?hyx12 (by exact ⟨trivial, fun _ => Y0.out⟩) ?restx12
                  case hyx12 => intro W hSW; (try dsimp only at hSW); first | (go_simp; done) | (go_simp; with_reducible rfl)
                  try simp only [Act.put, List.setIfInBounds_toArray, List.set_cons_zero, List.set_cons_succ]
                  refine AnyL.take (i := 3) (v := ?vx13) (by rfl) (by kernel_rfl) (by kernel_rfl) (by kernel_rfl) rfl (by exact fun _ _ _ h => h) (by rfl) ?hyx13 (by exact ⟨trivial, fun _ => Y0.out⟩) ?restx13
                  case hyx13 => intro W hSW; (try dsimp only at hSW); first | (go_simp; done) | (go_simp; with_reducible rfl)
                  try simp only [Act.put, List.setIfInBounds_toArray, List.set_cons_zero, List.set_cons_succ]
                  refine AnyL.step (i := 4) (by kernel_rfl) (by rfl) (fun K hK => ?_)
                  go_simp
                  go_at_call 112
                  with_reducible refine (HFV.out _ _ HKD.out HSD.out).mono ?_
                  rintro e w5 ⟨rfl, hg⟩
                  have HS5 := Lib.hid (HSD.out.grown hg)
                  have Y5 := Lib.hid (bx3 HS5.out.tl.tl.tl.tl.tl.tl.tl.hd).2.2.1
                  clear hg
                  refine hK.out _ _ (by exact trivial) (by exact fun _ => Y5.out) ?_
                  clear hK K
                  try simp only [Act.put, List.setIfInBounds_toArray, List.set_cons_zero, List.set_cons_succ]
                  have Y6 := Lib.hid fun ob => (bx3 (HS5.out.al ob).tl.tl.tl.tl.tl.tl.tl.hd).2.2.1
                  have HQ := Lib.hid (Sep.blk (A := [_, _, _, _, _]) (B := [_]) HS5.out)
                  refine AnyL.step (i := 5) (by kernel_rfl) (by rfl) (fun K hK => ?_)
                  go_simp
                  refine hK.out _ _ (by exact trivial) (by exact fun _ => Y6.out _) ?_
                  clear hK K
                  try simp only [Act.put, List.setIfInBounds_toArray, List.set_cons_zero, List.set_cons_succ]
                  refine AnyL.step (i := 6) (by kernel_rfl) (by rfl) (fun K hK => ?_)
                  refine step_app_intS rfl (.tmp 133) (.tmp 137) rfl rfl rfl HQ.out (by rw [HTL.out]; omega) ?_
                  intro g6 c6 w6 h6
                  rw [HTL.out, ← HOT.out] at h6
                  try rw [HTL.out]
                  have HS6 := Lib.hid h6
                  have Y7 := Lib.hid (bx3 h6.tl.tl.tl.tl.tl.tl.tl.hd).2.2.1
                  clear h6
                  refine hK.out _ _ (by exact trivial) (by exact fun _ => Y7.out) ?_
                  clear hK K
                  try simp only [Act.put, List.setIfInBounds_toArray, List.set_cons_zero, List.set_cons_succ]
                  refine AnyL.take (i := 7) (v := ?vx14) (by rfl) (by kernel_rfl) (by kernel_rfl) (by kernel_rfl) rfl (by exact fun _ _ _ h => h) (by rfl) ?hyx14 (by exact ⟨trivial, fun _ => Y7.out⟩) ?restx14
                  case hyx14 => intro W hSW; (try dsimp only at hSW); first | (go_simp; done) | (go_simp; with_reducible rfl)
                  try simp only [Act.put, List.setIfInBounds_toArray, List.set_cons_zero, List.set_cons_succ]
                  have hs7 := Sep.blk (A := [_, _, _, _, _, _, _]) (B := [_]) HS6.out
                  obtain ⟨a0, a1, a2, f0, f1, f2⟩ := bx3 hs7.hd
                  have hs8 := hs7.setB 2 (.slice (some ⟨g6, 0, none⟩) (t + 1) c6)
                  have hs9 := Sep.blk (A := [_, _]) (B := [_, _, _, _, _]) hs8
                  have hs10 := Sep.blk3 (X := [_, _, _, _, _]) (A := [_]) (B := [_, _]) hs9
                  have HS8 := Lib.hid hs10
                  clear hs7 hs8 hs9 hs10
                  refine AnyL.step (i := 8) (by kernel_rfl) (by rfl) (fun K hK => ?_)
                  go_simp
                  refine hK.out _ _ (by exact trivial) (by exact fun h => noTF (by kernel_rfl) h) ?_
                  clear hK K
                  try simp only [Act.put, List.setIfInBounds_toArray, List.set_cons_zero, List.set_cons_succ]
                  refine AnyL.done (by kernel_rfl) ?_ _
                  clear a0 a1 a2 f0 f1 f2
                  go_wp2_with fail
                  go_roundw
                  case rel => exact ⟨t + 1, .slice (some ⟨g6, 0, none⟩) (t + 1) c6, by omega, by go_num, HS8.out⟩
                  case measure => simp [intOf]; omega
                · have htm2 : m2 = t := by omega
                  subst htm2
                  have htt : ¬ (m2 : Int) < (m2 : Int) := by omega
                  have hto : g.o.take m2 = g.o := List.take_of_length_le (by rw [HM2.out]; exact Nat.le_refl _)
                  have hs2 := HSX.out
                  rw [hto] at hs2
                  have hRn : R.n = (m1 : Int) := by rw [← HRR.out]; show (g.i.length : Int) = m1; rw [HM1.out]
                  have hRg : R.gs = inGt m1 ++ (gtE g.es).map (gtB (srcV (srcG n g) g.es)) := by rw [← HRR.out]; show inGt g.i.length ++ _ = _; rw [HM1.out]
                  have hRo : R.os = g.o.map (srcV (srcG n g) g.es) := by rw [← HRR.out]; rfl
                  have hL1 : R.gs.length = m1 + cnt := by rw [hRg]; exact HGSL.out
                  have hL2 : R.os.length = m2 := by rw [hRo, List.length_map]; exact HM2.out
                  rw [← hRg, ← hRo] at hs2
                  obtain ⟨c0, c1, c2, _⟩ := bx3 hs2.tl.tl.tl.tl.tl.tl.tl.hd
                  have hs3 := Sep.blk (A := [_, _, _, _, _, _, _, _]) (B := [_]) hs2
                  obtain ⟨r0, r1, r2, f0, f1, f2⟩ := bx3 hs3.hd
                  have hs4 := ((hs3.setB 0 (.int .i64 m1)).setB 1 (.slice ga (m1 + cnt) gc)).setB 2 (.slice va m2 vc)
                  obtain ⟨t0, t1, t2, _⟩ := bx3 hs4.hd
                  have hs5 := Sep.tlN [_, _, _, _, _] hs4.tl
                  have hs6 := Sep.cutA (X := [_, _]) (A := [_]) hs5
                  have HSF := Lib.hid hs6.s2
                  have HL1 := Lib.hid hL1; have HL2 := Lib.hid hL2; have HRN := Lib.hid hRn
                  clear hs2 hs3 hs4 hs5 hs6 hRn hRg hRo hL1 hL2 hto
                  go_wp2_with fail
                  refine bodyPost_ret_by (v := .agg #[.int .i64 m1, .slice ga (m1 + cnt) gc, .slice va m2 vc]) ?_ rfl ⟨ga, gc, va, vc, by rw [HRN.out, HL1.out, HL2.out], by rw [HL1.out, HL2.out]; exact HSF.out⟩
                  simp [results, go_sem, *]
end Go.Proofs.YtghfifpicklonaaDoor

/-
  Copies pass on what they have, until nothing changes: the reference's way to a wire's source. Plain mathematics. Conditions: as each says.
-/
namespace Go.Proofs.YtghfifpicklonaaDoor
open Go.RowKit
set_option linter.unusedVariables false

def edA (es : List Ed) (i : Nat) : Ed := es.getD i e0
def cI (es : List Ed) (i : Nat) : Nat := ((es.getD i e0).i.getD 0 0).toNat
def cO (es : List Ed) (i : Nat) : Nat := ((es.getD i e0).o.getD 0 0).toNat
def cP (es : List Ed) (i : Nat) : Nat := ((es.getD i e0).o.getD 1 0).toNat
/-- The wires' gates so far. -/
structure FixOk (g : Gr) (n : Nat) (Gs : List Int) : Prop where
  l : Gs.length = n
  s : ∀ w, w < n → 0 ≤ (srcG n g).getD w (-1) → 0 ≤ Gs.getD w (-1)
  v : ∀ w, w < n → 0 ≤ Gs.getD w (-1) → Gs.getD w (-1) = srcV (srcG n g) g.es w
  p : ∀ i, i < g.es.length → (g.es.getD i e0).k = 3 → 0 ≤ Gs.getD (cO g.es i) (-1) → 0 ≤ Gs.getD (cP g.es i) (-1)
def negL (Gs : List Int) : Nat := Gs.countP fun x => decide (x < 0)
theorem two_of {l : List Int} (h : l.length = 2) : ∃ a c, l = [a, c] := by
  match l, h with
  | [a, c], _ => exact ⟨a, c, rfl⟩
theorem one_of {l : List Int} (h : l.length = 1) : ∃ a, l = [a] := by
  match l, h with
  | [a], _ => exact ⟨a, rfl⟩
structure CopyAt (g : Gr) (n i : Nat) : Prop where
  ei : (g.es.getD i e0).i = [(cI g.es i : Int)]
  eo : (g.es.getD i e0).o = [(cO g.es i : Int), (cP g.es i : Int)]
  li : cI g.es i < n
  lo : cO g.es i < n
  lp : cP g.es i < n
  ne : cO g.es i ≠ cP g.es i
theorem copy_parts {g : Gr} {n i : Nat} (h : CgOk g n) (hi : i < g.es.length) (hk : (g.es.getD i e0).k = 3) : CopyAt g n i := by
  obtain ⟨l1, l2⟩ := h.w3 _ (esMem hi) hk
  obtain ⟨a, ha⟩ := one_of l1
  obtain ⟨c, d, hc⟩ := two_of l2
  have r1 := (h.re _ (esMem hi)).1 a (by rw [ha]; simp)
  have r2 := (h.re _ (esMem hi)).2 c (by rw [hc]; simp)
  have r3 := (h.re _ (esMem hi)).2 d (by rw [hc]; simp)
  have hn := h.two i hi
  rw [hc] at hn
  have hcd : c ≠ d := by
    intro e
    subst e
    simp at hn
  have e1 : cI g.es i = a.toNat := by unfold cI; rw [ha]; rfl
  have e2 : cO g.es i = c.toNat := by unfold cO; rw [hc]; rfl
  have e3 : cP g.es i = d.toNat := by unfold cP; rw [hc]; rfl
  refine ⟨?_, ?_, by omega, by omega, by omega, by omega⟩
  · rw [ha, e1, show (a.toNat : Int) = a by omega]
  · rw [hc, e2, e3, show (c.toNat : Int) = c by omega, show (d.toNat : Int) = d by omega]
theorem FixOk.start {g : Gr} {n : Nat} (h : CgOk g n) : FixOk g n (srcG n g) := by
  refine ⟨srcG_len n g, fun w _ h0 => h0, fun w hw h0 => ?_, fun i hi hk h0 => ?_⟩
  · have := src_here (es := g.es) (G := srcG n g) (w := (w : Int)) (by simpa using h0)
    simpa using this.symm
  · have c := copy_parts h hi hk
    have := copy_neg h hi hk (w := cO g.es i) (by rw [c.eo]; simp)
    omega
theorem gdm_set {L : List Int} {a w : Nat} {v : Int} (ha : a < L.length) : (L.set a v).getD w (-1) = if a = w then v else L.getD w (-1) := by
  rw [getD_set]
  by_cases h : a = w
  · rw [if_pos ⟨h, ha⟩, if_pos h]
  · rw [if_neg (fun q => h q.1), if_neg h]
theorem neg_set {L : List Int} {a : Nat} {v : Int} (ha : a < L.length) (h0 : L.getD a (-1) < 0) (hv : 0 ≤ v) : negL (L.set a v) + 1 = negL L := by
  unfold negL
  rw [List.set_eq_take_append_cons_drop, if_pos ha]
  have e : L = L.take a ++ L[a] :: L.drop (a + 1) := by rw [← List.drop_eq_getElem_cons ha, List.take_append_drop]
  have hx : L[a] < 0 := by rw [List.getD_eq_getElem?_getD, List.getElem?_eq_getElem ha] at h0; exact h0
  conv => rhs; rw [e]
  rw [List.countP_append, List.countP_append, List.countP_cons, List.countP_cons, if_neg (by simp; omega), if_pos (by simpa using hx)]
  omega
theorem neg_le {L : List Int} {a : Nat} {v : Int} (hv : 0 ≤ v) : negL (L.set a v) ≤ negL L := by
  by_cases ha : a < L.length
  · unfold negL
    rw [List.set_eq_take_append_cons_drop, if_pos ha]
    have e : L = L.take a ++ L[a] :: L.drop (a + 1) := by rw [← List.drop_eq_getElem_cons ha, List.take_append_drop]
    conv => rhs; rw [e]
    rw [List.countP_append, List.countP_append, List.countP_cons, List.countP_cons, if_neg (by simp; omega)]
    omega
  · rw [List.set_eq_of_length_le (by omega)]
    exact Nat.le_refl _
/-- A copy passes on what it has. -/
theorem FixOk.step {g : Gr} {n i : Nat} {Gs : List Int} (h : FixOk g n Gs) (hk : CgOk g n) (ha : acyB (ndE g.es) = true) (hi : i < g.es.length) (h3 : (g.es.getD i e0).k = 3) (h0 : 0 ≤ Gs.getD (cI g.es i) (-1)) (h1 : Gs.getD (cO g.es i) (-1) < 0) :
    FixOk g n ((Gs.set (cO g.es i) (Gs.getD (cI g.es i) (-1))).set (cP g.es i) (Gs.getD (cI g.es i) (-1))) ∧ negL ((Gs.set (cO g.es i) (Gs.getD (cI g.es i) (-1))).set (cP g.es i) (Gs.getD (cI g.es i) (-1))) < negL Gs := by
  have c := copy_parts hk hi h3
  obtain ⟨x, hx⟩ : ∃ x, Gs.getD (cI g.es i) (-1) = x := ⟨_, rfl⟩
  rw [hx] at h0 ⊢
  have hl := h.l
  have g2 : ∀ w, ((Gs.set (cO g.es i) x).set (cP g.es i) x).getD w (-1) = if cP g.es i = w ∨ cO g.es i = w then x else Gs.getD w (-1) := fun w => by
    rw [gdm_set (by rw [List.length_set, hl]; exact c.lp)]
    by_cases h5 : cP g.es i = w
    · rw [if_pos h5, if_pos (Or.inl h5)]
    · rw [if_neg h5, gdm_set (by rw [hl]; exact c.lo)]
      by_cases h6 : cO g.es i = w
      · rw [if_pos h6, if_pos (Or.inr h6)]
      · rw [if_neg h6, if_neg (fun q => q.elim h5 h6)]
  have hsx : x = srcV (srcG n g) g.es (cI g.es i) := by rw [← hx]; exact h.v _ c.li (by rw [hx]; exact h0)
  obtain ⟨f, hf⟩ := src_all hk ha _ c.li
  have hei : (g.es.getD i e0).i.getD 0 0 = (cI g.es i : Int) := by rw [c.ei]; rfl
  have hso : ∀ w : Nat, (w : Int) ∈ (g.es.getD i e0).o → srcV (srcG n g) g.es (w : Int) = x := fun w hw => by
    have hn := copy_neg hk hi h3 hw
    have := (src_copy (G := srcG n g) (es := g.es) (w := (w : Int)) (f := f) (by simpa using hn) (org_at hk hi hw) (by rw [hei]; exact hf)).2
    rw [this, hei, hsx]
  refine ⟨⟨by rw [List.length_set, List.length_set]; exact hl, fun w hw hp => ?_, fun w hw hp => ?_, fun j hj hj3 hp => ?_⟩, ?_⟩
  · rw [g2]; split
    · exact h0
    · exact h.s w hw hp
  · rw [g2] at hp ⊢
    split
    · rename_i hq
      rcases hq with hq | hq
      · rw [← hq]; exact (hso _ (by rw [c.eo]; simp)).symm
      · rw [← hq]; exact (hso _ (by rw [c.eo]; simp)).symm
    · rename_i hq
      rw [if_neg hq] at hp
      exact h.v w hw hp
  · by_cases hij : i = j
    · subst hij
      rw [g2, if_pos (Or.inl rfl)]
      exact h0
    · have cj := copy_parts hk hj hj3
      have n1 : ∀ a : Nat, (a : Int) ∈ (g.es.getD j e0).o → ¬ (cP g.es i = a ∨ cO g.es i = a) := fun a hm q => by
        rcases q with q | q
        · exact hij (hk.one i j (a : Int) hi hj (by rw [c.eo, ← q]; simp) hm)
        · exact hij (hk.one i j (a : Int) hi hj (by rw [c.eo, ← q]; simp) hm)
      rw [g2, if_neg (n1 _ (by rw [cj.eo]; simp))] at hp
      rw [g2, if_neg (n1 _ (by rw [cj.eo]; simp))]
      exact h.p j hj hj3 hp
  · have h7 := neg_set (L := Gs) (a := cO g.es i) (v := x) (by rw [hl]; exact c.lo) h1 h0
    have h8 := neg_le (L := Gs.set (cO g.es i) x) (a := cP g.es i) (v := x) h0
    omega
/-- Where nothing changes, each wire has its source. -/
theorem FixOk.done {g : Gr} {n : Nat} {Gs : List Int} (h : FixOk g n Gs) (hk : CgOk g n) (ha : acyB (ndE g.es) = true) (hd : ∀ i, i < g.es.length → (g.es.getD i e0).k = 3 → 0 ≤ Gs.getD (cI g.es i) (-1) → 0 ≤ Gs.getD (cO g.es i) (-1)) :
    ∀ w, w < n → Gs.getD w (-1) = srcV (srcG n g) g.es w := by
  have key : ∀ d w, w < n → depF (srcG n g) g.es (w : Int) = d → 0 ≤ Gs.getD w (-1) := by
    intro d
    induction d using Nat.strongRecOn with
    | _ d ih =>
      intro w hw hdw
      rcases Int.lt_or_le ((srcG n g).getD w (-1)) 0 with h0 | h0
      · obtain ⟨i, hi, hx, h3⟩ := copy_at hk hw h0
        have c := copy_parts hk hi h3
        obtain ⟨j, hj1, _, _, hj4⟩ := src_back (w := (w : Int)) (src_all hk ha w hw) (by simpa using h0)
        have ho := org_at hk hi hx
        rw [hj1] at ho
        injection ho with ho
        subst ho
        rw [show (g.es.getD j e0).i.getD 0 0 = (cI g.es j : Int) from by rw [c.ei]; rfl] at hj4
        have h4 := ih _ (by rw [← hdw]; exact hj4) (cI g.es j) c.li rfl
        have h5 := hd j hi h3 h4
        have h6 := h.p j hi h3 h5
        rw [c.eo] at hx
        simp only [List.mem_cons, List.not_mem_nil, or_false] at hx
        rcases hx with hx | hx
        · rw [show w = cO g.es j by omega]; exact h5
        · rw [show w = cP g.es j by omega]; exact h6
      · exact h.s w hw h0
  exact fun w hw => h.v w hw (key _ w hw rfl)
/-- How many cells of a block hold a negative number. -/
def negW (sg n : Nat) (w : World) : Nat := (List.range n).countP fun v => match w.cell? ⟨sg, v, none⟩ with
  | some (.int _ x) => decide (x < 0)
  | _ => false
theorem negW_eq {sg n sc : Nat} {Gs : List Int} {w : World} (h : (OI (.slice (some ⟨sg, 0, none⟩) n sc) Gs).holds w) (hl : Gs.length = n) : negW sg n w = negL Gs := by
  unfold negW negL
  have e : ∀ v, v < n → w.cell? ⟨sg, v, none⟩ = some (.int .i64 (Gs.getD v 0)) := fun v hv => by
    obtain ⟨b, o, hb, _, hc⟩ := (show OwnInts 0 w _ Gs from h).read.atD (i := v) (by omega)
    injection hb with hb
    injection hb with hb ho _
    subst hb ho
    rw [Nat.zero_add] at hc
    exact hc
  have e2 : Gs = (List.range n).map fun v => Gs.getD v 0 := by
    refine List.ext_getElem (by simp [hl]) fun i h1 h2 => ?_
    simp only [List.getElem_map, List.getElem_range]
    rw [List.getD_eq_getElem?_getD, List.getElem?_eq_getElem h1]; rfl
  conv => rhs; rw [e2]
  rw [List.countP_map]
  refine List.countP_congr fun v hv => ?_
  rw [e v (List.mem_range.1 hv)]
  simp
end Go.Proofs.YtghfifpicklonaaDoor

/-
  A part of a match is grown along its edges, in the reference. Conditions: the graphs are valid, the part is consistent.
-/
import Derived.Deep.LoopGhost
import Derived.Test.YtlpgjnjhhgjkmaaYq03
import Derived.Test.YtlpgjnjhhgjkmaaYq00
namespace Go.Proofs.Ytlpgjnjhhgjkmaa
open Go.RowKit
set_option linter.unusedVariables false
set_option maxRecDepth 100000

theorem l1Has_any (v : Value) (zs : List Int) (x : Int) (w : World) (hv : IntsV w v zs) (hl : zs.length ≤ 1000000) :
    Calls Try.prog 96 #[v, .int .i64 x] w fun e w' => e = .returned (.bool (decide (x ∈ zs))) ∧ w.grownBy w' none := by
  have HV := Lib.hid hv
  obtain ⟨a, c, rfl⟩ := hv.shape
  generalize hm : zs.length = m at *
  have HM := Lib.hid hm
  clear hv hm
  go_enter Try.func96, Try.ntmps96
  go_wp2_with fail
  go_loopw [6, 9] (fun _ i wr => ∃ k : Nat, k ≤ m ∧ i = .int .i64 k ∧ w.grownBy wr none ∧ ∀ j, j < k → zs.getD j 0 ≠ x) (fun _ i _ => m - (intOf i).toNat)
  case atStart => exact ⟨0, by omega, rfl, grownBy_refl _ _, fun j hj => absurd hj (Nat.not_lt_zero _)⟩
  case round =>
    obtain ⟨k, hk, rfl, hg, hne⟩ := hrel
    have HG := Lib.hid hg; have HNE := Lib.hid hne
    clear hg hne
    by_cases hlt : k < m
    · have hkz : k < zs.length := by rw [HM.out]; exact hlt
      have hv2 := HV.out.carry HG.out
      obtain ⟨d, rfl⟩ : ∃ d, a = some d := by
        obtain ⟨a', c', he, hr⟩ := hv2
        obtain ⟨d, hd, _⟩ := hr (by intro h; rw [h] at hkz; simp at hkz)
        injection he with e1
        exact ⟨d, e1.trans hd⟩
      obtain ⟨b, o, sp⟩ := d
      have hsp : sp = none := by
        obtain ⟨a', c', he, hr⟩ := hv2
        obtain ⟨d, hd, hsp, _⟩ := hr (by intro h; rw [h] at hkz; simp at hkz)
        injection he with e1
        rw [hd] at e1
        injection e1 with e1
        subst e1
        exact hsp
      subst hsp
      have hc0 := hv2.cellN hkz
      have HZ := Lib.hid (show zs.getD k 0 ∈ zs from getD_mem' hkz)
      by_cases he : zs.getD k 0 = x
      · rw [he] at hc0 HZ
        clear hv2
        go_wp2
        go_ret
        exact ⟨by rw [show decide (x ∈ zs) = true from decide_eq_true HZ.out]; rfl, HG.out⟩
      · have HE := Lib.hid he
        generalize hy : zs.getD k 0 = y at *
        have HY := Lib.hid hy
        clear hv2 hy
        go_wp2
        go_roundw
        case rel => exact ⟨k + 1, by omega, by go_num, HG.out, fun j hj => by
          by_cases e : j = k
          · subst e; rw [HY.out]; exact HE.out
          · exact HNE.out j (by omega)⟩
        case measure => simp [intOf]; omega
    · have hkm : k = m := by omega
      subst hkm
      clear hlt
      go_wp2
      go_ret
      have hn : ¬ x ∈ zs := by
        intro hx
        obtain ⟨i, hi, he⟩ := List.getElem_of_mem hx
        have := HNE.out i (by rw [← HM.out]; exact hi)
        rw [List.getD_eq_getElem?_getD, List.getElem?_eq_getElem hi] at this
        exact this he
      exact ⟨by rw [show decide (x ∈ zs) = false from decide_eq_false hn]; rfl, HG.out⟩
theorem step_app_intsS {ops : Array Oper} {o : Oper} {a : Act} {Q : Exit → Act → World → Prop} {K : Act → World → Prop} {Ex : Prop} {w : World} {v u : Value} {zs is : List Int} {l : List Asrt} (hgd : o.guard = none) (s x : Operand) (ho : o.op = .call { callee := .builtin .append, args := #[s, x], argTypes := #[23, 23] })
    (hs : a.eval s = v) (hx : a.eval x = u) (H : Sep w (OI v zs :: l)) (hu : IntsV w u is) (hl : zs.length + is.length ≤ 1000000000)
    (h : ∀ v' w', Sep w' (OI v' (zs ++ is) :: l) → K (a.put o.dst v') w') : if Region.wanted o (yielded ops a.tmps) = true then Oper.wp Try.prog o a w K Q else Ex := by
  rw [if_pos (by simp [Region.wanted, hgd])]
  exact wp_app_intsS s x ho hs hx H hu hl h
theorem step_app_Q {ops : Array Oper} {o : Oper} {a : Act} {Q : Exit → Act → World → Prop} {K : Act → World → Prop} {Ex : Prop} {w : World} {v u : Value} {zs is : List Int} {l : List Asrt} (hgd : o.guard = none) (s x : Operand) (ho : o.op = .call { callee := .builtin .append, args := #[s, x], argTypes := #[23, 23] })
    (hs : a.eval s = v) (hx : a.eval x = u) (H : Sep w (QA v zs :: l)) (hu : IntsV w u is) (hl : zs.length + is.length ≤ 1000000000)
    (h : ∀ v' w', Sep w' (QA v' (zs ++ is) :: l) → K (a.put o.dst v') w') : if Region.wanted o (yielded ops a.tmps) = true then Oper.wp Try.prog o a w K Q else Ex := by
  rw [if_pos (by simp [Region.wanted, hgd])]
  obtain ⟨v', w', hrun, hsep⟩ := run_app_Q o.type H hu hl
  unfold Oper.wp execOp
  simp only [ho, resolve, invoke, builtin, Sem.run_bind, Sem.run_pure, Result.andThen_ok, List.map_toArray, List.map_cons, List.map_nil, hs, hx, hrun]
  exact h v' w' hsep
theorem ints_two {w : World} {x y : Int} {b : Nat} (hb : b = w.heap.size) : IntsV (w.alloc (.cells #[.int .i64 x, .int .i64 y] 3)) (.slice (some ⟨b, 0, none⟩) 2 2) [x, y] := by
  subst hb
  have h := alloc_heap_new w (.cells #[.int .i64 x, .int .i64 y] 3)
  refine ⟨_, _, rfl, fun _ => ⟨_, rfl, rfl, blk_lt h, fun j hj => ?_⟩⟩
  have hj2 : j = 0 ∨ j = 1 := by simp only [List.length_cons, List.length_nil] at hj; omega
  rcases hj2 with rfl | rfl <;> exact cell_of_row _ _ _ _ _ _ h
theorem own_some {B : Nat} {w : World} {a : Option Addr} {n c : Nat} {zs : List Int} (h : OwnInts B w (.slice a n c) zs) (hz : 0 < zs.length) : ∃ b, a = some ⟨b, 0, none⟩ := by
  rcases h.2 with ⟨_, h0⟩ | ⟨g, cap, cur, he, _⟩
  · omega
  · injection he with e1 _ _
    exact ⟨g, e1⟩
theorem grow_size {E T ps : List Int} {xn gk : Nat} {yn : Int} (h : T.length + 9 * negs E ≤ gk) (hp : ps.length ≤ 8) (hx : xn < E.length) (h0 : E.getD xn 0 < 0) (hy : 0 ≤ yn) : (T ++ ps).length + 9 * negs (E.set xn yn) ≤ gk := by
  have := negs_set hx h0 hy
  rw [List.length_append]
  omega
theorem room_two {T ps : List Int} {t m g n e : Nat} (h : T.length + 9 * e ≤ g ∧ g ≤ 1000) (hp : ps.length ≤ n) (hn : n ≤ 100) : (T ++ ps).length + [(0 : Int), 0].length ≤ 1000000000 := by
  rw [List.length_append]; simp only [List.length_cons, List.length_nil]; omega
theorem set_same {W : List Int} {v : Nat} {x : Int} (h : v < W.length) (he : W.getD v 0 = x) : W.set v x = W := by
  rw [List.getD_eq_getElem?_getD, List.getElem?_eq_getElem h] at he
  simp only [Option.getD_some] at he
  rw [← he]
  exact List.set_getElem_self h
theorem Sep.queue1 {w : World} {l : List Asrt} (h : Sep w l) (x : Int) : Sep (w.alloc (.cells #[.int .i64 x] 23)) l := h.al _
theorem Sep.newQ {w : World} {l : List Asrt} (h : Sep w l) (x : Int) (b : Nat) (hb : b = w.heap.size) : Sep (w.alloc (.cells #[.int .i64 x] 3)) (QA (.slice (some ⟨b, 0, none⟩) 1 1) [x] :: l) := by
  have hq : QRow (w.alloc (.cells #[.int .i64 x] 3)) (.slice (some ⟨b, 0, none⟩) 1 1) [x] := queue_new (X := #[.int .i64 x]) (G := 1) (zs := [x]) hb rfl (by simp) (by decide) (fun j hj => by
    have h0 : j = 0 := by simpa using hj
    subst h0
    rfl)
  refine h.new (grownBy_alloc _ _ _) hq fun k hk => ?_
  obtain ⟨_, rfl⟩ := hk
  simp [hb]
theorem Sep.cutI {w : World} {g off n cap : Nat} {x : Int} {zs : List Int} {l : List Asrt} (h : Sep w (QA (.slice (some ⟨g, off, none⟩) n (cap + 1)) (x :: zs) :: l)) : Sep w (QA (.slice (if cap = 0 then some ⟨g, off, none⟩ else some ⟨g, off + 1, none⟩) zs.length cap) zs :: l) := by
  by_cases hc : cap = 0
  · subst hc
    have hz : zs = [] := by
      obtain ⟨a, c, he, h1, _⟩ := h.hd
      injection he with e1 e2 e3
      subst e3
      simp only [List.length_cons] at h1
      exact List.eq_nil_of_length_eq_zero (by omega)
    subst hz
    rw [if_pos rfl]
    exact h.cutQ0
  · rw [if_neg hc]
    exact h.cutQ
theorem queue_room {w : World} {a : Option Addr} {n c : Nat} {zs : List Int} (h : QRow w (.slice a n c) zs) : zs.length ≤ c := by
  obtain ⟨a', c', he, h1, _⟩ := h
  injection he with e1 e2 e3
  omega
theorem negs_len (E : List Int) : negs E ≤ E.length := List.countP_le_length
theorem wires_pos {p : Gr} (hp : grB p = true) {e : Nat} (he : e < p.es.length) : 0 < p.n := by
  obtain ⟨m', hm', _, _, _, _, hr', _, hb'⟩ := grB_n hp
  have hb := List.all_eq_true.1 hb' (p.es.getD e e0) (by rw [List.getD_eq_getElem?_getD, List.getElem?_eq_getElem he]; exact List.getElem_mem he)
  unfold edB at hb
  simp only [Bool.and_eq_true, decide_eq_true_iff] at hb
  have hw : (p.es.getD e e0).i ++ (p.es.getD e e0).o ≠ [] := fun h => by
    have hl := congrArg List.length h
    rw [List.length_append] at hl
    have h2 := hb.2
    unfold edW at h2
    simp only [List.length_nil] at hl
    split at h2
    · injection h2 with a b; omega
    · split at h2
      · injection h2 with a b; omega
      · split at h2
        · injection h2 with a b; omega
        · split at h2
          · injection h2 with a b; omega
          · injection h2 with a b; omega
  obtain ⟨x, hx⟩ := List.exists_mem_of_ne_nil _ hw
  have := rng_at hr' (x := x) (List.mem_append_right _ (List.mem_append_right _ (List.mem_flatMap.2 ⟨p.es.getD e e0, by rw [List.getD_eq_getElem?_getD, List.getElem?_eq_getElem he]; exact List.getElem_mem he, hx⟩)))
  omega
theorem bq2 {w : World} {k : Nat} {x y : Value} {t : TypeId} (h : w.heap[k]? = some (.cells #[x, y] t (0, 0))) : w.cell? ⟨k, 0, none⟩ = some x ∧ w.cell? ⟨k, 1, none⟩ = some y :=
  ⟨cell_of_row w k 0 _ _ _ h, cell_of_row w k 1 _ _ _ h⟩
theorem bf2 {w : World} {k : Nat} {x y : Value} {t : TypeId} (h : w.heap[k]? = some (.cells #[x, y] t (0, 0))) : w.frozen? ⟨k, 0, none⟩ = false ∧ w.frozen? ⟨k, 1, none⟩ = false :=
  ⟨frozen_of_row w k 0 _ _ h, frozen_of_row w k 1 _ _ h⟩
/-- What growing hands back. -/
def GrowR (g p : Gr) (W0 E0 : List Int) (e f : Nat) (w : World) (x : Ending) (w' : World) : Prop :=
  (∃ a n c b m d, x = .returned (.tuple #[.agg #[.slice a n c, .slice b m d], .bool false]) ∧ (∀ M, IsMt g p M → Ext ⟨W0, E0⟩ M → M.E.getD e 0 ≠ (f : Int)) ∧ w.grownBy w' none) ∨
  ∃ W E a c b d, x = .returned (.tuple #[.agg #[.slice a W.length c, .slice b E.length d], .bool true]) ∧ Gd g p W E ∧ E.getD e 0 = (f : Int) ∧ negs E + 1 ≤ negs E0 ∧
    (∀ M, IsMt g p M → ((Ext ⟨W0, E0⟩ M ∧ M.E.getD e 0 = (f : Int)) ↔ Ext ⟨W, E⟩ M)) ∧ Sep w' [OI (.slice a W.length c) W, OI (.slice b E.length d) E, KeepA w]
set_option maxHeartbeats 16000000 in
theorem grow_any (g p : Gr) (hg : mgB g = true) (hp : mgB p = true) (gea pea : Option Addr) (gec pec : Nat) (giv gov piv pov : Value) (W0 E0 : List Int) (u1 u2 : Option Addr) (n1 n2 : Nat) (e f : Nat) (w : World) (hrg : RdE edgeE w (.slice gea g.es.length gec) g.es) (hrp : RdE edgeE w (.slice pea p.es.length pec) p.es)
    (hW : IntsV w (.slice u1 W0.length n1) W0) (hE : IntsV w (.slice u2 E0.length n2) E0) (hgd : Gd g p W0 E0) (he : e < p.es.length) (hf : f < g.es.length) (h0 : E0.getD e 0 = -1) :
    Calls Try.prog 95 #[grV g.n (.slice gea g.es.length gec) giv gov, grV p.n (.slice pea p.es.length pec) piv pov, .agg #[.slice u1 W0.length n1, .slice u2 E0.length n2], .int .i64 e, .int .i64 f] w (GrowR g p W0 E0 e f w) := by
  obtain ⟨mg, hmg, hg1, hg2, _, _, _, hgl, _⟩ := grB_n (mgB_gr hg)
  obtain ⟨mp, hmp, hp1, hp2, _, _, _, hpl, _⟩ := grB_n (mgB_gr hp)
  have hfine := fine_of (mgB_gr hg) (mgB_gr hp)
  have hnd := mon_nodup hg
  have hlw := hgd.lw
  have hle := hgd.le
  have HOW := Lib.hid fun W v zs (h : IntsV W v zs) (hl : zs.length ≤ 1000) => l1Own_any v zs W h (by omega)
  have HOG := Lib.hid fun W (h : w.grownBy W none) => origins_any (.slice gea g.es.length gec) giv gov g W (hrg.carry h) (mgB_gr hg)
  have HEG := Lib.hid fun W (h : w.grownBy W none) => ends_any (.slice gea g.es.length gec) giv gov g W (hrg.carry h) (mgB_gr hg)
  have HOP := Lib.hid fun W (h : w.grownBy W none) => origins_any (.slice pea p.es.length pec) piv pov p W (hrp.carry h) (mgB_gr hp)
  have HEP := Lib.hid fun W (h : w.grownBy W none) => ends_any (.slice pea p.es.length pec) piv pov p W (hrp.carry h) (mgB_gr hp)
  unfold grV at HOG HEG HOP HEP
  unfold grV
  have HIW := Lib.hid fun W (h : w.grownBy W none) => hW.carry h
  have HIE := Lib.hid fun W (h : w.grownBy W none) => hE.carry h
  have HFN := Lib.hid hfine; have HND := Lib.hid hnd; have HGD := Lib.hid hgd; have HRG := Lib.hid hrg; have HRP := Lib.hid hrp
  have HLG := Lib.hid hgl; have HLP := Lib.hid hpl; have HE0 := Lib.hid h0; have HE := Lib.hid he; have HF := Lib.hid hf
  have hwl : W0.length ≤ 100 := by omega
  have hel : E0.length ≤ 100 := by omega
  have HWL := Lib.hid (show W0.length ≤ 1000 by omega); have HEL := Lib.hid (show E0.length ≤ 1000 by omega)
  have hs0 := ((((Sep.start w).box #[.int .i64 g.n, .slice gea g.es.length gec, giv, gov] 29).box #[.int .i64 p.n, .slice pea p.es.length pec, piv, pov] 29).box #[.slice u1 W0.length n1, .slice u2 E0.length n2] 95).box #[.slice none 0 0, .slice none 0 0] 95
  simp only [show ∀ (W : World) o, (W.alloc o).heap.size = W.heap.size + 1 from fun W o => by simp] at hs0
  have HS0 := Lib.hid hs0
  have HMG := Lib.hid hmg; have HMP := Lib.hid hmp; have HLW := Lib.hid hlw; have HLE2 := Lib.hid hle
  have HMON := Lib.hid (And.intro hg hp)
  clear hmg hmp hlw hle
  clear hs0 hg hp hrg hrp hW hE hgd h0 hfine hnd hgl hpl he hf
  go_enter Try.func95, Try.ntmps95
  go_upto_region 1 with fail
  have hsd := HS0.out.dr
  have HSD := Lib.hid hsd
  have HMB := Lib.hid fun (W' : World) (L : List Asrt) (h : Sep W' L) (hM : BxA (w.heap.size + 1 + 1) #[.slice u1 W0.length n1, .slice u2 E0.length n2] 95 ∈ L) => show W'.cell? ⟨w.heap.size + 1 + 1, 0, none⟩ = some (.slice u1 W0.length n1) ∧ W'.cell? ⟨w.heap.size + 1 + 1, 1, none⟩ = some (.slice u2 E0.length n2) from
    bq2 (show W'.heap[w.heap.size + 1 + 1]? = some (.cells #[.slice u1 W0.length n1, .slice u2 E0.length n2] 95 (0, 0)) from Sep.all h _ hM)
  have X0 := Lib.hid (HMB.out _ _ hsd (by simp))
  have HK1 := Lib.hid (show w.grownBy _ none from hsd.tl.tl.tl.tl.hd)
  clear hsd
  refine AnyL.start (fun _ => True) (fun W' => W'.cell? ⟨w.heap.size + 1 + 1, 0, none⟩ = some (.slice u1 W0.length n1) ∧ W'.cell? ⟨w.heap.size + 1 + 1, 1, none⟩ = some (.slice u2 E0.length n2)) 7 (by kernel_rfl) ?_
  refine AnyL.take (i := 0) (v := ?vx1) (by rfl) (by kernel_rfl) (by kernel_rfl) (by kernel_rfl) rfl (by exact fun _ _ _ h => h) (by rfl) ?hyx1 (by exact ⟨trivial, fun _ => X0.out⟩) ?restx1
  case hyx1 => intro W hSW; (try dsimp only at hSW); first | (go_simp; done) | (go_simp; with_reducible rfl)
  try simp only [Act.put, List.setIfInBounds_toArray, List.set_cons_zero, List.set_cons_succ]
  refine AnyL.takeA (i := 1) (v := ?vx2) (by rfl) (by kernel_rfl) (by kernel_rfl) (by kernel_rfl) rfl (by rfl) (by kernel_rfl) (by kernel_rfl) (by exact fun _ _ _ h => h) (by rfl) ?hyx2 (by exact ⟨trivial, fun _ => X0.out⟩) ?restx2
  case hyx2 => intro W hSW; (try dsimp only at hSW); first | (go_simp; done) | (go_simp; with_reducible rfl)
  try simp only [Act.put, List.setIfInBounds_toArray, List.set_cons_zero, List.set_cons_succ]
  refine AnyL.take (i := 3) (v := ?vx3) (by rfl) (by kernel_rfl) (by kernel_rfl) (by kernel_rfl) rfl (by exact fun _ _ _ h => h) (by rfl) ?hyx3 (by exact ⟨trivial, fun _ => X0.out⟩) ?restx3
  case hyx3 => intro W hSW; (try dsimp only at hSW); first | (go_simp; done) | (go_simp; with_reducible rfl)
  try simp only [Act.put, List.setIfInBounds_toArray, List.set_cons_zero, List.set_cons_succ]
  refine AnyL.takeA (i := 4) (v := ?vx4) (by rfl) (by kernel_rfl) (by kernel_rfl) (by kernel_rfl) rfl (by rfl) (by kernel_rfl) (by kernel_rfl) (by exact fun _ _ _ h => h) (by rfl) ?hyx4 (by exact ⟨trivial, fun _ => X0.out⟩) ?restx4
  case hyx4 => intro W hSW; (try dsimp only at hSW); first | (go_simp; done) | (go_simp; with_reducible rfl)
  try simp only [Act.put, List.setIfInBounds_toArray, List.set_cons_zero, List.set_cons_succ]
  refine AnyL.step (i := 2) (by kernel_rfl) (by rfl) (fun K hK => ?_)
  go_simp
  go_at_call 55
  with_reducible refine (HOW.out _ _ _ (HIW.out _ HK1.out) HWL.out).mono ?_
  rintro x w3 ⟨wa, wk, rfl, hsg⟩
  have HS3 := Lib.hid (HSD.out.graft1 hsg OI_own)
  have HK3 := Lib.hid (show w.grownBy w3 none from HS3.out.tl.tl.tl.tl.tl.hd)
  clear hsg
  refine hK.out _ _ (by exact trivial) (by exact fun _ => HMB.out _ _ HS3.out (by simp)) ?_
  clear hK K
  try simp only [Act.put, List.setIfInBounds_toArray, List.set_cons_zero, List.set_cons_succ]
  refine AnyL.step (i := 5) (by kernel_rfl) (by rfl) (fun K hK => ?_)
  go_simp
  go_at_call 55
  with_reducible refine (HOW.out _ _ _ (HIE.out _ HK3.out) HEL.out).mono ?_
  rintro x w4 ⟨ea, ec, rfl, hsg⟩
  have HS4 := Lib.hid (HS3.out.graft1 hsg OI_own)
  clear hsg
  refine hK.out _ _ (by exact trivial) (by exact fun _ => HMB.out _ _ HS4.out (by simp)) ?_
  clear hK K
  try simp only [Act.put, List.setIfInBounds_toArray, List.set_cons_zero, List.set_cons_succ]
  refine AnyL.take (i := 6) (v := ?vx5) (by rfl) (by kernel_rfl) (by kernel_rfl) (by kernel_rfl) rfl (by exact fun _ _ _ h => h) (by rfl) ?hyx5 (by exact ⟨trivial, fun _ => HMB.out _ _ HS4.out (by simp)⟩) ?restx5
  case hyx5 => intro W hSW; (try dsimp only at hSW); first | (go_simp; done) | (go_simp; with_reducible rfl)
  try simp only [Act.put, List.setIfInBounds_toArray, List.set_cons_zero, List.set_cons_succ]
  have hs4 := HS4.out.s4
  have m0 := (bq2 (show w4.heap[w.heap.size + 1 + 1]? = some (.cells #[.slice u1 W0.length n1, .slice u2 E0.length n2] 95 (0, 0)) from hs4.hd))
  have m1 := (bf2 (show w4.heap[w.heap.size + 1 + 1]? = some (.cells #[.slice u1 W0.length n1, .slice u2 E0.length n2] 95 (0, 0)) from hs4.hd))
  obtain ⟨a0, a1⟩ := m0
  obtain ⟨b0, b1⟩ := m1
  have hs5 := hs4.setB 0 (.slice wa W0.length wk)
  have m2 := (bq2 (x := .slice wa W0.length wk) (y := .slice u2 E0.length n2) (t := 95) hs5.hd)
  have m3 := (bf2 (x := .slice wa W0.length wk) (y := .slice u2 E0.length n2) (t := 95) hs5.hd)
  obtain ⟨c0, c1⟩ := m2
  obtain ⟨d0, d1⟩ := m3
  have HS5 := Lib.hid (hs5.setB 1 (.slice ea E0.length ec))
  clear hs4 hs5
  refine AnyL.step (i := 7) (by kernel_rfl) (by rfl) (fun K hK => ?_)
  go_simp
  refine hK.out _ _ (by exact trivial) (by exact fun h => noTF (by kernel_rfl) h) ?_
  clear hK K
  try simp only [Act.put, List.setIfInBounds_toArray, List.set_cons_zero, List.set_cons_succ]
  refine AnyL.done (by kernel_rfl) ?_ _
  clear a0 a1 b0 b1 c0 c1 d0 d1 X0 HMB HK1 HK3 HSD HS0 HS3 HS4 HOW HIW HIE
  generalize (w4.setCell ⟨w.heap.size + 1 + 1, 0, none⟩ (.slice wa W0.length wk)).setCell ⟨w.heap.size + 1 + 1, 1, none⟩ (.slice ea E0.length ec) = w5 at *
  have hs5 : Sep w5 (BxA (w.heap.size + 1 + 1) #[.slice wa W0.length wk, .slice ea E0.length ec] 95 :: OI (.slice ea E0.length ec) E0 :: OI (.slice wa W0.length wk) W0 :: BxA (w.heap.size + 1 + 1 + 1) #[.slice none 0 0, .slice none 0 0] 95 :: BxA (w.heap.size + 1) #[.int .i64 p.n, .slice pea p.es.length pec, piv, pov] 29 :: BxA w.heap.size #[.int .i64 g.n, .slice gea g.es.length gec, giv, gov] 29 :: [KeepA w]) := HS5.out
  have HS6 := Lib.hid hs5
  clear hs5 HS5
  go_upto_region 2 with fail
  have HBX := Lib.hid fun (W' : World) (L : List Asrt) (h : Sep W' L) (hP : BxA (w.heap.size + 1) #[.int .i64 p.n, .slice pea p.es.length pec, piv, pov] 29 ∈ L) (hG : BxA w.heap.size #[.int .i64 g.n, .slice gea g.es.length gec, giv, gov] 29 ∈ L) => show W'.cell? ⟨w.heap.size + 1, 0, none⟩ = some (.int .i64 p.n) ∧ W'.cell? ⟨w.heap.size + 1, 1, none⟩ = some (.slice pea p.es.length pec) ∧ W'.cell? ⟨w.heap.size + 1, 2, none⟩ = some piv ∧ W'.cell? ⟨w.heap.size + 1, 3, none⟩ = some pov ∧ W'.cell? ⟨w.heap.size, 0, none⟩ = some (.int .i64 g.n) ∧ W'.cell? ⟨w.heap.size, 1, none⟩ = some (.slice gea g.es.length gec) ∧ W'.cell? ⟨w.heap.size, 2, none⟩ = some giv ∧ W'.cell? ⟨w.heap.size, 3, none⟩ = some gov from by
    have a := Sep.all h _ hP
    have b := Sep.all h _ hG
    obtain ⟨a0, a1, a2, a3, _⟩ := bq4 (show W'.heap[w.heap.size + 1]? = some (.cells #[.int .i64 p.n, .slice pea p.es.length pec, piv, pov] 29 (0, 0)) from a)
    obtain ⟨b0, b1, b2, b3, _⟩ := bq4 (show W'.heap[w.heap.size]? = some (.cells #[.int .i64 g.n, .slice gea g.es.length gec, giv, gov] 29 (0, 0)) from b)
    exact ⟨a0, a1, a2, a3, b0, b1, b2, b3⟩
  have hs6 := HS6.out.dr
  have HS7 := Lib.hid hs6
  have X0 := Lib.hid (HBX.out _ _ hs6 (by simp) (by simp))
  have HK7 := Lib.hid (show w.grownBy _ none from hs6.tl.tl.tl.tl.tl.tl.hd)
  clear hs6
  refine AnyL.start (fun W' => W'.cell? ⟨w.heap.size + 1, 0, none⟩ = some (.int .i64 p.n) ∧ W'.cell? ⟨w.heap.size + 1, 1, none⟩ = some (.slice pea p.es.length pec) ∧ W'.cell? ⟨w.heap.size + 1, 2, none⟩ = some piv ∧ W'.cell? ⟨w.heap.size + 1, 3, none⟩ = some pov ∧ W'.cell? ⟨w.heap.size, 0, none⟩ = some (.int .i64 g.n) ∧ W'.cell? ⟨w.heap.size, 1, none⟩ = some (.slice gea g.es.length gec) ∧ W'.cell? ⟨w.heap.size, 2, none⟩ = some giv ∧ W'.cell? ⟨w.heap.size, 3, none⟩ = some gov) (fun _ => True) 99 (by kernel_rfl) ?_
  refine AnyL.take (i := 0) (v := ?vx6) (by rfl) (by kernel_rfl) (by kernel_rfl) (by kernel_rfl) rfl (by exact fun _ _ _ h => h) (by rfl) ?hyx6 (by exact ⟨X0.out, fun _ => trivial⟩) ?restx6
  case hyx6 => intro W hSW; (try dsimp only at hSW); first | (go_simp; done) | (go_simp; with_reducible rfl)
  try simp only [Act.put, List.setIfInBounds_toArray, List.set_cons_zero, List.set_cons_succ]
  refine AnyL.take (i := 2) (v := ?vx7) (by rfl) (by kernel_rfl) (by kernel_rfl) (by kernel_rfl) rfl (by exact fun _ _ _ h => h) (by rfl) ?hyx7 (by exact ⟨X0.out, fun _ => trivial⟩) ?restx7
  case hyx7 => intro W hSW; (try dsimp only at hSW); first | (go_simp; done) | (go_simp; with_reducible rfl)
  try simp only [Act.put, List.setIfInBounds_toArray, List.set_cons_zero, List.set_cons_succ]
  refine AnyL.take (i := 4) (v := ?vx8) (by rfl) (by kernel_rfl) (by kernel_rfl) (by kernel_rfl) rfl (by exact fun _ _ _ h => h) (by rfl) ?hyx8 (by exact ⟨X0.out, fun _ => trivial⟩) ?restx8
  case hyx8 => intro W hSW; (try dsimp only at hSW); first | (go_simp; done) | (go_simp; with_reducible rfl)
  try simp only [Act.put, List.setIfInBounds_toArray, List.set_cons_zero, List.set_cons_succ]
  refine AnyL.take (i := 6) (v := ?vx9) (by rfl) (by kernel_rfl) (by kernel_rfl) (by kernel_rfl) rfl (by exact fun _ _ _ h => h) (by rfl) ?hyx9 (by exact ⟨X0.out, fun _ => trivial⟩) ?restx9
  case hyx9 => intro W hSW; (try dsimp only at hSW); first | (go_simp; done) | (go_simp; with_reducible rfl)
  try simp only [Act.put, List.setIfInBounds_toArray, List.set_cons_zero, List.set_cons_succ]
  refine AnyL.step (i := 1) (by kernel_rfl) (by rfl) (fun K hK => ?_)
  go_simp
  go_at_call 104
  with_reducible refine (HOP.out _ HK7.out).mono ?_
  rintro x wT0 ⟨fa, fac, LF, rfl, ho0, hsg⟩
  have HO0 := Lib.hid ho0
  have HT0 := Lib.hid (HS7.out.graft1 hsg OI_own)
  have HKT0 := Lib.hid (show w.grownBy wT0 none from HT0.out.tl.tl.tl.tl.tl.tl.tl.hd)
  clear hsg ho0
  refine hK.out _ _ (by exact HBX.out _ _ HT0.out (by simp) (by simp)) (by exact fun _ => trivial) ?_
  clear hK K
  try simp only [Act.put, List.setIfInBounds_toArray, List.set_cons_zero, List.set_cons_succ]
  refine AnyL.step (i := 3) (by kernel_rfl) (by rfl) (fun K hK => ?_)
  go_simp
  go_at_call 105
  with_reducible refine (HEP.out _ HKT0.out).mono ?_
  rintro x wT1 ⟨ta, tac, LT, rfl, ho1, hsg⟩
  have HO1 := Lib.hid ho1
  have HT1 := Lib.hid (HT0.out.graft1 hsg OI_own)
  have HKT1 := Lib.hid (show w.grownBy wT1 none from HT1.out.tl.tl.tl.tl.tl.tl.tl.tl.hd)
  clear hsg ho1
  refine hK.out _ _ (by exact HBX.out _ _ HT1.out (by simp) (by simp)) (by exact fun _ => trivial) ?_
  clear hK K
  try simp only [Act.put, List.setIfInBounds_toArray, List.set_cons_zero, List.set_cons_succ]
  refine AnyL.step (i := 5) (by kernel_rfl) (by rfl) (fun K hK => ?_)
  go_simp
  go_at_call 104
  with_reducible refine (HOG.out _ HKT1.out).mono ?_
  rintro x wT2 ⟨ga, gac, LG, rfl, ho2, hsg⟩
  have HO2 := Lib.hid ho2
  have HT2 := Lib.hid (HT1.out.graft1 hsg OI_own)
  have HKT2 := Lib.hid (show w.grownBy wT2 none from HT2.out.tl.tl.tl.tl.tl.tl.tl.tl.tl.hd)
  clear hsg ho2
  refine hK.out _ _ (by exact HBX.out _ _ HT2.out (by simp) (by simp)) (by exact fun _ => trivial) ?_
  clear hK K
  try simp only [Act.put, List.setIfInBounds_toArray, List.set_cons_zero, List.set_cons_succ]
  refine AnyL.step (i := 7) (by kernel_rfl) (by rfl) (fun K hK => ?_)
  go_simp
  go_at_call 105
  with_reducible refine (HEG.out _ HKT2.out).mono ?_
  rintro x wT3 ⟨ha, hac, LH, rfl, ho3, hsg⟩
  have HO3 := Lib.hid ho3
  have HT3 := Lib.hid (HT2.out.graft1 hsg OI_own)
  have HKT3 := Lib.hid (show w.grownBy wT3 none from HT3.out.tl.tl.tl.tl.tl.tl.tl.tl.tl.tl.hd)
  clear hsg ho3
  refine hK.out _ _ (by exact HBX.out _ _ HT3.out (by simp) (by simp)) (by exact fun _ => trivial) ?_
  clear hK K
  try simp only [Act.put, List.setIfInBounds_toArray, List.set_cons_zero, List.set_cons_succ]
  refine AnyL.take (i := 8) (v := ?vx10) (by rfl) (by kernel_rfl) (by kernel_rfl) (by kernel_rfl) rfl (by exact fun _ _ _ h => h) (by rfl) ?hyx10 (by exact ⟨HBX.out _ _ HT3.out (by simp) (by simp), fun _ => trivial⟩) ?restx10
  case hyx10 => intro W hSW; (try dsimp only at hSW); first | (go_simp; done) | (go_simp; with_reducible rfl)
  try simp only [Act.put, List.setIfInBounds_toArray, List.set_cons_zero, List.set_cons_succ]
  refine AnyL.take (i := 9) (v := ?vx11) (by rfl) (by kernel_rfl) (by kernel_rfl) (by kernel_rfl) rfl (by exact fun _ _ _ h => h) (by rfl) ?hyx11 (by exact ⟨HBX.out _ _ HT3.out (by simp) (by simp), fun _ => trivial⟩) ?restx11
  case hyx11 => intro W hSW; (try dsimp only at hSW); first | (go_simp; done) | (go_simp; with_reducible rfl)
  try simp only [Act.put, List.setIfInBounds_toArray, List.set_cons_zero, List.set_cons_succ]
  refine AnyL.take (i := 10) (v := ?vx12) (by rfl) (by kernel_rfl) (by kernel_rfl) (by kernel_rfl) rfl (by exact fun _ _ _ h => h) (by rfl) ?hyx12 (by exact ⟨HBX.out _ _ HT3.out (by simp) (by simp), fun _ => trivial⟩) ?restx12
  case hyx12 => intro W hSW; (try dsimp only at hSW); first | (go_simp; done) | (go_simp; with_reducible rfl)
  try simp only [Act.put, List.setIfInBounds_toArray, List.set_cons_zero, List.set_cons_succ]
  refine AnyL.take (i := 11) (v := ?vx13) (by rfl) (by kernel_rfl) (by kernel_rfl) (by kernel_rfl) rfl (by exact fun _ _ _ h => h) (by rfl) ?hyx13 (by exact ⟨HBX.out _ _ HT3.out (by simp) (by simp), fun _ => trivial⟩) ?restx13
  case hyx13 => intro W hSW; (try dsimp only at hSW); first | (go_simp; done) | (go_simp; with_reducible rfl)
  try simp only [Act.put, List.setIfInBounds_toArray, List.set_cons_zero, List.set_cons_succ]
  refine AnyL.done (by kernel_rfl) ?_ _
  have hpos := wires_pos (mgB_gr HMON.out.2) HE.out
  have hw0 : W0 ≠ [] := fun h => by have := HLW.out; rw [h] at this; simp at this; omega
  have he0 : E0 ≠ [] := fun h => by have := HLE2.out; have := HE.out; rw [h] at *; simp at *; omega
  obtain ⟨wb, wk2, hwa, _, _, _⟩ := (show OwnInts 0 wT3 (.slice wa W0.length wk) W0 from HT3.out.tl.tl.tl.tl.tl.tl.hd).parts hw0
  obtain ⟨eb, ec2, hea, _, _, _⟩ := (show OwnInts 0 wT3 (.slice ea E0.length ec) E0 from HT3.out.tl.tl.tl.tl.tl.hd).parts he0
  injection hwa with hwa1 hwa2 hwa3
  injection hea with hea1 hea2 hea3
  subst hwa1 hwa3 hea1 hea3
  clear hwa2 hea2
  have HEN := Lib.hid (Ends.mk HO0.out HO1.out HO2.out HO3.out)
  have hs8 := (HT3.out.newQ (e : Int) wT3.heap.size rfl).newQ (f : Int) (wT3.heap.size + 1) (by simp)
  have HS8 := Lib.hid (Sep.blk3 (X := [_, _]) (A := [_]) (B := [_]) (Sep.blk3 (X := [_, _]) (A := [_]) (B := [_, _]) (Sep.blk3 (X := [_, _]) (A := [_, _, _, _]) (B := [_, _, _, _]) hs8.s2)))
  have HST := Lib.hid (GSt.start HGD.out HE.out HF.out)
  clear hs8 hpos hw0 he0 HT0 HT1 HT2 HT3 HKT0 HKT1 HKT2 HKT3 HO0 HO1 HO2 HO3 HBX X0 HS7 HK7 HOP HEP HOG HEG HGD HS6
  go_wp2_with fail
  go_loopg [3, 4, 16, 17, 18, 19, 20, 21, 22, 23, 24] (1 + 9 * negs E0) (fun gk _ _ tv iv _ _ _ _ _ _ _ wr => ∃ (W E T I : List Int), GSt g p W0 E0 e f W E T I ∧ T.length + 9 * negs E ≤ gk ∧ gk ≤ 1000 ∧ Sep wr ([QA tv T, QA iv I, OI (.slice (some ⟨wb, 0, none⟩) W0.length wk) W, OI (.slice (some ⟨eb, 0, none⟩) E0.length ec) E, BxA (w.heap.size + 1 + 1) #[.slice (some ⟨wb, 0, none⟩) W0.length wk, .slice (some ⟨eb, 0, none⟩) E0.length ec] 95, BxA (w.heap.size + 1 + 1 + 1) #[.slice none 0 0, .slice none 0 0] 95, OI (.slice ha LH.length hac) LH, OI (.slice ga LG.length gac) LG, OI (.slice ta LT.length tac) LT, OI (.slice fa LF.length fac) LF, BxA (w.heap.size + 1) #[.int .i64 p.n, .slice pea p.es.length pec, piv, pov] 29, BxA w.heap.size #[.int .i64 g.n, .slice gea g.es.length gec, giv, gov] 29, KeepA w]))
  case atStart => exact ⟨W0, E0, [(e : Int)], [(f : Int)], HST.out, by simp, by have := negs_len E0; have := HLE2.out; omega, HS8.out⟩
  case round =>
    obtain ⟨W, E, T, I, hst, hms, hgk, hsr⟩ := hrel
    have HG := Lib.hid hst; have HSR := Lib.hid hsr; have HMS := Lib.hid hms; have HGK := Lib.hid hgk
    have hTl := hst.len
    clear hst hms hgk HST HS8
    cases T with
    | nil =>
      cases I with
      | cons y I => simp at hTl
      | nil =>
        have hwl : W0.length = W.length := by rw [HLW.out, HG.out.gd.lw]
        have hel3 : E0.length = E.length := by rw [HLE2.out, HG.out.gd.le]
        obtain ⟨tq, tqc, htq, _⟩ := (show QRow wr _ [] from hsr.hd)
        subst htq
        have HF := Lib.hid (HG.out.fin HE.out)
        rw [hwl, hel3] at hsr
        have hsf := Sep.blk (A := [_, _, _, _, _]) (B := [_]) hsr
        have hf1 := hsf.setB 0 (.slice (some ⟨wb, 0, none⟩) W.length wk)
        have hf2 := hf1.setB 1 (.slice (some ⟨eb, 0, none⟩) E.length ec)
        obtain ⟨m0, m1⟩ := bq2 hsf.tl.tl.tl.tl.tl.hd
        obtain ⟨r0, r1⟩ := bq2 hsf.hd
        obtain ⟨q0, q1⟩ := bf2 hsf.hd
        obtain ⟨s0, s1⟩ := bq2 (x := .slice (some ⟨wb, 0, none⟩) W.length wk) (y := .slice none 0 0) (t := 95) hf1.hd
        obtain ⟨t0, t1⟩ := bf2 (x := .slice (some ⟨wb, 0, none⟩) W.length wk) (y := .slice none 0 0) (t := 95) hf1.hd
        obtain ⟨v0, v1⟩ := bq2 (x := .slice (some ⟨wb, 0, none⟩) W.length wk) (y := .slice (some ⟨eb, 0, none⟩) E.length ec) (t := 95) hf2.hd
        have HKF := Lib.hid (Sep.cutA (X := [_, _]) (A := [_, _, _, _, _, _, _]) hf2.tl.tl.tl)
        clear hsf hf1 hf2 hsr HSR hTl hwl hel3
        go_wp2_with fail
        refine bodyPost_ret_by (v := .tuple #[.agg #[.slice (some ⟨wb, 0, none⟩) W.length wk, .slice (some ⟨eb, 0, none⟩) E.length ec], .bool true]) ?_ rfl (Or.inr ⟨W, E, _, _, _, _, rfl, HF.out.1, HF.out.2.1, HF.out.2.2.1, HF.out.2.2.2, HKF.out⟩)
        simp [results, go_sem, *]
    | cons x T =>
      cases I with
      | nil => simp at hTl
      | cons y I =>
        obtain ⟨qa, qo, qc, rfl, hq⟩ := QRow.head (show QRow wr _ (x :: T) from hsr.hd)
        obtain ⟨ra, ro, rc, rfl, hr⟩ := QRow.head (show QRow wr _ (y :: I) from hsr.tl.hd)
        have ht1 : (1 : Int) ≤ (T.length : Int) + 1 := by omega
        have ht2 : (1 : Int) ≤ (I.length : Int) + 1 := by omega
        have hq1 : (T.length : Int) + 1 ≤ (qc : Int) + 1 := by have := queue_room (show QRow wr _ (x :: T) from hsr.hd); simp only [List.length_cons] at this; omega
        have hr1 : (I.length : Int) + 1 ≤ (rc : Int) + 1 := by have := queue_room (show QRow wr _ (y :: I) from hsr.tl.hd); simp only [List.length_cons] at this; omega
        clear hsr hTl
        go_upto_region 7 with fail
        refine AnyL.start (fun _ => True) (fun _ => True) 99 (by kernel_rfl) ?_
        refine AnyL.take (i := 0) (v := ?vx14) (by rfl) (by kernel_rfl) (by kernel_rfl) (by kernel_rfl) rfl (by exact fun _ _ _ h => h) (by rfl) ?hyx14 (by exact ⟨trivial, fun _ => trivial⟩) ?restx14
        case hyx14 => intro W hSW; (try dsimp only at hSW); first | (go_simp; done) | (go_simp; with_reducible rfl)
        try simp only [Act.put, List.setIfInBounds_toArray, List.set_cons_zero, List.set_cons_succ]
        refine AnyL.take (i := 1) (v := ?vx15) (by rfl) (by kernel_rfl) (by kernel_rfl) (by kernel_rfl) rfl (by exact fun _ _ _ h => h) (by rfl) ?hyx15 (by exact ⟨trivial, fun _ => trivial⟩) ?restx15
        case hyx15 => intro W hSW; (try dsimp only at hSW); first | (go_simp; done) | (go_simp; with_reducible rfl)
        try simp only [Act.put, List.setIfInBounds_toArray, List.set_cons_zero, List.set_cons_succ]
        refine AnyL.take (i := 2) (v := ?vx16) (by rfl) (by kernel_rfl) (by kernel_rfl) (by kernel_rfl) rfl (by exact fun _ _ _ h => h) (by rfl) ?hyx16 (by exact ⟨trivial, fun _ => trivial⟩) ?restx16
        case hyx16 => intro W hSW; (try dsimp only at hSW); first | (go_simp; done) | (go_simp; with_reducible rfl)
        try simp only [Act.put, List.setIfInBounds_toArray, List.set_cons_zero, List.set_cons_succ]
        refine AnyL.take (i := 3) (v := ?vx17) (by rfl) (by kernel_rfl) (by kernel_rfl) (by kernel_rfl) rfl (by exact fun _ _ _ h => h) (by rfl) ?hyx17 (by exact ⟨trivial, fun _ => trivial⟩) ?restx17
        case hyx17 => intro W hSW; (try dsimp only at hSW); first | (go_simp; done) | (go_simp; with_reducible rfl)
        try simp only [Act.put, List.setIfInBounds_toArray, List.set_cons_zero, List.set_cons_succ]
        refine AnyL.take (i := 4) (v := ?vx18) (by rfl) (by kernel_rfl) (by kernel_rfl) (by kernel_rfl) rfl (by exact fun _ _ _ h => h) (by rfl) ?hyx18 (by exact ⟨trivial, fun _ => trivial⟩) ?restx18
        case hyx18 => intro W hSW; (try dsimp only at hSW); first | (go_simp; done) | (go_simp; with_reducible rfl)
        try simp only [Act.put, List.setIfInBounds_toArray, List.set_cons_zero, List.set_cons_succ]
        refine AnyL.take (i := 5) (v := ?vx19) (by rfl) (by kernel_rfl) (by kernel_rfl) (by kernel_rfl) rfl (by exact fun _ _ _ h => h) (by rfl) ?hyx19 (by exact ⟨trivial, fun _ => trivial⟩) ?restx19
        case hyx19 => intro W hSW; (try dsimp only at hSW); first | (go_simp; done) | (go_simp; with_reducible rfl)
        try simp only [Act.put, List.setIfInBounds_toArray, List.set_cons_zero, List.set_cons_succ]
        refine AnyL.done (by kernel_rfl) ?_ _
        have hs9 := (HSR.out.dr.cutI.s2.cutI).s2
        generalize (if qc = 0 then some (⟨qa, qo, none⟩ : Addr) else some ⟨qa, qo + 1, none⟩) = tq at *
        generalize (if rc = 0 then some (⟨ra, ro, none⟩ : Addr) else some ⟨ra, ro + 1, none⟩) = rq at *
        generalize wr.drew = wd at *
        obtain ⟨gk2, hgk2⟩ : ∃ gk2, gk = gk2 + 1 := ⟨gk - 1, by have := HMS.out; simp only [List.length_cons] at this; omega⟩
        subst hgk2
        have HMS2 := Lib.hid (show T.length + 9 * negs E ≤ gk2 ∧ gk2 ≤ 1000 from by have h1 := HMS.out; have h2 := HGK.out; simp only [List.length_cons] at h1; omega)
        have HS9 := Lib.hid hs9
        clear ht1 ht2 hq1 hr1 hq hr HSR HMS HGK
        by_cases hx0 : x < 0
        · have HN := Lib.hid (HG.out.skip hx0)
          clear hs9
          go_wp2_with fail
          go_roundg gk2
          case measure => omega
          case rel => exact ⟨W, E, T, I, HN.out, HMS2.out.1, HMS2.out.2, HS9.out⟩
        · obtain ⟨xn, rfl⟩ := Int.eq_ofNat_of_zero_le (show 0 ≤ x by omega)
          have hxr := HG.out.tr (xn : Int) (by simp)
          have hxl : xn < E0.length := by rw [HLE2.out]; omega
          have hel2 : E0.length = E.length := by rw [HLE2.out, HG.out.gd.le]
          obtain ⟨n0, n1⟩ := bq2 hs9.tl.tl.tl.tl.hd
          have c0 := own_at (show OwnInts 0 wd (.slice (some ⟨eb, 0, none⟩) E0.length ec) E from hs9.tl.tl.tl.hd) hel2 hxl
          have hxi : (xn : Int) < (E0.length : Int) := by omega
          have HEL2 := Lib.hid hel2; have HXL := Lib.hid hxl
          clear hxr hel2 hxl
          by_cases hy0 : y < 0
          · have HNO := Lib.hid (HG.out.no_image (by omega) hy0)
            have hsf := Sep.blk (A := [_, _, _, _, _]) (B := [_]) HS9.out
            have hf1 := hsf.setB 0 (.slice (some ⟨wb, 0, none⟩) W0.length wk)
            have hf2 := hf1.setB 1 (.slice (some ⟨eb, 0, none⟩) E0.length ec)
            obtain ⟨m0, m1⟩ := bq2 hsf.tl.tl.tl.tl.tl.hd
            obtain ⟨r0, r1⟩ := bq2 hsf.hd
            obtain ⟨q0, q1⟩ := bf2 hsf.hd
            obtain ⟨s0, s1⟩ := bq2 (x := .slice (some ⟨wb, 0, none⟩) W0.length wk) (y := .slice none 0 0) (t := 95) hf1.hd
            obtain ⟨t0, t1⟩ := bf2 (x := .slice (some ⟨wb, 0, none⟩) W0.length wk) (y := .slice none 0 0) (t := 95) hf1.hd
            obtain ⟨v0, v1⟩ := bq2 (x := .slice (some ⟨wb, 0, none⟩) W0.length wk) (y := .slice (some ⟨eb, 0, none⟩) E0.length ec) (t := 95) hf2.hd
            have HKF := Lib.hid (show w.grownBy _ none from hf2.tl.tl.tl.tl.tl.tl.tl.tl.tl.tl.tl.tl.hd)
            clear hsf hf1 hf2
            clear hs9
            generalize E.getD xn 0 = ex at c0
            go_wp2_with fail
            refine bodyPost_ret_by (v := .tuple #[.agg #[.slice (some ⟨wb, 0, none⟩) W0.length wk, .slice (some ⟨eb, 0, none⟩) E0.length ec], .bool false]) ?_ rfl (Or.inl ⟨_, _, _, _, _, _, rfl, HNO.out, HKF.out⟩)
            simp [results, go_sem, *]
          · obtain ⟨yn, rfl⟩ := Int.eq_ofNat_of_zero_le (show 0 ≤ y by omega)
            by_cases hex : 0 ≤ E.getD xn 0
            · by_cases hey : E.getD xn 0 = (yn : Int)
              · have HN := Lib.hid (HG.out.same (by omega) (by omega) (by rw [Int.toNat_natCast]; exact hey) HE0.out)
                rw [hey] at c0
                have heq : ((yn : Int) == (yn : Int)) = true := by simp
                have hne : ((yn : Int) != (yn : Int)) = false := by simp
                clear hs9 hex hey
                go_wp2_with fail
                go_roundg gk2
                case measure => omega
                case rel => exact ⟨W, E, T, I, HN.out, HMS2.out.1, HMS2.out.2, HS9.out⟩
              · have HNO := Lib.hid (HG.out.no_other (by omega) (by rw [Int.toNat_natCast]; exact hex) (by rw [Int.toNat_natCast]; exact hey))
                have hne : (E.getD xn 0 != (yn : Int)) = true := by simpa using hey
                clear hs9 hey
                generalize E.getD xn 0 = ex at c0 hex hne
                have hsf := Sep.blk (A := [_, _, _, _, _]) (B := [_]) HS9.out
                have hf1 := hsf.setB 0 (.slice (some ⟨wb, 0, none⟩) W0.length wk)
                have hf2 := hf1.setB 1 (.slice (some ⟨eb, 0, none⟩) E0.length ec)
                obtain ⟨m0, m1⟩ := bq2 hsf.tl.tl.tl.tl.tl.hd
                obtain ⟨r0, r1⟩ := bq2 hsf.hd
                obtain ⟨q0, q1⟩ := bf2 hsf.hd
                obtain ⟨s0, s1⟩ := bq2 (x := .slice (some ⟨wb, 0, none⟩) W0.length wk) (y := .slice none 0 0) (t := 95) hf1.hd
                obtain ⟨t0, t1⟩ := bf2 (x := .slice (some ⟨wb, 0, none⟩) W0.length wk) (y := .slice none 0 0) (t := 95) hf1.hd
                obtain ⟨v0, v1⟩ := bq2 (x := .slice (some ⟨wb, 0, none⟩) W0.length wk) (y := .slice (some ⟨eb, 0, none⟩) E0.length ec) (t := 95) hf2.hd
                have HKF := Lib.hid (show w.grownBy _ none from hf2.tl.tl.tl.tl.tl.tl.tl.tl.tl.tl.tl.tl.hd)
                clear hsf hf1 hf2
                go_wp2_with fail
                refine bodyPost_ret_by (v := .tuple #[.agg #[.slice (some ⟨wb, 0, none⟩) W0.length wk, .slice (some ⟨eb, 0, none⟩) E0.length ec], .bool false]) ?_ rfl (Or.inl ⟨_, _, _, _, _, _, rfl, HNO.out, HKF.out⟩)
                simp [results, go_sem, *]
            · have HHAS := Lib.hid (l1Has_any _ E (yn : Int) wd (OwnInts.read (show OwnInts 0 wd (.slice (some ⟨eb, 0, none⟩) E0.length ec) E from hs9.tl.tl.tl.hd)) (by rw [← HEL2.out]; have := HEL.out; omega))
              by_cases hin : (yn : Int) ∈ E
              · have HNO := Lib.hid (HG.out.no_twice (by omega) (by omega) (by rw [Int.toNat_natCast]; omega) hin)
                rw [decide_eq_true hin] at HHAS
                have hex2 : E.getD xn 0 < 0 := by omega
                clear hs9 hin hex
                generalize E.getD xn 0 = ex at c0 hex2
                go_wp2_with (
                  go_at_call 96
                  with_reducible refine HHAS.out.mono ?_
                  rintro z w6 ⟨rfl, hg6⟩
                  have HS10 := Lib.hid (HS9.out.grown hg6)
                  have hsf := Sep.blk (A := [_, _, _, _, _]) (B := [_]) HS10.out
                  have hf1 := hsf.setB 0 (.slice (some ⟨wb, 0, none⟩) W0.length wk)
                  have hf2 := hf1.setB 1 (.slice (some ⟨eb, 0, none⟩) E0.length ec)
                  obtain ⟨m0, m1⟩ := bq2 hsf.tl.tl.tl.tl.tl.hd
                  obtain ⟨r0, r1⟩ := bq2 hsf.hd
                  obtain ⟨q0, q1⟩ := bf2 hsf.hd
                  obtain ⟨s0, s1⟩ := bq2 (x := .slice (some ⟨wb, 0, none⟩) W0.length wk) (y := .slice none 0 0) (t := 95) hf1.hd
                  obtain ⟨t0, t1⟩ := bf2 (x := .slice (some ⟨wb, 0, none⟩) W0.length wk) (y := .slice none 0 0) (t := 95) hf1.hd
                  obtain ⟨v0, v1⟩ := bq2 (x := .slice (some ⟨wb, 0, none⟩) W0.length wk) (y := .slice (some ⟨eb, 0, none⟩) E0.length ec) (t := 95) hf2.hd
                  have HKF := Lib.hid (show w.grownBy _ none from hf2.tl.tl.tl.tl.tl.tl.tl.tl.tl.tl.tl.tl.hd)
                  clear hsf hf1 hf2
                  clear hg6 c0 n0 n1)
                refine bodyPost_ret_by (v := .tuple #[.agg #[.slice (some ⟨wb, 0, none⟩) W0.length wk, .slice (some ⟨eb, 0, none⟩) E0.length ec], .bool false]) ?_ rfl (Or.inl ⟨_, _, _, _, _, _, rfl, HNO.out, HKF.out⟩)
                simp [results, go_sem, *]
              · rw [decide_eq_false hin] at HHAS
                have HIN := Lib.hid hin
                have hxp : xn < p.es.length := by have := HXL.out; have := HLE2.out; omega
                have hyg : yn < g.es.length := by have := HG.out.ir (yn : Int) (by simp); omega
                have hen : (E.getD xn 0 == (yn : Int)) = false := by rw [beq_eq_false_iff_ne]; omega
                have hex2 : E.getD xn 0 < 0 := by omega
                have HEX := Lib.hid hex2
                obtain ⟨pb, po1, iv, ov, hpea, hpat⟩ := HRP.out.atK rfl rfl hxp
                obtain ⟨gb, go1, iv2, ov2, hgea, hgat⟩ := HRG.out.atK rfl rfl hyg
                have hlpx := HLP.out (p.es.getD xn e0) (by rw [List.getD_eq_getElem?_getD, List.getElem?_eq_getElem hxp]; exact List.getElem_mem hxp)
                have hlgy := HLG.out (g.es.getD yn e0) (by rw [List.getD_eq_getElem?_getD, List.getElem?_eq_getElem hyg]; exact List.getElem_mem hyg)
                obtain ⟨eI, heI⟩ : ∃ eI, eI = p.es.getD xn e0 := ⟨_, rfl⟩
                obtain ⟨oF, hoF⟩ : ∃ oF, oF = g.es.getD yn e0 := ⟨_, rfl⟩
                rw [← heI] at hpat hlpx
                rw [← hoF] at hgat hlgy
                obtain ⟨ia, ic, rfl⟩ := (hpat _ (grownBy_refl w none)).2.1.shape
                obtain ⟨oa, oc, rfl⟩ := (hpat _ (grownBy_refl w none)).2.2.shape
                obtain ⟨ia2, ic2, rfl⟩ := (hgat _ (grownBy_refl w none)).2.1.shape
                obtain ⟨oa2, oc2, rfl⟩ := (hgat _ (grownBy_refl w none)).2.2.shape
                subst hpea hgea
                have HEI := Lib.hid heI; have HOF := Lib.hid hoF; have HPA := Lib.hid hpat; have HGA := Lib.hid hgat; have HLX := Lib.hid hlpx; have HLY := Lib.hid hlgy
                have HXP := Lib.hid hxp; have HYG := Lib.hid hyg
                have hxpi : (xn : Int) < (p.es.length : Int) := by omega
                have hygi : (yn : Int) < (g.es.length : Int) := by omega
                have hneg : ¬ 0 ≤ E.getD xn 0 := by omega
                have HB12 := Lib.hid fun (W1 : World) (L : List Asrt) (h : Sep W1 L) (hP : BxA (w.heap.size + 1) #[.int .i64 p.n, .slice (some ⟨pb, po1, none⟩) p.es.length pec, piv, pov] 29 ∈ L) (hG : BxA w.heap.size #[.int .i64 g.n, .slice (some ⟨gb, go1, none⟩) g.es.length gec, giv, gov] 29 ∈ L) (hk : w.grownBy W1 none) => show W1.cell? ⟨w.heap.size + 1, 1, none⟩ = some (.slice (some ⟨pb, po1, none⟩) p.es.length pec) ∧ W1.cell? ⟨w.heap.size, 1, none⟩ = some (.slice (some ⟨gb, go1, none⟩) g.es.length gec) ∧ W1.cell? ⟨pb, po1 + xn * 4, none⟩ = some (.int .i64 eI.k) ∧ W1.cell? ⟨pb, po1 + xn * 4 + 1, none⟩ = some (.int .i64 eI.v) ∧ W1.cell? ⟨pb, po1 + xn * 4 + 2, none⟩ = some (.slice ia eI.i.length ic) ∧ W1.cell? ⟨pb, po1 + xn * 4 + 3, none⟩ = some (.slice oa eI.o.length oc) ∧ W1.cell? ⟨gb, go1 + yn * 4, none⟩ = some (.int .i64 oF.k) ∧ W1.cell? ⟨gb, go1 + yn * 4 + 1, none⟩ = some (.int .i64 oF.v) ∧ W1.cell? ⟨gb, go1 + yn * 4 + 2, none⟩ = some (.slice ia2 oF.i.length ic2) ∧ W1.cell? ⟨gb, go1 + yn * 4 + 3, none⟩ = some (.slice oa2 oF.o.length oc2) from
                  ⟨(bq4 (show W1.heap[w.heap.size + 1]? = some (.cells #[.int .i64 p.n, .slice (some ⟨pb, po1, none⟩) p.es.length pec, piv, pov] 29 (0, 0)) from Sep.all h _ hP)).2.1, (bq4 (show W1.heap[w.heap.size]? = some (.cells #[.int .i64 g.n, .slice (some ⟨gb, go1, none⟩) g.es.length gec, giv, gov] 29 (0, 0)) from Sep.all h _ hG)).2.1, (HPA.out W1 hk).1.1, (HPA.out W1 hk).1.2.1, (HPA.out W1 hk).1.2.2.1, (HPA.out W1 hk).1.2.2.2, (HGA.out W1 hk).1.1, (HGA.out W1 hk).1.2.1, (HGA.out W1 hk).1.2.2.1, (HGA.out W1 hk).1.2.2.2⟩
                clear hs9 hin hex hlpx hlgy heI hoF hpat hgat hxp hyg
                generalize hev : E.getD xn 0 = ex at c0 hex2 hen hneg
                have HEV := Lib.hid hev
                clear hev
                go_upto_region 12 with (
                  go_at_call 96
                  with_reducible refine HHAS.out.mono ?_
                  rintro z w6 ⟨rfl, hg6⟩
                  have hs10 := HS9.out.grown hg6
                  obtain ⟨n2a, n2b⟩ := bq2 hs10.tl.tl.tl.tl.hd
                  have c2 := own_at (show OwnInts 0 w6 (.slice (some ⟨eb, 0, none⟩) E0.length ec) E from hs10.tl.tl.tl.hd) HEL2.out HXL.out
                  rw [HEV.out] at c2
                  have HS10 := Lib.hid hs10
                  clear hg6 hs10 c0 n0 n1)
                go_cut [18, 19] from 100 to 109 (fun vx vy wx => ∃ (bx by2 : Nat), vx = .pointer (some ⟨bx, 0, none⟩) ∧ vy = .pointer (some ⟨by2, 0, none⟩) ∧ Sep wx (BxA bx #[.int .i64 eI.k, .int .i64 eI.v, .slice ia eI.i.length ic, .slice oa eI.o.length oc] 69 :: BxA by2 #[.int .i64 oF.k, .int .i64 oF.v, .slice ia2 oF.i.length ic2, .slice oa2 oF.o.length oc2] 69 :: [QA (.slice tq T.length qc) T, QA (.slice rq I.length rc) I, OI (.slice (some ⟨wb, 0, none⟩) W0.length wk) W, OI (.slice (some ⟨eb, 0, none⟩) E0.length ec) E, BxA (w.heap.size + 1 + 1) #[.slice (some ⟨wb, 0, none⟩) W0.length wk, .slice (some ⟨eb, 0, none⟩) E0.length ec] 95, BxA (w.heap.size + 1 + 1 + 1) #[.slice none 0 0, .slice none 0 0] 95, OI (.slice ha LH.length hac) LH, OI (.slice ga LG.length gac) LG, OI (.slice ta LT.length tac) LT, OI (.slice fa LF.length fac) LF, BxA (w.heap.size + 1) #[.int .i64 p.n, .slice (some ⟨pb, po1, none⟩) p.es.length pec, piv, pov] 29, BxA w.heap.size #[.int .i64 g.n, .slice (some ⟨gb, go1, none⟩) g.es.length gec, giv, gov] 29, KeepA w]))
                case first =>
                  have hs11 := HS10.out.dr
                  have HS11 := Lib.hid hs11
                  have X0 := Lib.hid (HB12.out _ _ hs11 (by simp) (by simp) (show w.grownBy _ none from hs11.tl.tl.tl.tl.tl.tl.tl.tl.tl.tl.tl.tl.hd))
                  clear hs11 c2 n2a n2b HS9
                  refine AnyL.start (fun W1 => W1.cell? ⟨w.heap.size + 1, 1, none⟩ = some (.slice (some ⟨pb, po1, none⟩) p.es.length pec) ∧ W1.cell? ⟨w.heap.size, 1, none⟩ = some (.slice (some ⟨gb, go1, none⟩) g.es.length gec) ∧ W1.cell? ⟨pb, po1 + xn * 4, none⟩ = some (.int .i64 eI.k) ∧ W1.cell? ⟨pb, po1 + xn * 4 + 1, none⟩ = some (.int .i64 eI.v) ∧ W1.cell? ⟨pb, po1 + xn * 4 + 2, none⟩ = some (.slice ia eI.i.length ic) ∧ W1.cell? ⟨pb, po1 + xn * 4 + 3, none⟩ = some (.slice oa eI.o.length oc) ∧ W1.cell? ⟨gb, go1 + yn * 4, none⟩ = some (.int .i64 oF.k) ∧ W1.cell? ⟨gb, go1 + yn * 4 + 1, none⟩ = some (.int .i64 oF.v) ∧ W1.cell? ⟨gb, go1 + yn * 4 + 2, none⟩ = some (.slice ia2 oF.i.length ic2) ∧ W1.cell? ⟨gb, go1 + yn * 4 + 3, none⟩ = some (.slice oa2 oF.o.length oc2)) (fun _ => True) 99 (by kernel_rfl) ?_
                  refine AnyL.take (i := 0) (v := ?vx20) (by rfl) (by kernel_rfl) (by kernel_rfl) (by kernel_rfl) rfl (by exact fun _ _ _ h => h) (by rfl) ?hyx20 (by exact ⟨X0.out, fun _ => trivial⟩) ?restx20
                  case hyx20 => intro W hSW; (try dsimp only at hSW); first | (go_simp; done) | (go_simp; with_reducible rfl)
                  try simp only [Act.put, List.setIfInBounds_toArray, List.set_cons_zero, List.set_cons_succ]
                  refine AnyL.take (i := 1) (v := ?vx21) (by rfl) (by kernel_rfl) (by kernel_rfl) (by kernel_rfl) rfl (by exact fun _ _ _ h => h) (by rfl) ?hyx21 (by exact ⟨X0.out, fun _ => trivial⟩) ?restx21
                  case hyx21 => intro W hSW; (try dsimp only at hSW); first | (go_simp; done) | (go_simp; with_reducible rfl)
                  try simp only [Act.put, List.setIfInBounds_toArray, List.set_cons_zero, List.set_cons_succ]
                  refine AnyL.take (i := 2) (v := ?vx22) (by rfl) (by kernel_rfl) (by kernel_rfl) (by kernel_rfl) rfl (by exact fun _ _ _ h => h) (by rfl) ?hyx22 (by exact ⟨X0.out, fun _ => trivial⟩) ?restx22
                  case hyx22 => intro W hSW; (try dsimp only at hSW); first | (go_simp; done) | (go_simp; with_reducible rfl)
                  try simp only [Act.put, List.setIfInBounds_toArray, List.set_cons_zero, List.set_cons_succ]
                  refine AnyL.take (i := 3) (v := ?vx23) (by rfl) (by kernel_rfl) (by kernel_rfl) (by kernel_rfl) rfl (by exact fun _ _ _ h => h) (by rfl) ?hyx23 (by exact ⟨X0.out, fun _ => trivial⟩) ?restx23
                  case hyx23 => intro W hSW; (try dsimp only at hSW); first | (go_simp; done) | (go_simp; with_reducible rfl)
                  try simp only [Act.put, List.setIfInBounds_toArray, List.set_cons_zero, List.set_cons_succ]
                  refine AnyL.take (i := 4) (v := ?vx24) (by rfl) (by kernel_rfl) (by kernel_rfl) (by kernel_rfl) rfl (by exact fun _ _ _ h => h) (by rfl) ?hyx24 (by exact ⟨X0.out, fun _ => trivial⟩) ?restx24
                  case hyx24 => intro W hSW; (try dsimp only at hSW); first | (go_simp; done) | (go_simp; with_reducible rfl)
                  try simp only [Act.put, List.setIfInBounds_toArray, List.set_cons_zero, List.set_cons_succ]
                  refine AnyL.take (i := 5) (v := ?vx25) (by rfl) (by kernel_rfl) (by kernel_rfl) (by kernel_rfl) rfl (by exact fun _ _ _ h => h) (by rfl) ?hyx25 (by exact ⟨X0.out, fun _ => trivial⟩) ?restx25
                  case hyx25 => intro W hSW; (try dsimp only at hSW); first | (go_simp; done) | (go_simp; with_reducible rfl)
                  try simp only [Act.put, List.setIfInBounds_toArray, List.set_cons_zero, List.set_cons_succ]
                  refine AnyL.take (i := 6) (v := ?vx26) (by rfl) (by kernel_rfl) (by kernel_rfl) (by kernel_rfl) rfl (by exact fun _ _ _ h => h) (by rfl) ?hyx26 (by exact ⟨X0.out, fun _ => trivial⟩) ?restx26
                  case hyx26 => intro W hSW; (try dsimp only at hSW); first | (go_simp; done) | (go_simp; with_reducible rfl)
                  try simp only [Act.put, List.setIfInBounds_toArray, List.set_cons_zero, List.set_cons_succ]
                  refine AnyL.take (i := 7) (v := ?vx27) (by rfl) (by kernel_rfl) (by kernel_rfl) (by kernel_rfl) rfl (by exact fun _ _ _ h => h) (by rfl) ?hyx27 (by exact ⟨X0.out, fun _ => trivial⟩) ?restx27
                  case hyx27 => intro W hSW; (try dsimp only at hSW); first | (go_simp; done) | (go_simp; with_reducible rfl)
                  try simp only [Act.put, List.setIfInBounds_toArray, List.set_cons_zero, List.set_cons_succ]
                  refine AnyL.take (i := 8) (v := ?vx28) (by rfl) (by kernel_rfl) (by kernel_rfl) (by kernel_rfl) rfl (by exact fun _ _ _ h => h) (by rfl) ?hyx28 (by exact ⟨X0.out, fun _ => trivial⟩) ?restx28
                  case hyx28 => intro W hSW; (try dsimp only at hSW); first | (go_simp; done) | (go_simp; with_reducible rfl)
                  try simp only [Act.put, List.setIfInBounds_toArray, List.set_cons_zero, List.set_cons_succ]
                  refine AnyL.take (i := 9) (v := ?vx29) (by rfl) (by kernel_rfl) (by kernel_rfl) (by kernel_rfl) rfl (by exact fun _ _ _ h => h) (by rfl) ?hyx29 (by exact ⟨X0.out, fun _ => trivial⟩) ?restx29
                  case hyx29 => intro W hSW; (try dsimp only at hSW); first | (go_simp; done) | (go_simp; with_reducible rfl)
                  try simp only [Act.put, List.setIfInBounds_toArray, List.set_cons_zero, List.set_cons_succ]
                  refine AnyL.two (i := 10) (j := 11) (by kernel_rfl) (by rfl) (by rfl) (fun K hK => ?_) (fun K hK => ?_)
                  · go_simp
                    have HA0 := Lib.hid (HS11.out.box #[.int .i64 0, .int .i64 0, .slice none 0 0, .slice none 0 0] 69)
                    refine hK.out _ (w6.drew.alloc (.cells #[.int .i64 0, .int .i64 0, .slice none 0 0, .slice none 0 0] 69)) (by exact HB12.out _ _ HA0.out (by simp) (by simp) (show w.grownBy _ none from HA0.out.tl.tl.tl.tl.tl.tl.tl.tl.tl.tl.tl.tl.tl.hd)) (by exact fun _ => trivial) ?_
                    clear hK K
                    try simp only [Act.put, List.setIfInBounds_toArray, List.set_cons_zero, List.set_cons_succ]
                    refine AnyL.step (i := 11) (by kernel_rfl) (by rfl) (fun K hK => ?_)
                    go_simp
                    have HB0 := Lib.hid (HA0.out.box #[.int .i64 0, .int .i64 0, .slice none 0 0, .slice none 0 0] 69)
                    refine hK.out _ ((w6.drew.alloc (.cells #[.int .i64 0, .int .i64 0, .slice none 0 0, .slice none 0 0] 69)).alloc (.cells #[.int .i64 0, .int .i64 0, .slice none 0 0, .slice none 0 0] 69)) (by exact HB12.out _ _ HB0.out (by simp) (by simp) (show w.grownBy _ none from HB0.out.tl.tl.tl.tl.tl.tl.tl.tl.tl.tl.tl.tl.tl.tl.hd)) (by exact fun _ => trivial) ?_
                    clear hK K
                    try simp only [Act.put, List.setIfInBounds_toArray, List.set_cons_zero, List.set_cons_succ]
                    have hz := HB0.out
                    rw [show (w6.drew.alloc (.cells #[.int .i64 0, .int .i64 0, .slice none 0 0, .slice none 0 0] 69)).heap.size = w6.heap.size + 1 by simp, show w6.drew.heap.size = w6.heap.size from rfl] at hz
                    generalize (w6.drew.alloc (.cells #[.int .i64 0, .int .i64 0, .slice none 0 0, .slice none 0 0] 69)).alloc (.cells #[.int .i64 0, .int .i64 0, .slice none 0 0, .slice none 0 0] 69) = wz at *
                    clear HA0 HB0
                    have hz1 := hz.s2
                    obtain ⟨k0, k1, k2, k3, k4, k5, k6, k7⟩ := bq4 hz1.hd
                    have hz2 := ((((hz1.setB 0 (.int .i64 eI.k)).setB 1 (.int .i64 eI.v)).setB 2 (.slice ia eI.i.length ic)).setB 3 (.slice oa eI.o.length oc))
                    obtain ⟨l0, l1, l2, l3, _⟩ := bq4 (x := .int .i64 eI.k) (y := .int .i64 eI.v) (z := .slice ia eI.i.length ic) (u := .slice oa eI.o.length oc) (t := 69) hz2.hd
                    have HZ2 := Lib.hid hz2
                    clear hz hz1 hz2
                    refine AnyL.step (i := 12) (by kernel_rfl) (by rfl) (fun K hK => ?_)
                    go_simp
                    refine hK.out _ (((((wz).setCell ⟨w6.heap.size, 0, none⟩ (.int .i64 eI.k)).setCell ⟨w6.heap.size, 1, none⟩ (.int .i64 eI.v)).setCell ⟨w6.heap.size, 2, none⟩ (.slice ia eI.i.length ic)).setCell ⟨w6.heap.size, 3, none⟩ (.slice oa eI.o.length oc)) (by exact HB12.out _ _ HZ2.out (by simp) (by simp) (show w.grownBy _ none from HZ2.out.tl.tl.tl.tl.tl.tl.tl.tl.tl.tl.tl.tl.tl.tl.hd)) (by exact fun _ => trivial) ?_
                    clear hK K
                    try simp only [Act.put, List.setIfInBounds_toArray, List.set_cons_zero, List.set_cons_succ]
                    generalize ((((wz).setCell ⟨w6.heap.size, 0, none⟩ (.int .i64 eI.k)).setCell ⟨w6.heap.size, 1, none⟩ (.int .i64 eI.v)).setCell ⟨w6.heap.size, 2, none⟩ (.slice ia eI.i.length ic)).setCell ⟨w6.heap.size, 3, none⟩ (.slice oa eI.o.length oc) = wy at *
                    have hz1 := HZ2.out.s2
                    clear k0 k1 k2 k3 k4 k5 k6 k7 l0 l1 l2 l3
                    obtain ⟨k0, k1, k2, k3, k4, k5, k6, k7⟩ := bq4 hz1.hd
                    have hz2 := ((((hz1.setB 0 (.int .i64 oF.k)).setB 1 (.int .i64 oF.v)).setB 2 (.slice ia2 oF.i.length ic2)).setB 3 (.slice oa2 oF.o.length oc2))
                    have HZ3 := Lib.hid hz2
                    clear hz1 hz2
                    refine AnyL.step (i := 13) (by kernel_rfl) (by rfl) (fun K hK => ?_)
                    go_simp
                    refine hK.out _ (((((wy).setCell ⟨w6.heap.size + 1, 0, none⟩ (.int .i64 oF.k)).setCell ⟨w6.heap.size + 1, 1, none⟩ (.int .i64 oF.v)).setCell ⟨w6.heap.size + 1, 2, none⟩ (.slice ia2 oF.i.length ic2)).setCell ⟨w6.heap.size + 1, 3, none⟩ (.slice oa2 oF.o.length oc2)) (by exact HB12.out _ _ HZ3.out (by simp) (by simp) (show w.grownBy _ none from HZ3.out.tl.tl.tl.tl.tl.tl.tl.tl.tl.tl.tl.tl.tl.tl.hd)) (by exact fun _ => trivial) ?_
                    clear hK K
                    try simp only [Act.put, List.setIfInBounds_toArray, List.set_cons_zero, List.set_cons_succ]
                    refine AnyL.done (by kernel_rfl) ?_ _
                    go_wp2_with fail
                    go_meet
                    exact ⟨w6.heap.size, w6.heap.size + 1, rfl, rfl, HZ3.out.s2⟩
                  · go_simp
                    have HA1 := Lib.hid (HS11.out.box #[.int .i64 0, .int .i64 0, .slice none 0 0, .slice none 0 0] 69)
                    refine hK.out _ (w6.drew.alloc (.cells #[.int .i64 0, .int .i64 0, .slice none 0 0, .slice none 0 0] 69)) (by exact HB12.out _ _ HA1.out (by simp) (by simp) (show w.grownBy _ none from HA1.out.tl.tl.tl.tl.tl.tl.tl.tl.tl.tl.tl.tl.tl.hd)) (by exact fun _ => trivial) ?_
                    clear hK K
                    try simp only [Act.put, List.setIfInBounds_toArray, List.set_cons_zero, List.set_cons_succ]
                    refine AnyL.step (i := 10) (by kernel_rfl) (by rfl) (fun K hK => ?_)
                    go_simp
                    have HB1 := Lib.hid (HA1.out.box #[.int .i64 0, .int .i64 0, .slice none 0 0, .slice none 0 0] 69)
                    refine hK.out _ ((w6.drew.alloc (.cells #[.int .i64 0, .int .i64 0, .slice none 0 0, .slice none 0 0] 69)).alloc (.cells #[.int .i64 0, .int .i64 0, .slice none 0 0, .slice none 0 0] 69)) (by exact HB12.out _ _ HB1.out (by simp) (by simp) (show w.grownBy _ none from HB1.out.tl.tl.tl.tl.tl.tl.tl.tl.tl.tl.tl.tl.tl.tl.hd)) (by exact fun _ => trivial) ?_
                    clear hK K
                    try simp only [Act.put, List.setIfInBounds_toArray, List.set_cons_zero, List.set_cons_succ]
                    have hz := HB1.out
                    rw [show (w6.drew.alloc (.cells #[.int .i64 0, .int .i64 0, .slice none 0 0, .slice none 0 0] 69)).heap.size = w6.heap.size + 1 by simp, show w6.drew.heap.size = w6.heap.size from rfl] at hz
                    generalize (w6.drew.alloc (.cells #[.int .i64 0, .int .i64 0, .slice none 0 0, .slice none 0 0] 69)).alloc (.cells #[.int .i64 0, .int .i64 0, .slice none 0 0, .slice none 0 0] 69) = wz at *
                    clear HA1 HB1
                    have hz1 := hz
                    obtain ⟨k0, k1, k2, k3, k4, k5, k6, k7⟩ := bq4 hz1.hd
                    have hz2 := ((((hz1.setB 0 (.int .i64 eI.k)).setB 1 (.int .i64 eI.v)).setB 2 (.slice ia eI.i.length ic)).setB 3 (.slice oa eI.o.length oc))
                    obtain ⟨l0, l1, l2, l3, _⟩ := bq4 (x := .int .i64 eI.k) (y := .int .i64 eI.v) (z := .slice ia eI.i.length ic) (u := .slice oa eI.o.length oc) (t := 69) hz2.hd
                    have HZ2 := Lib.hid hz2
                    clear hz hz1 hz2
                    refine AnyL.step (i := 12) (by kernel_rfl) (by rfl) (fun K hK => ?_)
                    go_simp
                    refine hK.out _ (((((wz).setCell ⟨w6.heap.size + 1, 0, none⟩ (.int .i64 eI.k)).setCell ⟨w6.heap.size + 1, 1, none⟩ (.int .i64 eI.v)).setCell ⟨w6.heap.size + 1, 2, none⟩ (.slice ia eI.i.length ic)).setCell ⟨w6.heap.size + 1, 3, none⟩ (.slice oa eI.o.length oc)) (by exact HB12.out _ _ HZ2.out (by simp) (by simp) (show w.grownBy _ none from HZ2.out.tl.tl.tl.tl.tl.tl.tl.tl.tl.tl.tl.tl.tl.tl.hd)) (by exact fun _ => trivial) ?_
                    clear hK K
                    try simp only [Act.put, List.setIfInBounds_toArray, List.set_cons_zero, List.set_cons_succ]
                    generalize ((((wz).setCell ⟨w6.heap.size + 1, 0, none⟩ (.int .i64 eI.k)).setCell ⟨w6.heap.size + 1, 1, none⟩ (.int .i64 eI.v)).setCell ⟨w6.heap.size + 1, 2, none⟩ (.slice ia eI.i.length ic)).setCell ⟨w6.heap.size + 1, 3, none⟩ (.slice oa eI.o.length oc) = wy at *
                    have hz1 := HZ2.out.s2
                    clear k0 k1 k2 k3 k4 k5 k6 k7 l0 l1 l2 l3
                    obtain ⟨k0, k1, k2, k3, k4, k5, k6, k7⟩ := bq4 hz1.hd
                    have hz2 := ((((hz1.setB 0 (.int .i64 oF.k)).setB 1 (.int .i64 oF.v)).setB 2 (.slice ia2 oF.i.length ic2)).setB 3 (.slice oa2 oF.o.length oc2))
                    have HZ3 := Lib.hid hz2
                    clear hz1 hz2
                    refine AnyL.step (i := 13) (by kernel_rfl) (by rfl) (fun K hK => ?_)
                    go_simp
                    refine hK.out _ (((((wy).setCell ⟨w6.heap.size, 0, none⟩ (.int .i64 oF.k)).setCell ⟨w6.heap.size, 1, none⟩ (.int .i64 oF.v)).setCell ⟨w6.heap.size, 2, none⟩ (.slice ia2 oF.i.length ic2)).setCell ⟨w6.heap.size, 3, none⟩ (.slice oa2 oF.o.length oc2)) (by exact HB12.out _ _ HZ3.out (by simp) (by simp) (show w.grownBy _ none from HZ3.out.tl.tl.tl.tl.tl.tl.tl.tl.tl.tl.tl.tl.tl.tl.hd)) (by exact fun _ => trivial) ?_
                    clear hK K
                    try simp only [Act.put, List.setIfInBounds_toArray, List.set_cons_zero, List.set_cons_succ]
                    refine AnyL.done (by kernel_rfl) ?_ _
                    go_wp2_with fail
                    go_meet
                    exact ⟨w6.heap.size + 1, w6.heap.size, rfl, rfl, HZ3.out.s2⟩
                case rest =>
                  obtain ⟨bx, by2, rfl, rfl, hs12⟩ := hcut
                  clear HS10
                  obtain ⟨x0, x1, x2, x3, _⟩ := bq4 hs12.hd
                  obtain ⟨y0, y1, y2, y3, _⟩ := bq4 hs12.tl.hd
                  have HS12 := Lib.hid hs12
                  by_cases hk : eI.k = oF.k
                  · by_cases hv : eI.v = oF.v
                    · have t1 : (eI.k != oF.k) = false := by simpa using hk
                      have t2 : (eI.v != oF.v) = false := by simpa using hv
                      have HK := Lib.hid hk; have HV := Lib.hid hv
                      have m1 := (bq2 hs12.tl.tl.tl.tl.tl.tl.hd).2
                      have hsE := Sep.blk (A := [_, _, _, _, _]) (B := [_]) hs12
                      have q0 := own_at (show OwnInts 0 _ (.slice (some ⟨eb, 0, none⟩) E0.length ec) E from hsE.hd) HEL2.out HXL.out
                      have q1 := (show OwnInts 0 _ (.slice (some ⟨eb, 0, none⟩) E0.length ec) E from hsE.hd).free HEL2.out xn
                      have hs15 := Sep.blk (A := [_]) (B := [_, _, _, _, _]) (hsE.setI HEL2.out xn (yn : Int))
                      have HS15 := Lib.hid hs15
                      clear hk hv hs12 hsE hs15 HS12
                      generalize E.getD xn 0 = old at q0
                      go_upto_region 16 with fail
                      clear x0 x1 x2 x3 y0 y1 y2 y3 m1 q0 q1 t1 t2
                      generalize wc.setCell ⟨eb, xn, none⟩ (.int .i64 (yn : Int)) = w15 at *
                      have HBB := Lib.hid fun (W1 : World) (L : List Asrt) (h : Sep W1 L) (hX : BxA bx #[.int .i64 eI.k, .int .i64 eI.v, .slice ia eI.i.length ic, .slice oa eI.o.length oc] 69 ∈ L) (hY : BxA by2 #[.int .i64 oF.k, .int .i64 oF.v, .slice ia2 oF.i.length ic2, .slice oa2 oF.o.length oc2] 69 ∈ L) => show W1.cell? ⟨bx, 2, none⟩ = some (.slice ia eI.i.length ic) ∧ W1.cell? ⟨bx, 3, none⟩ = some (.slice oa eI.o.length oc) ∧ W1.cell? ⟨by2, 2, none⟩ = some (.slice ia2 oF.i.length ic2) ∧ W1.cell? ⟨by2, 3, none⟩ = some (.slice oa2 oF.o.length oc2) from
                        ⟨(bq4 (show W1.heap[bx]? = some (.cells #[.int .i64 eI.k, .int .i64 eI.v, .slice ia eI.i.length ic, .slice oa eI.o.length oc] 69 (0, 0)) from Sep.all h _ hX)).2.2.1, (bq4 (show W1.heap[bx]? = some (.cells #[.int .i64 eI.k, .int .i64 eI.v, .slice ia eI.i.length ic, .slice oa eI.o.length oc] 69 (0, 0)) from Sep.all h _ hX)).2.2.2.1, (bq4 (show W1.heap[by2]? = some (.cells #[.int .i64 oF.k, .int .i64 oF.v, .slice ia2 oF.i.length ic2, .slice oa2 oF.o.length oc2] 69 (0, 0)) from Sep.all h _ hY)).2.2.1, (bq4 (show W1.heap[by2]? = some (.cells #[.int .i64 oF.k, .int .i64 oF.v, .slice ia2 oF.i.length ic2, .slice oa2 oF.o.length oc2] 69 (0, 0)) from Sep.all h _ hY)).2.2.2.1⟩
                      have ha0 := HS15.out.dr
                      have Ha0 := Lib.hid ha0
                      have hka : w.grownBy _ none := ha0.tl.tl.tl.tl.tl.tl.tl.tl.tl.tl.tl.tl.tl.tl.hd
                      have hoa := l1Own_any _ eI.i _ (HPA.out _ hka).2.1 (by have := HLX.out; omega)
                      have HOa := Lib.hid hoa; have HKa := Lib.hid hka
                      have Xa := Lib.hid (HBB.out _ _ ha0 (by simp) (by simp))
                      clear ha0 hoa hka
                      refine AnyL.start (fun W1 => W1.cell? ⟨bx, 2, none⟩ = some (.slice ia eI.i.length ic) ∧ W1.cell? ⟨bx, 3, none⟩ = some (.slice oa eI.o.length oc) ∧ W1.cell? ⟨by2, 2, none⟩ = some (.slice ia2 oF.i.length ic2) ∧ W1.cell? ⟨by2, 3, none⟩ = some (.slice oa2 oF.o.length oc2)) (fun _ => True) 99 (by kernel_rfl) ?_
                      refine AnyL.take (i := 0) (v := ?vx30) (by rfl) (by kernel_rfl) (by kernel_rfl) (by kernel_rfl) rfl (by exact fun _ _ _ h => h) (by rfl) ?hyx30 (by exact ⟨Xa.out, fun _ => trivial⟩) ?restx30
                      case hyx30 => intro W hSW; (try dsimp only at hSW); first | (go_simp; done) | (go_simp; with_reducible rfl)
                      try simp only [Act.put, List.setIfInBounds_toArray, List.set_cons_zero, List.set_cons_succ]
                      refine AnyL.take (i := 1) (v := ?vx31) (by rfl) (by kernel_rfl) (by kernel_rfl) (by kernel_rfl) rfl (by exact fun _ _ _ h => h) (by rfl) ?hyx31 (by exact ⟨Xa.out, fun _ => trivial⟩) ?restx31
                      case hyx31 => intro W hSW; (try dsimp only at hSW); first | (go_simp; done) | (go_simp; with_reducible rfl)
                      try simp only [Act.put, List.setIfInBounds_toArray, List.set_cons_zero, List.set_cons_succ]
                      refine AnyL.take (i := 3) (v := ?vx32) (by rfl) (by kernel_rfl) (by kernel_rfl) (by kernel_rfl) rfl (by exact fun _ _ _ h => h) (by rfl) ?hyx32 (by exact ⟨Xa.out, fun _ => trivial⟩) ?restx32
                      case hyx32 => intro W hSW; (try dsimp only at hSW); first | (go_simp; done) | (go_simp; with_reducible rfl)
                      try simp only [Act.put, List.setIfInBounds_toArray, List.set_cons_zero, List.set_cons_succ]
                      refine AnyL.take (i := 4) (v := ?vx33) (by rfl) (by kernel_rfl) (by kernel_rfl) (by kernel_rfl) rfl (by exact fun _ _ _ h => h) (by rfl) ?hyx33 (by exact ⟨Xa.out, fun _ => trivial⟩) ?restx33
                      case hyx33 => intro W hSW; (try dsimp only at hSW); first | (go_simp; done) | (go_simp; with_reducible rfl)
                      try simp only [Act.put, List.setIfInBounds_toArray, List.set_cons_zero, List.set_cons_succ]
                      refine AnyL.step (i := 2) (by kernel_rfl) (by rfl) (fun K hK => ?_)
                      go_simp
                      go_at_call 55
                      with_reducible refine HOa.out.mono ?_
                      rintro z wa1 ⟨aa, ca, rfl, hsg⟩
                      have Ha1 := Lib.hid (Ha0.out.graft1 hsg OI_own)
                      have hka1 : w.grownBy wa1 none := Ha1.out.tl.tl.tl.tl.tl.tl.tl.tl.tl.tl.tl.tl.tl.tl.tl.hd
                      have HIa := Lib.hid (HPA.out _ hka1).2.2
                      clear hsg hka1
                      refine hK.out _ _ (by exact HBB.out _ _ Ha1.out (by simp) (by simp)) (by exact fun _ => trivial) ?_
                      clear hK K
                      try simp only [Act.put, List.setIfInBounds_toArray, List.set_cons_zero, List.set_cons_succ]
                      refine AnyL.step (i := 5) (by kernel_rfl) (by rfl) (fun K hK => ?_)
                      refine step_app_intsS rfl (.tmp 130) (.tmp 132) rfl rfl rfl Ha1.out HIa.out (by have := HLX.out; omega) ?_
                      intro va wa2 hs2
                      have HS16 := Lib.hid hs2
                      clear hs2
                      refine hK.out _ _ (by exact HBB.out _ _ HS16.out (by simp) (by simp)) (by exact fun _ => trivial) ?_
                      clear hK K
                      try simp only [Act.put, List.setIfInBounds_toArray, List.set_cons_zero, List.set_cons_succ]
                      refine AnyL.take (i := 6) (v := ?vx34) (by rfl) (by kernel_rfl) (by kernel_rfl) (by kernel_rfl) rfl (by exact fun _ _ _ h => h) (by rfl) ?hyx34 (by exact ⟨HBB.out _ _ HS16.out (by simp) (by simp), fun _ => trivial⟩) ?restx34
                      case hyx34 => intro W hSW; (try dsimp only at hSW); first | (go_simp; done) | (go_simp; with_reducible rfl)
                      try simp only [Act.put, List.setIfInBounds_toArray, List.set_cons_zero, List.set_cons_succ]
                      refine AnyL.done (by kernel_rfl) ?_ _
                      clear Ha0 Ha1 HOa HKa Xa HIa
                      go_upto_region 17 with fail
                      have hb0 := HS16.out.dr
                      have Hb0 := Lib.hid hb0
                      have hkb : w.grownBy _ none := hb0.tl.tl.tl.tl.tl.tl.tl.tl.tl.tl.tl.tl.tl.tl.tl.hd
                      have hob := l1Own_any _ oF.i _ (HGA.out _ hkb).2.1 (by have := HLY.out; omega)
                      have HOb := Lib.hid hob; have HKb := Lib.hid hkb
                      have Xb := Lib.hid (HBB.out _ _ hb0 (by simp) (by simp))
                      clear hb0 hob hkb
                      refine AnyL.start (fun W1 => W1.cell? ⟨bx, 2, none⟩ = some (.slice ia eI.i.length ic) ∧ W1.cell? ⟨bx, 3, none⟩ = some (.slice oa eI.o.length oc) ∧ W1.cell? ⟨by2, 2, none⟩ = some (.slice ia2 oF.i.length ic2) ∧ W1.cell? ⟨by2, 3, none⟩ = some (.slice oa2 oF.o.length oc2)) (fun _ => True) 99 (by kernel_rfl) ?_
                      refine AnyL.take (i := 0) (v := ?vx35) (by rfl) (by kernel_rfl) (by kernel_rfl) (by kernel_rfl) rfl (by exact fun _ _ _ h => h) (by rfl) ?hyx35 (by exact ⟨Xb.out, fun _ => trivial⟩) ?restx35
                      case hyx35 => intro W hSW; (try dsimp only at hSW); first | (go_simp; done) | (go_simp; with_reducible rfl)
                      try simp only [Act.put, List.setIfInBounds_toArray, List.set_cons_zero, List.set_cons_succ]
                      refine AnyL.take (i := 1) (v := ?vx36) (by rfl) (by kernel_rfl) (by kernel_rfl) (by kernel_rfl) rfl (by exact fun _ _ _ h => h) (by rfl) ?hyx36 (by exact ⟨Xb.out, fun _ => trivial⟩) ?restx36
                      case hyx36 => intro W hSW; (try dsimp only at hSW); first | (go_simp; done) | (go_simp; with_reducible rfl)
                      try simp only [Act.put, List.setIfInBounds_toArray, List.set_cons_zero, List.set_cons_succ]
                      refine AnyL.take (i := 3) (v := ?vx37) (by rfl) (by kernel_rfl) (by kernel_rfl) (by kernel_rfl) rfl (by exact fun _ _ _ h => h) (by rfl) ?hyx37 (by exact ⟨Xb.out, fun _ => trivial⟩) ?restx37
                      case hyx37 => intro W hSW; (try dsimp only at hSW); first | (go_simp; done) | (go_simp; with_reducible rfl)
                      try simp only [Act.put, List.setIfInBounds_toArray, List.set_cons_zero, List.set_cons_succ]
                      refine AnyL.take (i := 4) (v := ?vx38) (by rfl) (by kernel_rfl) (by kernel_rfl) (by kernel_rfl) rfl (by exact fun _ _ _ h => h) (by rfl) ?hyx38 (by exact ⟨Xb.out, fun _ => trivial⟩) ?restx38
                      case hyx38 => intro W hSW; (try dsimp only at hSW); first | (go_simp; done) | (go_simp; with_reducible rfl)
                      try simp only [Act.put, List.setIfInBounds_toArray, List.set_cons_zero, List.set_cons_succ]
                      refine AnyL.step (i := 2) (by kernel_rfl) (by rfl) (fun K hK => ?_)
                      go_simp
                      go_at_call 55
                      with_reducible refine HOb.out.mono ?_
                      rintro z wb1 ⟨ab, cb, rfl, hsg⟩
                      have Hb1 := Lib.hid (Hb0.out.graft1 hsg OI_own)
                      have hkb1 : w.grownBy wb1 none := Hb1.out.tl.tl.tl.tl.tl.tl.tl.tl.tl.tl.tl.tl.tl.tl.tl.tl.hd
                      have HIb := Lib.hid (HGA.out _ hkb1).2.2
                      clear hsg hkb1
                      refine hK.out _ _ (by exact HBB.out _ _ Hb1.out (by simp) (by simp)) (by exact fun _ => trivial) ?_
                      clear hK K
                      try simp only [Act.put, List.setIfInBounds_toArray, List.set_cons_zero, List.set_cons_succ]
                      refine AnyL.step (i := 5) (by kernel_rfl) (by rfl) (fun K hK => ?_)
                      refine step_app_intsS rfl (.tmp 136) (.tmp 138) rfl rfl rfl Hb1.out HIb.out (by have := HLY.out; omega) ?_
                      intro vb wb2 hs2
                      have HS17 := Lib.hid hs2
                      clear hs2
                      refine hK.out _ _ (by exact HBB.out _ _ HS17.out (by simp) (by simp)) (by exact fun _ => trivial) ?_
                      clear hK K
                      try simp only [Act.put, List.setIfInBounds_toArray, List.set_cons_zero, List.set_cons_succ]
                      refine AnyL.take (i := 6) (v := ?vx39) (by rfl) (by kernel_rfl) (by kernel_rfl) (by kernel_rfl) rfl (by exact fun _ _ _ h => h) (by rfl) ?hyx39 (by exact ⟨HBB.out _ _ HS17.out (by simp) (by simp), fun _ => trivial⟩) ?restx39
                      case hyx39 => intro W hSW; (try dsimp only at hSW); first | (go_simp; done) | (go_simp; with_reducible rfl)
                      try simp only [Act.put, List.setIfInBounds_toArray, List.set_cons_zero, List.set_cons_succ]
                      refine AnyL.done (by kernel_rfl) ?_ _
                      clear Hb0 Hb1 HOb HKb Xb HIb
                      have hkk := HFN.out.kk xn yn HXP.out HYG.out (by rw [← HEI.out, ← HOF.out]; exact HK.out)
                      have hpk := pairs_ok HFN.out HXP.out HYG.out
                      rw [← HEI.out, ← HOF.out] at hkk hpk
                      have hpl := pairs_len hkk.1 hkk.2
                      have hpt := fun t (ht : t < (eI.i ++ eI.o).length) => pairs_at hkk.1 hkk.2 ht
                      have hl4 : (eI.i ++ eI.o).length ≤ 4 := by rw [List.length_append]; have := HLX.out; omega
                      have h17 := HS17.out
                      generalize eI.i ++ eI.o = wi at hpl hpt hl4 h17
                      generalize oF.i ++ oF.o = ims at hpl hpt h17
                      obtain ⟨a21, c21, rfl⟩ := own_shape (show OwnInts 0 _ vb ims from h17.hd)
                      obtain ⟨a20, c20, rfl⟩ := own_shape (show OwnInts 0 _ va wi from h17.tl.hd)
                      have h18 := Sep.blk (A := [_, _]) (B := [_, _, _, _, _, _, _, _, _, _]) (Sep.cutA (X := [_, _]) (A := [_, _]) h17)
                      have HS18 := Lib.hid (Sep.blk3 (X := [_, _, _, _, _, _, _, _, _, _]) (A := [_]) (B := [_]) h18)
                      have HPL := Lib.hid hpl; have HPT := Lib.hid hpt; have HL4 := Lib.hid hl4; have HPK := Lib.hid hpk
                      clear hkk hpk hpl hpt hl4 h17 h18 HS15 HS16 HS17 HBB HB12
                      go_wp2_with fail
                      go_loopg [16, 17, 22, 23, 24, 142] wi.length (fun gj tv iv _ _ _ c wr => ∃ (t : Nat) (Wt : List Int), t + gj = wi.length ∧ c = .int .i64 t ∧ setsL W ((pairsOf eI oF).take t) = some Wt ∧ Sep wr [QA tv (T ++ pshT LF LT ((pairsOf eI oF).take t)), QA iv (I ++ pshI LG LH ((pairsOf eI oF).take t)), OI (.slice (some ⟨wb, 0, none⟩) W0.length wk) Wt, OI (.slice (some ⟨eb, 0, none⟩) E0.length ec) (E.set xn (yn : Int)), BxA (w.heap.size + 1 + 1) #[.slice (some ⟨wb, 0, none⟩) W0.length wk, .slice (some ⟨eb, 0, none⟩) E0.length ec] 95, BxA (w.heap.size + 1 + 1 + 1) #[.slice none 0 0, .slice none 0 0] 95, OI (.slice ha LH.length hac) LH, OI (.slice ga LG.length gac) LG, OI (.slice ta LT.length tac) LT, OI (.slice fa LF.length fac) LF, OI (.slice a20 wi.length c20) wi, OI (.slice a21 ims.length c21) ims, BxA (w.heap.size + 1) #[.int .i64 p.n, .slice (some ⟨pb, po1, none⟩) p.es.length pec, piv, pov] 29, BxA w.heap.size #[.int .i64 g.n, .slice (some ⟨gb, go1, none⟩) g.es.length gec, giv, gov] 29, KeepA w])
                      case atStart => exact ⟨0, W, by omega, rfl, rfl, by simpa [pshT, pshI] using HS18.out⟩
                      case round =>
                        obtain ⟨t, Wt, htg, rfl, hst, hs⟩ := hrel
                        have HST := Lib.hid hst; have HSI := Lib.hid hs; have HTG := Lib.hid htg
                        have hWt : Wt.length = W0.length := by rw [setsL_len hst, HG.out.gd.lw]; exact HLW.out.symm
                        have hfa := setsL_facts (n := g.n) (ps := (pairsOf eI oF).take t) (by rw [HG.out.gd.lw]; exact fun x hx => HPK.out x (List.mem_of_mem_take hx)) hst HG.out.gd.inj HG.out.gd.rw
                        have HFA := Lib.hid hfa; have HWT := Lib.hid hWt
                        clear hst hfa hWt HS18
                        by_cases htl : t < wi.length
                        · have HTL := Lib.hid htl
                          have hpt := HPT.out t htl
                          have hpo := HPK.out _ hpt.2
                          simp only at hpo
                          obtain ⟨v, hv⟩ := Int.eq_ofNat_of_zero_le hpo.1.1
                          obtain ⟨u, hu⟩ := Int.eq_ofNat_of_zero_le hpo.2.1
                          rw [hv, hu] at hpt hpo
                          have hvn : v < p.n.toNat := by omega
                          have hun : u < g.n.toNat := by omega
                          have hvw : v < W0.length := by rw [HLW.out]; exact hvn
                          have hvF : v < LF.length := by rw [HEN.out.f.1]; exact hvn
                          have hvT : v < LT.length := by rw [HEN.out.t.1]; exact hvn
                          have huG : u < LG.length := by rw [HEN.out.gf.1]; exact hun
                          have huH : u < LH.length := by rw [HEN.out.gt.1]; exact hun
                          have htl2 : t < ims.length := by rw [HPL.out.2]; exact htl
                          obtain ⟨b1, o1, e1, _, hc1⟩ := (OwnInts.read (show OwnInts 0 wr (.slice a20 wi.length c20) wi from hs.tl.tl.tl.tl.tl.tl.tl.tl.tl.tl.hd)).atD (i := t) htl
                          obtain ⟨b2, o2, e2, _, hc2⟩ := (OwnInts.read (show OwnInts 0 wr (.slice a21 ims.length c21) ims from hs.tl.tl.tl.tl.tl.tl.tl.tl.tl.tl.tl.hd)).atD (i := t) htl2
                          rw [hv] at hc1
                          rw [hu] at hc2
                          subst e1 e2
                          have hti : (t : Int) < (wi.length : Int) := Int.ofNat_lt.2 htl
                          have hti2 : (t : Int) < (ims.length : Int) := Int.ofNat_lt.2 htl2
                          have hvi : (v : Int) < (W0.length : Int) := Int.ofNat_lt.2 hvw
                          have cw := own_at (show OwnInts 0 wr (.slice (some ⟨wb, 0, none⟩) W0.length wk) Wt from hs.tl.tl.hd) HWT.out.symm hvw
                          have fw := (show OwnInts 0 wr (.slice (some ⟨wb, 0, none⟩) W0.length wk) Wt from hs.tl.tl.hd).free HWT.out.symm v
                          obtain ⟨m0, m1⟩ := bq2 hs.tl.tl.tl.tl.hd
                          have hsn : setsL W ((pairsOf eI oF).take (t + 1)) = setL Wt v (u : Int) := by rw [hpt.1, setsL_snoc, HST.out]; simp only [Int.toNat_natCast]
                          have hps1 : pshT LF LT ((pairsOf eI oF).take (t + 1)) = pshT LF LT ((pairsOf eI oF).take t) ++ [LF.getD v 0, LT.getD v 0] := by rw [hpt.1, pshT_snoc]; simp only [Int.toNat_natCast]
                          have hps2 : pshI LG LH ((pairsOf eI oF).take (t + 1)) = pshI LG LH ((pairsOf eI oF).take t) ++ [LG.getD u 0, LH.getD u 0] := by rw [hpt.1, pshI_snoc]; simp only [Int.toNat_natCast]
                          obtain ⟨hb2, hhb⟩ := own_some (show OwnInts 0 wr (.slice ha LH.length hac) LH from hs.tl.tl.tl.tl.tl.tl.hd) (by omega)
                          obtain ⟨gb2, hgb2⟩ := own_some (show OwnInts 0 wr (.slice ga LG.length gac) LG from hs.tl.tl.tl.tl.tl.tl.tl.hd) (by omega)
                          obtain ⟨tb, htb⟩ := own_some (show OwnInts 0 wr (.slice ta LT.length tac) LT from hs.tl.tl.tl.tl.tl.tl.tl.tl.hd) (by omega)
                          obtain ⟨fb, hfb⟩ := own_some (show OwnInts 0 wr (.slice fa LF.length fac) LF from hs.tl.tl.tl.tl.tl.tl.tl.tl.tl.hd) (by omega)
                          subst hhb hgb2 htb hfb
                          obtain ⟨z1, hz1⟩ : ∃ z, z = LF.getD v 0 := ⟨_, rfl⟩
                          obtain ⟨z2, hz2⟩ : ∃ z, z = LT.getD v 0 := ⟨_, rfl⟩
                          obtain ⟨z3, hz3⟩ : ∃ z, z = LG.getD u 0 := ⟨_, rfl⟩
                          obtain ⟨z4, hz4⟩ : ∃ z, z = LH.getD u 0 := ⟨_, rfl⟩
                          rw [← hz1, ← hz2] at hps1
                          rw [← hz3, ← hz4] at hps2
                          have HC25 := Lib.hid fun (W1 : World) (L : List Asrt) (h : Sep W1 L) (h1 : OI (.slice (some ⟨fb, 0, none⟩) LF.length fac) LF ∈ L) (h2 : OI (.slice (some ⟨tb, 0, none⟩) LT.length tac) LT ∈ L) (h3 : OI (.slice (some ⟨gb2, 0, none⟩) LG.length gac) LG ∈ L) (h4 : OI (.slice (some ⟨hb2, 0, none⟩) LH.length hac) LH ∈ L) => show W1.cell? ⟨fb, v, none⟩ = some (.int .i64 z1) ∧ W1.cell? ⟨tb, v, none⟩ = some (.int .i64 z2) ∧ W1.cell? ⟨gb2, u, none⟩ = some (.int .i64 z3) ∧ W1.cell? ⟨hb2, u, none⟩ = some (.int .i64 z4) from
                            ⟨hz1 ▸ own_at (show OwnInts 0 W1 (.slice (some ⟨fb, 0, none⟩) LF.length fac) LF from Sep.all h _ h1) rfl hvF, hz2 ▸ own_at (show OwnInts 0 W1 (.slice (some ⟨tb, 0, none⟩) LT.length tac) LT from Sep.all h _ h2) rfl hvT, hz3 ▸ own_at (show OwnInts 0 W1 (.slice (some ⟨gb2, 0, none⟩) LG.length gac) LG from Sep.all h _ h3) rfl huG, hz4 ▸ own_at (show OwnInts 0 W1 (.slice (some ⟨hb2, 0, none⟩) LH.length hac) LH from Sep.all h _ h4) rfl huH⟩
                          have HRT := Lib.hid (show (T ++ pshT LF LT ((pairsOf eI oF).take t)).length + [z1, z2].length ≤ 1000000000 from room_two (t := t) (m := t) HMS2.out (show _ ≤ 8 from by rw [pshT_len, List.length_take]; have := HL4.out; omega) (by omega))
                          have HRI := Lib.hid (show (I ++ pshI LG LH ((pairsOf eI oF).take t)).length + [z3, z4].length ≤ 1000000000 from room_two (t := t) (m := t) (e := negs E) (g := gk2) (by have := HMS2.out; have := HG.out.len; simp only [List.length_cons] at this; omega) (show _ ≤ 8 from by rw [pshI_len, List.length_take]; have := HL4.out; omega) (by omega))
                          have HVH := Lib.hid hvi
                          clear hz1 hz2 hz3 hz4
                          have HSN := Lib.hid hsn; have HP1 := Lib.hid hps1; have HP2 := Lib.hid hps2
                          have HVF := Lib.hid hvF; have HVT := Lib.hid hvT; have HUG := Lib.hid huG; have HUH := Lib.hid huH; have HVW := Lib.hid hvw
                          clear hpt hpo hv hu hvn hun hvw hvF hvT huG huH htl2 hsn hps1 hps2
                          obtain ⟨gj2, hgj2⟩ : ∃ gj2, gk = gj2 + 1 := ⟨gk - 1, by omega⟩
                          subst hgj2
                          by_cases h0 : 0 ≤ Wt.getD v 0
                          · by_cases he : Wt.getD v 0 = (u : Int)
                            · have HSL := Lib.hid (show setL Wt v (u : Int) = some (Wt.set v (u : Int)) from by rw [set_same (by rw [HWT.out]; exact HVW.out) he]; unfold setL; rw [if_pos h0, if_pos he])
                              rw [he] at cw
                              have hne : ((u : Int) != (u : Int)) = false := by simp
                              clear h0 he hs
                              go_upto_region 25 with fail
                              have h24 := Sep.blk (A := [_]) (B := [_, _]) ((Sep.blk (A := [_, _]) (B := [_]) HSI.out).setI HWT.out.symm v (u : Int))
                              have H24 := Lib.hid h24
                              clear h24 cw fw m0 m1
                              generalize wr.setCell ⟨wb, v, none⟩ (.int .i64 (u : Int)) = w24 at *
                              have hq1 := HVF.out; have hq2 := HVT.out
                              have hpd := H24.out.dr
                              have Xp := Lib.hid (HC25.out _ _ hpd (by simp) (by simp) (by simp) (by simp))
                              have Hpd := Lib.hid hpd
                              clear hpd
                              refine AnyL.start (fun W1 => W1.cell? ⟨fb, v, none⟩ = some (.int .i64 z1) ∧ W1.cell? ⟨tb, v, none⟩ = some (.int .i64 z2) ∧ W1.cell? ⟨gb2, u, none⟩ = some (.int .i64 z3) ∧ W1.cell? ⟨hb2, u, none⟩ = some (.int .i64 z4)) (fun _ => True) 99 (by kernel_rfl) ?_
                              refine AnyL.take (i := 0) (v := ?vx40) (by rfl) (by kernel_rfl) (by kernel_rfl) (by kernel_rfl) rfl (by exact fun _ _ _ h => h) (by rfl) ?hyx40 (by exact ⟨Xp.out, fun _ => trivial⟩) ?restx40
                              case hyx40 => intro W hSW; (try dsimp only at hSW); first | (go_simp; done) | (go_simp; with_reducible rfl)
                              try simp only [Act.put, List.setIfInBounds_toArray, List.set_cons_zero, List.set_cons_succ]
                              refine AnyL.take (i := 1) (v := ?vx41) (by rfl) (by kernel_rfl) (by kernel_rfl) (by kernel_rfl) rfl (by exact fun _ _ _ h => h) (by rfl) ?hyx41 (by exact ⟨Xp.out, fun _ => trivial⟩) ?restx41
                              case hyx41 => intro W hSW; (try dsimp only at hSW); first | (go_simp; done) | (go_simp; with_reducible rfl)
                              try simp only [Act.put, List.setIfInBounds_toArray, List.set_cons_zero, List.set_cons_succ]
                              refine AnyL.take (i := 2) (v := ?vx42) (by rfl) (by kernel_rfl) (by kernel_rfl) (by kernel_rfl) rfl (by exact fun _ _ _ h => h) (by rfl) ?hyx42 (by exact ⟨Xp.out, fun _ => trivial⟩) ?restx42
                              case hyx42 => intro W hSW; (try dsimp only at hSW); first | (go_simp; done) | (go_simp; with_reducible rfl)
                              try simp only [Act.put, List.setIfInBounds_toArray, List.set_cons_zero, List.set_cons_succ]
                              refine AnyL.take (i := 3) (v := ?vx43) (by rfl) (by kernel_rfl) (by kernel_rfl) (by kernel_rfl) rfl (by exact fun _ _ _ h => h) (by rfl) ?hyx43 (by exact ⟨Xp.out, fun _ => trivial⟩) ?restx43
                              case hyx43 => intro W hSW; (try dsimp only at hSW); first | (go_simp; done) | (go_simp; with_reducible rfl)
                              try simp only [Act.put, List.setIfInBounds_toArray, List.set_cons_zero, List.set_cons_succ]
                              refine AnyL.take (i := 4) (v := ?vx44) (by rfl) (by kernel_rfl) (by kernel_rfl) (by kernel_rfl) rfl (by exact fun _ _ _ h => h) (by rfl) ?hyx44 (by exact ⟨Xp.out, fun _ => trivial⟩) ?restx44
                              case hyx44 => intro W hSW; (try dsimp only at hSW); first | (go_simp; done) | (go_simp; with_reducible rfl)
                              try simp only [Act.put, List.setIfInBounds_toArray, List.set_cons_zero, List.set_cons_succ]
                              refine AnyL.take (i := 5) (v := ?vx45) (by rfl) (by kernel_rfl) (by kernel_rfl) (by kernel_rfl) rfl (by exact fun _ _ _ h => h) (by rfl) ?hyx45 (by exact ⟨Xp.out, fun _ => trivial⟩) ?restx45
                              case hyx45 => intro W hSW; (try dsimp only at hSW); first | (go_simp; done) | (go_simp; with_reducible rfl)
                              try simp only [Act.put, List.setIfInBounds_toArray, List.set_cons_zero, List.set_cons_succ]
                              refine AnyL.take (i := 6) (v := ?vx46) (by rfl) (by kernel_rfl) (by kernel_rfl) (by kernel_rfl) rfl (by exact fun _ _ _ h => h) (by rfl) ?hyx46 (by exact ⟨Xp.out, fun _ => trivial⟩) ?restx46
                              case hyx46 => intro W hSW; (try dsimp only at hSW); first | (go_simp; done) | (go_simp; with_reducible rfl)
                              try simp only [Act.put, List.setIfInBounds_toArray, List.set_cons_zero, List.set_cons_succ]
                              refine AnyL.take (i := 7) (v := ?vx47) (by rfl) (by kernel_rfl) (by kernel_rfl) (by kernel_rfl) rfl (by exact fun _ _ _ h => h) (by rfl) ?hyx47 (by exact ⟨Xp.out, fun _ => trivial⟩) ?restx47
                              case hyx47 => intro W hSW; (try dsimp only at hSW); first | (go_simp; done) | (go_simp; with_reducible rfl)
                              try simp only [Act.put, List.setIfInBounds_toArray, List.set_cons_zero, List.set_cons_succ]
                              refine AnyL.take (i := 8) (v := ?vx48) (by rfl) (by kernel_rfl) (by kernel_rfl) (by kernel_rfl) rfl (by exact fun _ _ _ h => h) (by rfl) ?hyx48 (by exact ⟨Xp.out, fun _ => trivial⟩) ?restx48
                              case hyx48 => intro W hSW; (try dsimp only at hSW); first | (go_simp; done) | (go_simp; with_reducible rfl)
                              try simp only [Act.put, List.setIfInBounds_toArray, List.set_cons_zero, List.set_cons_succ]
                              refine AnyL.step (i := 9) (by kernel_rfl) (by rfl) (fun K hK => ?_)
                              go_simp
                              have Np := Lib.hid (Hpd.out.al (.cells #[.int .i64 z1, .int .i64 z2] 3))
                              refine hK.out _ ((w24.drew).alloc (.cells #[.int .i64 z1, .int .i64 z2] 3)) (by exact HC25.out _ _ Np.out (by simp) (by simp) (by simp) (by simp)) (by exact fun _ => trivial) ?_
                              clear hK K
                              try simp only [Act.put, List.setIfInBounds_toArray, List.set_cons_zero, List.set_cons_succ]
                              refine AnyL.step (i := 10) (by kernel_rfl) (by rfl) (fun K hK => ?_)
                              refine step_app_Q rfl (.tmp 186) (.tmp 195) rfl rfl rfl Np.out (ints_two rfl) HRT.out ?_
                              intro vp wp hs2
                              have H25 := Lib.hid hs2
                              clear hs2
                              refine hK.out _ _ (by exact HC25.out _ _ H25.out (by simp) (by simp) (by simp) (by simp)) (by exact fun _ => trivial) ?_
                              clear hK K
                              try simp only [Act.put, List.setIfInBounds_toArray, List.set_cons_zero, List.set_cons_succ]
                              refine AnyL.take (i := 11) (v := ?vx49) (by rfl) (by kernel_rfl) (by kernel_rfl) (by kernel_rfl) rfl (by exact fun _ _ _ h => h) (by rfl) ?hyx49 (by exact ⟨HC25.out _ _ H25.out (by simp) (by simp) (by simp) (by simp), fun _ => trivial⟩) ?restx49
                              case hyx49 => intro W hSW; (try dsimp only at hSW); first | (go_simp; done) | (go_simp; with_reducible rfl)
                              try simp only [Act.put, List.setIfInBounds_toArray, List.set_cons_zero, List.set_cons_succ]
                              refine AnyL.done (by kernel_rfl) ?_ _
                              clear Hpd Np Xp hq1 hq2
                              have h25 := Sep.blk (A := [_]) (B := [_]) H25.out
                              have H25b := Lib.hid h25
                              clear h25 H25
                              go_upto_region 26 with fail
                              have hq1 := HUG.out; have hq2 := HUH.out
                              have hqd := H25b.out.dr
                              have Xq := Lib.hid (HC25.out _ _ hqd (by simp) (by simp) (by simp) (by simp))
                              have Hqd := Lib.hid hqd
                              clear hqd
                              refine AnyL.start (fun W1 => W1.cell? ⟨fb, v, none⟩ = some (.int .i64 z1) ∧ W1.cell? ⟨tb, v, none⟩ = some (.int .i64 z2) ∧ W1.cell? ⟨gb2, u, none⟩ = some (.int .i64 z3) ∧ W1.cell? ⟨hb2, u, none⟩ = some (.int .i64 z4)) (fun _ => True) 99 (by kernel_rfl) ?_
                              refine AnyL.take (i := 0) (v := ?vx50) (by rfl) (by kernel_rfl) (by kernel_rfl) (by kernel_rfl) rfl (by exact fun _ _ _ h => h) (by rfl) ?hyx50 (by exact ⟨Xq.out, fun _ => trivial⟩) ?restx50
                              case hyx50 => intro W hSW; (try dsimp only at hSW); first | (go_simp; done) | (go_simp; with_reducible rfl)
                              try simp only [Act.put, List.setIfInBounds_toArray, List.set_cons_zero, List.set_cons_succ]
                              refine AnyL.take (i := 1) (v := ?vx51) (by rfl) (by kernel_rfl) (by kernel_rfl) (by kernel_rfl) rfl (by exact fun _ _ _ h => h) (by rfl) ?hyx51 (by exact ⟨Xq.out, fun _ => trivial⟩) ?restx51
                              case hyx51 => intro W hSW; (try dsimp only at hSW); first | (go_simp; done) | (go_simp; with_reducible rfl)
                              try simp only [Act.put, List.setIfInBounds_toArray, List.set_cons_zero, List.set_cons_succ]
                              refine AnyL.take (i := 2) (v := ?vx52) (by rfl) (by kernel_rfl) (by kernel_rfl) (by kernel_rfl) rfl (by exact fun _ _ _ h => h) (by rfl) ?hyx52 (by exact ⟨Xq.out, fun _ => trivial⟩) ?restx52
                              case hyx52 => intro W hSW; (try dsimp only at hSW); first | (go_simp; done) | (go_simp; with_reducible rfl)
                              try simp only [Act.put, List.setIfInBounds_toArray, List.set_cons_zero, List.set_cons_succ]
                              refine AnyL.take (i := 3) (v := ?vx53) (by rfl) (by kernel_rfl) (by kernel_rfl) (by kernel_rfl) rfl (by exact fun _ _ _ h => h) (by rfl) ?hyx53 (by exact ⟨Xq.out, fun _ => trivial⟩) ?restx53
                              case hyx53 => intro W hSW; (try dsimp only at hSW); first | (go_simp; done) | (go_simp; with_reducible rfl)
                              try simp only [Act.put, List.setIfInBounds_toArray, List.set_cons_zero, List.set_cons_succ]
                              refine AnyL.take (i := 4) (v := ?vx54) (by rfl) (by kernel_rfl) (by kernel_rfl) (by kernel_rfl) rfl (by exact fun _ _ _ h => h) (by rfl) ?hyx54 (by exact ⟨Xq.out, fun _ => trivial⟩) ?restx54
                              case hyx54 => intro W hSW; (try dsimp only at hSW); first | (go_simp; done) | (go_simp; with_reducible rfl)
                              try simp only [Act.put, List.setIfInBounds_toArray, List.set_cons_zero, List.set_cons_succ]
                              refine AnyL.take (i := 5) (v := ?vx55) (by rfl) (by kernel_rfl) (by kernel_rfl) (by kernel_rfl) rfl (by exact fun _ _ _ h => h) (by rfl) ?hyx55 (by exact ⟨Xq.out, fun _ => trivial⟩) ?restx55
                              case hyx55 => intro W hSW; (try dsimp only at hSW); first | (go_simp; done) | (go_simp; with_reducible rfl)
                              try simp only [Act.put, List.setIfInBounds_toArray, List.set_cons_zero, List.set_cons_succ]
                              refine AnyL.take (i := 6) (v := ?vx56) (by rfl) (by kernel_rfl) (by kernel_rfl) (by kernel_rfl) rfl (by exact fun _ _ _ h => h) (by rfl) ?hyx56 (by exact ⟨Xq.out, fun _ => trivial⟩) ?restx56
                              case hyx56 => intro W hSW; (try dsimp only at hSW); first | (go_simp; done) | (go_simp; with_reducible rfl)
                              try simp only [Act.put, List.setIfInBounds_toArray, List.set_cons_zero, List.set_cons_succ]
                              refine AnyL.take (i := 7) (v := ?vx57) (by rfl) (by kernel_rfl) (by kernel_rfl) (by kernel_rfl) rfl (by exact fun _ _ _ h => h) (by rfl) ?hyx57 (by exact ⟨Xq.out, fun _ => trivial⟩) ?restx57
                              case hyx57 => intro W hSW; (try dsimp only at hSW); first | (go_simp; done) | (go_simp; with_reducible rfl)
                              try simp only [Act.put, List.setIfInBounds_toArray, List.set_cons_zero, List.set_cons_succ]
                              refine AnyL.take (i := 8) (v := ?vx58) (by rfl) (by kernel_rfl) (by kernel_rfl) (by kernel_rfl) rfl (by exact fun _ _ _ h => h) (by rfl) ?hyx58 (by exact ⟨Xq.out, fun _ => trivial⟩) ?restx58
                              case hyx58 => intro W hSW; (try dsimp only at hSW); first | (go_simp; done) | (go_simp; with_reducible rfl)
                              try simp only [Act.put, List.setIfInBounds_toArray, List.set_cons_zero, List.set_cons_succ]
                              refine AnyL.step (i := 9) (by kernel_rfl) (by rfl) (fun K hK => ?_)
                              go_simp
                              have Nq := Lib.hid (Hqd.out.al (.cells #[.int .i64 z3, .int .i64 z4] 3))
                              refine hK.out _ ((wp.drew).alloc (.cells #[.int .i64 z3, .int .i64 z4] 3)) (by exact HC25.out _ _ Nq.out (by simp) (by simp) (by simp) (by simp)) (by exact fun _ => trivial) ?_
                              clear hK K
                              try simp only [Act.put, List.setIfInBounds_toArray, List.set_cons_zero, List.set_cons_succ]
                              refine AnyL.step (i := 10) (by kernel_rfl) (by rfl) (fun K hK => ?_)
                              refine step_app_Q rfl (.tmp 197) (.tmp 206) rfl rfl rfl Nq.out (ints_two rfl) HRI.out ?_
                              intro vq wq hs2
                              have H26 := Lib.hid hs2
                              clear hs2
                              refine hK.out _ _ (by exact HC25.out _ _ H26.out (by simp) (by simp) (by simp) (by simp)) (by exact fun _ => trivial) ?_
                              clear hK K
                              try simp only [Act.put, List.setIfInBounds_toArray, List.set_cons_zero, List.set_cons_succ]
                              refine AnyL.take (i := 11) (v := ?vx59) (by rfl) (by kernel_rfl) (by kernel_rfl) (by kernel_rfl) rfl (by exact fun _ _ _ h => h) (by rfl) ?hyx59 (by exact ⟨HC25.out _ _ H26.out (by simp) (by simp) (by simp) (by simp), fun _ => trivial⟩) ?restx59
                              case hyx59 => intro W hSW; (try dsimp only at hSW); first | (go_simp; done) | (go_simp; with_reducible rfl)
                              try simp only [Act.put, List.setIfInBounds_toArray, List.set_cons_zero, List.set_cons_succ]
                              refine AnyL.done (by kernel_rfl) ?_ _
                              clear Hqd Nq Xq hq1 hq2
                              have h26 := Sep.blk (A := [_]) (B := [_]) H26.out
                              have H26b := Lib.hid h26
                              clear h26 H26
                              go_wp2_with fail
                              go_roundg gj2
                              case measure => omega
                              case rel => exact ⟨t + 1, Wt.set v (u : Int), ghost_step HTG.out, congrArg (Value.int .i64) (wrap_step HTL.out (Nat.le_trans HL4.out (by decide))), HSN.out.trans HSL.out, by rw [HP1.out, HP2.out, ← List.append_assoc, ← List.append_assoc]; exact H26b.out⟩
                            · have HNO := Lib.hid (HG.out.no_set HFN.out (by rw [← HEI.out, ← HOF.out]; exact setsL_none (t := t + 1) (by rw [HSN.out]; unfold setL; rw [if_pos h0, if_neg he])))
                              have hne : (Wt.getD v 0 != (u : Int)) = true := by simpa using he
                              generalize Wt.getD v 0 = old at cw h0 hne
                              clear he hs
                              have hsf := Sep.blk (A := [_, _, _, _, _]) (B := [_]) HSI.out
                              have hf1 := hsf.setB 0 (.slice (some ⟨wb, 0, none⟩) W0.length wk)
                              have hf2 := hf1.setB 1 (.slice (some ⟨eb, 0, none⟩) E0.length ec)
                              obtain ⟨m0, m1⟩ := bq2 hsf.tl.tl.tl.tl.tl.hd
                              obtain ⟨r0, r1⟩ := bq2 hsf.hd
                              obtain ⟨q0, q1⟩ := bf2 hsf.hd
                              obtain ⟨s0, s1⟩ := bq2 (x := .slice (some ⟨wb, 0, none⟩) W0.length wk) (y := .slice none 0 0) (t := 95) hf1.hd
                              obtain ⟨t0, t1⟩ := bf2 (x := .slice (some ⟨wb, 0, none⟩) W0.length wk) (y := .slice none 0 0) (t := 95) hf1.hd
                              obtain ⟨v0, v1⟩ := bq2 (x := .slice (some ⟨wb, 0, none⟩) W0.length wk) (y := .slice (some ⟨eb, 0, none⟩) E0.length ec) (t := 95) hf2.hd
                              have HKF := Lib.hid (show w.grownBy _ none from hf2.tl.tl.tl.tl.tl.tl.tl.tl.tl.tl.tl.tl.tl.tl.hd)
                              clear hsf hf1 hf2
                              go_wp2_with fail
                              refine bodyPost_ret_by (v := .tuple #[.agg #[.slice (some ⟨wb, 0, none⟩) W0.length wk, .slice (some ⟨eb, 0, none⟩) E0.length ec], .bool false]) ?_ rfl (Or.inl ⟨_, _, _, _, _, _, rfl, HNO.out, HKF.out⟩)
                              simp [results, go_sem, *]
                          · have HHAS := Lib.hid (l1Has_any _ Wt (u : Int) wr (OwnInts.read (show OwnInts 0 wr (.slice (some ⟨wb, 0, none⟩) W0.length wk) Wt from hs.tl.tl.hd)) (by rw [HWT.out]; have := HWL.out; omega))
                            have h0b : Wt.getD v 0 < 0 := by omega
                            by_cases hm : (u : Int) ∈ Wt
                            · have HNO := Lib.hid (HG.out.no_set HFN.out (by rw [← HEI.out, ← HOF.out]; exact setsL_none (t := t + 1) (by rw [HSN.out]; unfold setL; rw [if_neg h0, if_pos hm])))
                              rw [decide_eq_true hm] at HHAS
                              generalize Wt.getD v 0 = old at cw h0 h0b
                              clear hm hs
                              go_wp2_with (
                                go_at_call 96
                                with_reducible refine HHAS.out.mono ?_
                                rintro z w6 ⟨rfl, hg6⟩
                                have HSJ := Lib.hid (HSI.out.grown hg6)
                                have hsf := Sep.blk (A := [_, _, _, _, _]) (B := [_]) HSJ.out
                                have hf1 := hsf.setB 0 (.slice (some ⟨wb, 0, none⟩) W0.length wk)
                                have hf2 := hf1.setB 1 (.slice (some ⟨eb, 0, none⟩) E0.length ec)
                                obtain ⟨m0, m1⟩ := bq2 hsf.tl.tl.tl.tl.tl.hd
                                obtain ⟨r0, r1⟩ := bq2 hsf.hd
                                obtain ⟨q0, q1⟩ := bf2 hsf.hd
                                obtain ⟨s0, s1⟩ := bq2 (x := .slice (some ⟨wb, 0, none⟩) W0.length wk) (y := .slice none 0 0) (t := 95) hf1.hd
                                obtain ⟨t0, t1⟩ := bf2 (x := .slice (some ⟨wb, 0, none⟩) W0.length wk) (y := .slice none 0 0) (t := 95) hf1.hd
                                obtain ⟨v0, v1⟩ := bq2 (x := .slice (some ⟨wb, 0, none⟩) W0.length wk) (y := .slice (some ⟨eb, 0, none⟩) E0.length ec) (t := 95) hf2.hd
                                have HKF := Lib.hid (show w.grownBy _ none from hf2.tl.tl.tl.tl.tl.tl.tl.tl.tl.tl.tl.tl.tl.tl.hd)
                                clear hsf hf1 hf2
                                clear hg6 cw fw)
                              refine bodyPost_ret_by (v := .tuple #[.agg #[.slice (some ⟨wb, 0, none⟩) W0.length wk, .slice (some ⟨eb, 0, none⟩) E0.length ec], .bool false]) ?_ rfl (Or.inl ⟨_, _, _, _, _, _, rfl, HNO.out, HKF.out⟩)
                              simp [results, go_sem, *]
                            · have HSL := Lib.hid (show setL Wt v (u : Int) = some (Wt.set v (u : Int)) from by unfold setL; rw [if_neg h0, if_neg hm])
                              rw [decide_eq_false hm] at HHAS
                              generalize hwv : Wt.getD v 0 = old at cw h0 h0b
                              have HWV := Lib.hid hwv
                              clear hwv hm hs
                              go_upto_region 25 with (
                                go_at_call 96
                                with_reducible refine HHAS.out.mono ?_
                                rintro z w6 ⟨rfl, hg6⟩
                                have hsj := HSI.out.grown hg6
                                have cw2 := own_at (show OwnInts 0 w6 (.slice (some ⟨wb, 0, none⟩) W0.length wk) Wt from hsj.tl.tl.hd) HWT.out.symm HVW.out
                                have fw2 := (show OwnInts 0 w6 (.slice (some ⟨wb, 0, none⟩) W0.length wk) Wt from hsj.tl.tl.hd).free HWT.out.symm v
                                obtain ⟨m2a, m2b⟩ := bq2 hsj.tl.tl.tl.tl.hd
                                rw [HWV.out] at cw2
                                have HSJ := Lib.hid hsj
                                clear hg6 hsj cw fw m0 m1)
                              have h24 := Sep.blk (A := [_]) (B := [_, _]) ((Sep.blk (A := [_, _]) (B := [_]) HSJ.out).setI HWT.out.symm v (u : Int))
                              have H24 := Lib.hid h24
                              clear h24 cw2 fw2 m2a m2b
                              generalize w6.setCell ⟨wb, v, none⟩ (.int .i64 (u : Int)) = w24 at *
                              have hq1 := HVF.out; have hq2 := HVT.out
                              have hpd := H24.out.dr
                              have Xp := Lib.hid (HC25.out _ _ hpd (by simp) (by simp) (by simp) (by simp))
                              have Hpd := Lib.hid hpd
                              clear hpd
                              refine AnyL.start (fun W1 => W1.cell? ⟨fb, v, none⟩ = some (.int .i64 z1) ∧ W1.cell? ⟨tb, v, none⟩ = some (.int .i64 z2) ∧ W1.cell? ⟨gb2, u, none⟩ = some (.int .i64 z3) ∧ W1.cell? ⟨hb2, u, none⟩ = some (.int .i64 z4)) (fun _ => True) 99 (by kernel_rfl) ?_
                              refine AnyL.take (i := 0) (v := ?vx60) (by rfl) (by kernel_rfl) (by kernel_rfl) (by kernel_rfl) rfl (by exact fun _ _ _ h => h) (by rfl) ?hyx60 (by exact ⟨Xp.out, fun _ => trivial⟩) ?restx60
                              case hyx60 => intro W hSW; (try dsimp only at hSW); first | (go_simp; done) | (go_simp; with_reducible rfl)
                              try simp only [Act.put, List.setIfInBounds_toArray, List.set_cons_zero, List.set_cons_succ]
                              refine AnyL.take (i := 1) (v := ?vx61) (by rfl) (by kernel_rfl) (by kernel_rfl) (by kernel_rfl) rfl (by exact fun _ _ _ h => h) (by rfl) ?hyx61 (by exact ⟨Xp.out, fun _ => trivial⟩) ?restx61
                              case hyx61 => intro W hSW; (try dsimp only at hSW); first | (go_simp; done) | (go_simp; with_reducible rfl)
                              try simp only [Act.put, List.setIfInBounds_toArray, List.set_cons_zero, List.set_cons_succ]
                              refine AnyL.take (i := 2) (v := ?vx62) (by rfl) (by kernel_rfl) (by kernel_rfl) (by kernel_rfl) rfl (by exact fun _ _ _ h => h) (by rfl) ?hyx62 (by exact ⟨Xp.out, fun _ => trivial⟩) ?restx62
                              case hyx62 => intro W hSW; (try dsimp only at hSW); first | (go_simp; done) | (go_simp; with_reducible rfl)
                              try simp only [Act.put, List.setIfInBounds_toArray, List.set_cons_zero, List.set_cons_succ]
                              refine AnyL.take (i := 3) (v := ?vx63) (by rfl) (by kernel_rfl) (by kernel_rfl) (by kernel_rfl) rfl (by exact fun _ _ _ h => h) (by rfl) ?hyx63 (by exact ⟨Xp.out, fun _ => trivial⟩) ?restx63
                              case hyx63 => intro W hSW; (try dsimp only at hSW); first | (go_simp; done) | (go_simp; with_reducible rfl)
                              try simp only [Act.put, List.setIfInBounds_toArray, List.set_cons_zero, List.set_cons_succ]
                              refine AnyL.take (i := 4) (v := ?vx64) (by rfl) (by kernel_rfl) (by kernel_rfl) (by kernel_rfl) rfl (by exact fun _ _ _ h => h) (by rfl) ?hyx64 (by exact ⟨Xp.out, fun _ => trivial⟩) ?restx64
                              case hyx64 => intro W hSW; (try dsimp only at hSW); first | (go_simp; done) | (go_simp; with_reducible rfl)
                              try simp only [Act.put, List.setIfInBounds_toArray, List.set_cons_zero, List.set_cons_succ]
                              refine AnyL.take (i := 5) (v := ?vx65) (by rfl) (by kernel_rfl) (by kernel_rfl) (by kernel_rfl) rfl (by exact fun _ _ _ h => h) (by rfl) ?hyx65 (by exact ⟨Xp.out, fun _ => trivial⟩) ?restx65
                              case hyx65 => intro W hSW; (try dsimp only at hSW); first | (go_simp; done) | (go_simp; with_reducible rfl)
                              try simp only [Act.put, List.setIfInBounds_toArray, List.set_cons_zero, List.set_cons_succ]
                              refine AnyL.take (i := 6) (v := ?vx66) (by rfl) (by kernel_rfl) (by kernel_rfl) (by kernel_rfl) rfl (by exact fun _ _ _ h => h) (by rfl) ?hyx66 (by exact ⟨Xp.out, fun _ => trivial⟩) ?restx66
                              case hyx66 => intro W hSW; (try dsimp only at hSW); first | (go_simp; done) | (go_simp; with_reducible rfl)
                              try simp only [Act.put, List.setIfInBounds_toArray, List.set_cons_zero, List.set_cons_succ]
                              refine AnyL.take (i := 7) (v := ?vx67) (by rfl) (by kernel_rfl) (by kernel_rfl) (by kernel_rfl) rfl (by exact fun _ _ _ h => h) (by rfl) ?hyx67 (by exact ⟨Xp.out, fun _ => trivial⟩) ?restx67
                              case hyx67 => intro W hSW; (try dsimp only at hSW); first | (go_simp; done) | (go_simp; with_reducible rfl)
                              try simp only [Act.put, List.setIfInBounds_toArray, List.set_cons_zero, List.set_cons_succ]
                              refine AnyL.take (i := 8) (v := ?vx68) (by rfl) (by kernel_rfl) (by kernel_rfl) (by kernel_rfl) rfl (by exact fun _ _ _ h => h) (by rfl) ?hyx68 (by exact ⟨Xp.out, fun _ => trivial⟩) ?restx68
                              case hyx68 => intro W hSW; (try dsimp only at hSW); first | (go_simp; done) | (go_simp; with_reducible rfl)
                              try simp only [Act.put, List.setIfInBounds_toArray, List.set_cons_zero, List.set_cons_succ]
                              refine AnyL.step (i := 9) (by kernel_rfl) (by rfl) (fun K hK => ?_)
                              go_simp
                              have Np := Lib.hid (Hpd.out.al (.cells #[.int .i64 z1, .int .i64 z2] 3))
                              refine hK.out _ ((w24.drew).alloc (.cells #[.int .i64 z1, .int .i64 z2] 3)) (by exact HC25.out _ _ Np.out (by simp) (by simp) (by simp) (by simp)) (by exact fun _ => trivial) ?_
                              clear hK K
                              try simp only [Act.put, List.setIfInBounds_toArray, List.set_cons_zero, List.set_cons_succ]
                              refine AnyL.step (i := 10) (by kernel_rfl) (by rfl) (fun K hK => ?_)
                              refine step_app_Q rfl (.tmp 186) (.tmp 195) rfl rfl rfl Np.out (ints_two rfl) HRT.out ?_
                              intro vp wp hs2
                              have H25 := Lib.hid hs2
                              clear hs2
                              refine hK.out _ _ (by exact HC25.out _ _ H25.out (by simp) (by simp) (by simp) (by simp)) (by exact fun _ => trivial) ?_
                              clear hK K
                              try simp only [Act.put, List.setIfInBounds_toArray, List.set_cons_zero, List.set_cons_succ]
                              refine AnyL.take (i := 11) (v := ?vx69) (by rfl) (by kernel_rfl) (by kernel_rfl) (by kernel_rfl) rfl (by exact fun _ _ _ h => h) (by rfl) ?hyx69 (by exact ⟨HC25.out _ _ H25.out (by simp) (by simp) (by simp) (by simp), fun _ => trivial⟩) ?restx69
                              case hyx69 => intro W hSW; (try dsimp only at hSW); first | (go_simp; done) | (go_simp; with_reducible rfl)
                              try simp only [Act.put, List.setIfInBounds_toArray, List.set_cons_zero, List.set_cons_succ]
                              refine AnyL.done (by kernel_rfl) ?_ _
                              clear Hpd Np Xp hq1 hq2
                              have h25 := Sep.blk (A := [_]) (B := [_]) H25.out
                              have H25b := Lib.hid h25
                              clear h25 H25
                              go_upto_region 26 with fail
                              have hq1 := HUG.out; have hq2 := HUH.out
                              have hqd := H25b.out.dr
                              have Xq := Lib.hid (HC25.out _ _ hqd (by simp) (by simp) (by simp) (by simp))
                              have Hqd := Lib.hid hqd
                              clear hqd
                              refine AnyL.start (fun W1 => W1.cell? ⟨fb, v, none⟩ = some (.int .i64 z1) ∧ W1.cell? ⟨tb, v, none⟩ = some (.int .i64 z2) ∧ W1.cell? ⟨gb2, u, none⟩ = some (.int .i64 z3) ∧ W1.cell? ⟨hb2, u, none⟩ = some (.int .i64 z4)) (fun _ => True) 99 (by kernel_rfl) ?_
                              refine AnyL.take (i := 0) (v := ?vx70) (by rfl) (by kernel_rfl) (by kernel_rfl) (by kernel_rfl) rfl (by exact fun _ _ _ h => h) (by rfl) ?hyx70 (by exact ⟨Xq.out, fun _ => trivial⟩) ?restx70
                              case hyx70 => intro W hSW; (try dsimp only at hSW); first | (go_simp; done) | (go_simp; with_reducible rfl)
                              try simp only [Act.put, List.setIfInBounds_toArray, List.set_cons_zero, List.set_cons_succ]
                              refine AnyL.take (i := 1) (v := ?vx71) (by rfl) (by kernel_rfl) (by kernel_rfl) (by kernel_rfl) rfl (by exact fun _ _ _ h => h) (by rfl) ?hyx71 (by exact ⟨Xq.out, fun _ => trivial⟩) ?restx71
                              case hyx71 => intro W hSW; (try dsimp only at hSW); first | (go_simp; done) | (go_simp; with_reducible rfl)
                              try simp only [Act.put, List.setIfInBounds_toArray, List.set_cons_zero, List.set_cons_succ]
                              refine AnyL.take (i := 2) (v := ?vx72) (by rfl) (by kernel_rfl) (by kernel_rfl) (by kernel_rfl) rfl (by exact fun _ _ _ h => h) (by rfl) ?hyx72 (by exact ⟨Xq.out, fun _ => trivial⟩) ?restx72
                              case hyx72 => intro W hSW; (try dsimp only at hSW); first | (go_simp; done) | (go_simp; with_reducible rfl)
                              try simp only [Act.put, List.setIfInBounds_toArray, List.set_cons_zero, List.set_cons_succ]
                              refine AnyL.take (i := 3) (v := ?vx73) (by rfl) (by kernel_rfl) (by kernel_rfl) (by kernel_rfl) rfl (by exact fun _ _ _ h => h) (by rfl) ?hyx73 (by exact ⟨Xq.out, fun _ => trivial⟩) ?restx73
                              case hyx73 => intro W hSW; (try dsimp only at hSW); first | (go_simp; done) | (go_simp; with_reducible rfl)
                              try simp only [Act.put, List.setIfInBounds_toArray, List.set_cons_zero, List.set_cons_succ]
                              refine AnyL.take (i := 4) (v := ?vx74) (by rfl) (by kernel_rfl) (by kernel_rfl) (by kernel_rfl) rfl (by exact fun _ _ _ h => h) (by rfl) ?hyx74 (by exact ⟨Xq.out, fun _ => trivial⟩) ?restx74
                              case hyx74 => intro W hSW; (try dsimp only at hSW); first | (go_simp; done) | (go_simp; with_reducible rfl)
                              try simp only [Act.put, List.setIfInBounds_toArray, List.set_cons_zero, List.set_cons_succ]
                              refine AnyL.take (i := 5) (v := ?vx75) (by rfl) (by kernel_rfl) (by kernel_rfl) (by kernel_rfl) rfl (by exact fun _ _ _ h => h) (by rfl) ?hyx75 (by exact ⟨Xq.out, fun _ => trivial⟩) ?restx75
                              case hyx75 => intro W hSW; (try dsimp only at hSW); first | (go_simp; done) | (go_simp; with_reducible rfl)
                              try simp only [Act.put, List.setIfInBounds_toArray, List.set_cons_zero, List.set_cons_succ]
                              refine AnyL.take (i := 6) (v := ?vx76) (by rfl) (by kernel_rfl) (by kernel_rfl) (by kernel_rfl) rfl (by exact fun _ _ _ h => h) (by rfl) ?hyx76 (by exact ⟨Xq.out, fun _ => trivial⟩) ?restx76
                              case hyx76 => intro W hSW; (try dsimp only at hSW); first | (go_simp; done) | (go_simp; with_reducible rfl)
                              try simp only [Act.put, List.setIfInBounds_toArray, List.set_cons_zero, List.set_cons_succ]
                              refine AnyL.take (i := 7) (v := ?vx77) (by rfl) (by kernel_rfl) (by kernel_rfl) (by kernel_rfl) rfl (by exact fun _ _ _ h => h) (by rfl) ?hyx77 (by exact ⟨Xq.out, fun _ => trivial⟩) ?restx77
                              case hyx77 => intro W hSW; (try dsimp only at hSW); first | (go_simp; done) | (go_simp; with_reducible rfl)
                              try simp only [Act.put, List.setIfInBounds_toArray, List.set_cons_zero, List.set_cons_succ]
                              refine AnyL.take (i := 8) (v := ?vx78) (by rfl) (by kernel_rfl) (by kernel_rfl) (by kernel_rfl) rfl (by exact fun _ _ _ h => h) (by rfl) ?hyx78 (by exact ⟨Xq.out, fun _ => trivial⟩) ?restx78
                              case hyx78 => intro W hSW; (try dsimp only at hSW); first | (go_simp; done) | (go_simp; with_reducible rfl)
                              try simp only [Act.put, List.setIfInBounds_toArray, List.set_cons_zero, List.set_cons_succ]
                              refine AnyL.step (i := 9) (by kernel_rfl) (by rfl) (fun K hK => ?_)
                              go_simp
                              have Nq := Lib.hid (Hqd.out.al (.cells #[.int .i64 z3, .int .i64 z4] 3))
                              refine hK.out _ ((wp.drew).alloc (.cells #[.int .i64 z3, .int .i64 z4] 3)) (by exact HC25.out _ _ Nq.out (by simp) (by simp) (by simp) (by simp)) (by exact fun _ => trivial) ?_
                              clear hK K
                              try simp only [Act.put, List.setIfInBounds_toArray, List.set_cons_zero, List.set_cons_succ]
                              refine AnyL.step (i := 10) (by kernel_rfl) (by rfl) (fun K hK => ?_)
                              refine step_app_Q rfl (.tmp 197) (.tmp 206) rfl rfl rfl Nq.out (ints_two rfl) HRI.out ?_
                              intro vq wq hs2
                              have H26 := Lib.hid hs2
                              clear hs2
                              refine hK.out _ _ (by exact HC25.out _ _ H26.out (by simp) (by simp) (by simp) (by simp)) (by exact fun _ => trivial) ?_
                              clear hK K
                              try simp only [Act.put, List.setIfInBounds_toArray, List.set_cons_zero, List.set_cons_succ]
                              refine AnyL.take (i := 11) (v := ?vx79) (by rfl) (by kernel_rfl) (by kernel_rfl) (by kernel_rfl) rfl (by exact fun _ _ _ h => h) (by rfl) ?hyx79 (by exact ⟨HC25.out _ _ H26.out (by simp) (by simp) (by simp) (by simp), fun _ => trivial⟩) ?restx79
                              case hyx79 => intro W hSW; (try dsimp only at hSW); first | (go_simp; done) | (go_simp; with_reducible rfl)
                              try simp only [Act.put, List.setIfInBounds_toArray, List.set_cons_zero, List.set_cons_succ]
                              refine AnyL.done (by kernel_rfl) ?_ _
                              clear Hqd Nq Xq hq1 hq2
                              have h26 := Sep.blk (A := [_]) (B := [_]) H26.out
                              have H26b := Lib.hid h26
                              clear h26 H26
                              go_wp2_with fail
                              go_roundg gj2
                              case measure => omega
                              case rel => exact ⟨t + 1, Wt.set v (u : Int), ghost_step HTG.out, congrArg (Value.int .i64) (wrap_step HTL.out (Nat.le_trans HL4.out (by decide))), HSN.out.trans HSL.out, by rw [HP1.out, HP2.out, ← List.append_assoc, ← List.append_assoc]; exact H26b.out⟩
                        · have hte : t = wi.length := by have := HTG.out; omega
                          have htk : (pairsOf eI oF).take t = pairsOf eI oF := List.take_of_length_le (by rw [HPL.out.1, hte]; exact Nat.le_refl _)
                          have h3 := HST.out
                          rw [htk] at h3 hs
                          have hn := HG.out.set HFN.out HEN.out HND.out HEX.out HIN.out (by rw [← HEI.out, ← HOF.out]; exact HK.out) (by rw [← HEI.out, ← HOF.out]; exact HV.out) (W' := Wt) (by rw [← HEI.out, ← HOF.out]; exact h3) HE0.out (by rw [HLE2.out]; exact HE.out)
                          rw [← HEI.out, ← HOF.out] at hn
                          have HN := Lib.hid hn
                          have HSZ := Lib.hid (grow_size (ps := pshT LF LT (pairsOf eI oF)) (yn := (yn : Int)) HMS2.out.1 (by rw [pshT_len, HPL.out.1]; have := HL4.out; omega) (by rw [← HEL2.out]; exact HXL.out) HEX.out (by omega))
                          have HSE := Lib.hid (Sep.cutA (X := [_, _, _, _, _, _, _, _, _, _]) (A := [_, _]) hs)
                          have htn : ¬ ((t : Int) < (wi.length : Int)) := by omega
                          clear hn h3 htk hs hte
                          go_wp2_with fail
                          go_roundg gk2
                          case measure => omega
                          case rel => exact ⟨Wt, E.set xn (yn : Int), _, _, HN.out, HSZ.out, HMS2.out.2, HSE.out⟩
                    · have HNO := Lib.hid (HG.out.no_kind HFN.out (Or.inr (by rw [← HEI.out, ← HOF.out]; exact hv)))
                      have t1 : (eI.k != oF.k) = false := by simpa using hk
                      have t2 : (eI.v != oF.v) = true := by simpa using hv
                      have HS13 := Lib.hid hs12.tl.tl
                      have hsf := Sep.blk (A := [_, _, _, _, _]) (B := [_]) HS13.out
                      have hf1 := hsf.setB 0 (.slice (some ⟨wb, 0, none⟩) W0.length wk)
                      have hf2 := hf1.setB 1 (.slice (some ⟨eb, 0, none⟩) E0.length ec)
                      obtain ⟨m0, m1⟩ := bq2 hsf.tl.tl.tl.tl.tl.hd
                      obtain ⟨r0, r1⟩ := bq2 hsf.hd
                      obtain ⟨q0, q1⟩ := bf2 hsf.hd
                      obtain ⟨s0, s1⟩ := bq2 (x := .slice (some ⟨wb, 0, none⟩) W0.length wk) (y := .slice none 0 0) (t := 95) hf1.hd
                      obtain ⟨t0, t1⟩ := bf2 (x := .slice (some ⟨wb, 0, none⟩) W0.length wk) (y := .slice none 0 0) (t := 95) hf1.hd
                      obtain ⟨v0, v1⟩ := bq2 (x := .slice (some ⟨wb, 0, none⟩) W0.length wk) (y := .slice (some ⟨eb, 0, none⟩) E0.length ec) (t := 95) hf2.hd
                      have HKF := Lib.hid (show w.grownBy _ none from hf2.tl.tl.tl.tl.tl.tl.tl.tl.tl.tl.tl.tl.hd)
                      clear hsf hf1 hf2
                      clear hs12 hk hv
                      go_wp2_with fail
                      refine bodyPost_ret_by (v := .tuple #[.agg #[.slice (some ⟨wb, 0, none⟩) W0.length wk, .slice (some ⟨eb, 0, none⟩) E0.length ec], .bool false]) ?_ rfl (Or.inl ⟨_, _, _, _, _, _, rfl, HNO.out, HKF.out⟩)
                      simp [results, go_sem, *]
                  · have HNO := Lib.hid (HG.out.no_kind HFN.out (Or.inl (by rw [← HEI.out, ← HOF.out]; exact hk)))
                    have t1 : (eI.k != oF.k) = true := by simpa using hk
                    have HS13 := Lib.hid hs12.tl.tl
                    have hsf := Sep.blk (A := [_, _, _, _, _]) (B := [_]) HS13.out
                    have hf1 := hsf.setB 0 (.slice (some ⟨wb, 0, none⟩) W0.length wk)
                    have hf2 := hf1.setB 1 (.slice (some ⟨eb, 0, none⟩) E0.length ec)
                    obtain ⟨m0, m1⟩ := bq2 hsf.tl.tl.tl.tl.tl.hd
                    obtain ⟨r0, r1⟩ := bq2 hsf.hd
                    obtain ⟨q0, q1⟩ := bf2 hsf.hd
                    obtain ⟨s0, s1⟩ := bq2 (x := .slice (some ⟨wb, 0, none⟩) W0.length wk) (y := .slice none 0 0) (t := 95) hf1.hd
                    obtain ⟨t0, t1⟩ := bf2 (x := .slice (some ⟨wb, 0, none⟩) W0.length wk) (y := .slice none 0 0) (t := 95) hf1.hd
                    obtain ⟨v0, v1⟩ := bq2 (x := .slice (some ⟨wb, 0, none⟩) W0.length wk) (y := .slice (some ⟨eb, 0, none⟩) E0.length ec) (t := 95) hf2.hd
                    have HKF := Lib.hid (show w.grownBy _ none from hf2.tl.tl.tl.tl.tl.tl.tl.tl.tl.tl.tl.tl.hd)
                    clear hsf hf1 hf2
                    clear hs12 hk
                    go_wp2_with fail
                    refine bodyPost_ret_by (v := .tuple #[.agg #[.slice (some ⟨wb, 0, none⟩) W0.length wk, .slice (some ⟨eb, 0, none⟩) E0.length ec], .bool false]) ?_ rfl (Or.inl ⟨_, _, _, _, _, _, rfl, HNO.out, HKF.out⟩)
                    simp [results, go_sem, *]
end Go.Proofs.Ytlpgjnjhhgjkmaa

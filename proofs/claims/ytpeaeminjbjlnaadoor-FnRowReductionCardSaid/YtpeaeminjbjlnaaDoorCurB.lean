/-
  The cursor of the draws once more: its bytes lie in blocks below N, so that what is written above N leaves it alone. Conditions: fewer than 2^40 bytes have been taken.
-/
import Derived.Test.YtpeaeminjbjlnaaDoorCur
import Derived.Test.YtpeaeminjbjlnaaDoorDrawF
import Derived.Test.YtpeaeminjbjlnaaDoorMem
namespace Go.Proofs.YtpeaeminjbjlnaaDoor.Bd
open Go.RowKit
set_option linter.unusedVariables false
variable {N : Nat}

structure Cur (N : Nat) (w : World) (b : Nat) (n : Int) : Prop where
  nb : N ≤ w.heap.size
  ex : ∃ (a : Option Addr) (len cap : Nat) (at' seed : Int),
    w.heap[b]? = some (.cells #[.slice a len cap, .int .i64 at', .int .u64 seed] 140 (0, 0)) ∧ 0 ≤ at' ∧ at' ≤ n ∧ len ≤ 140737488351232 ∧
    (∀ k : Nat, k < len → ∃ (d : Addr) (x : Int), a = some d ∧ d.block ≠ b ∧ d.block < N ∧ d.spot = none ∧ w.cell? ⟨d.block, d.off + k, none⟩ = some (.int .u8 x) ∧ 0 ≤ x ∧ x ≤ 255)

def Drawn (N : Nat) (R : Int → Prop) (b : Nat) (n : Int) (w : World) (e : Ending) (w' : World) : Prop :=
  ∃ v : Int, e = .returned (.int .i64 v) ∧ R v ∧ Cur N w' b n ∧ w.grownBy w' (some b)

theorem next_close {b : Nat} {n : Int} {w : World} {a : Option Addr} {len cap : Nat} {at' seed : Int}
    (hb : w.heap[b]? = some (.cells #[.slice a len cap, .int .i64 at', .int .u64 seed] 140 (0, 0)))
    (hx : ∀ k : Nat, k < len → ∃ (d : Addr) (x : Int), a = some d ∧ d.block ≠ b ∧ d.block < N ∧ d.spot = none ∧ w.cell? ⟨d.block, d.off + k, none⟩ = some (.int .u8 x) ∧ 0 ≤ x ∧ x ≤ 255)
    (hnb : N ≤ w.heap.size) (hn : at' ≤ n) (hl : len ≤ 140737488351232) (m q : Nat) {at2 seed2 : Int} {e : Ending}
    (he : ∃ v : Int, e = .returned (.int .i64 v) ∧ 0 ≤ v ∧ v ≤ 255) (h0 : 0 ≤ at2) (h1 : at2 ≤ n + 1) :
    Drawn N (fun v => 0 ≤ v ∧ v ≤ 255) b (n + 1) w e ((((w.drewN m).setCell ⟨b, 1, none⟩ (.int .i64 at2)).setCell ⟨b, 2, none⟩ (.int .u64 seed2)).drewN q) := by
  obtain ⟨v, rfl, v0, v1⟩ := he
  have hh : ∀ k : Nat, k ≠ b → ((((w.drewN m).setCell ⟨b, 1, none⟩ (.int .i64 at2)).setCell ⟨b, 2, none⟩ (.int .u64 seed2)).drewN q).heap[k]? = w.heap[k]? := by
    intro k hk
    show (((w.drewN m).setCell ⟨b, 1, none⟩ (.int .i64 at2)).setCell ⟨b, 2, none⟩ (.int .u64 seed2)).heap[k]? = _
    rw [Below.heap_setCell _ _ _ _ hk, Below.heap_setCell _ _ _ _ hk]; rfl
  refine ⟨v, rfl, ⟨v0, v1⟩, ⟨by simpa [World.setCell, World.drewN] using hnb, a, len, cap, at2, seed2, ?_, h0, h1, hl, ?_⟩, ⟨rfl, rfl, rfl, by simp [World.setCell, World.drewN], fun k _ hk => hh k (by simpa using hk)⟩⟩
  · have : (w.drewN m).heap[b]? = w.heap[b]? := rfl
    show (((w.drewN m).setCell ⟨b, 1, none⟩ (.int .i64 at2)).setCell ⟨b, 2, none⟩ (.int .u64 seed2)).heap[b]? = _
    simp only [World.setCell]
    rw [Array.getElem?_modify, if_pos rfl, Array.getElem?_modify, if_pos rfl, this, hb]
    rfl
  · intro k hk
    obtain ⟨d, x, ha, hd, hs, hsp, hc, x0, x1⟩ := hx k hk
    refine ⟨d, x, ha, hd, hs, hsp, ?_, x0, x1⟩
    exact (World.cell?_of_block (w := w) (a := ⟨d.block, d.off + k, none⟩) (hh _ hd)).trans hc

theorem next_any (b : Nat) (n : Int) (w : World) (hc : Cur N w b n) (hn : n + 1 ≤ 1000000000000) : Calls Tryd.prog 261 #[.pointer (some ⟨b, 0, none⟩)] w (Drawn N (fun v => 0 ≤ v ∧ v ≤ 255) b (n + 1) w) := by
  obtain ⟨hnb, a, len, cap, at', seed, hb, ha0, han, hl, hx⟩ := hc
  have c0 : w.cell? ⟨b, 0, none⟩ = some (.slice a len cap) := by simp [World.cell?, hb]
  have c1 : w.cell? ⟨b, 1, none⟩ = some (.int .i64 at') := by simp [World.cell?, hb]
  have c2 : w.cell? ⟨b, 2, none⟩ = some (.int .u64 seed) := by simp [World.cell?, hb]
  have f1 : w.frozen? ⟨b, 1, none⟩ = false := by simp [World.frozen?, hb]
  have f2 : w.frozen? ⟨b, 2, none⟩ = false := by simp [World.frozen?, hb]
  have HB := Lib.hid hb
  have HX := Lib.hid hx
  clear hb hx
  by_cases hlt : at' < len
  · obtain ⟨k, rfl⟩ := Int.eq_ofNat_of_zero_le ha0
    obtain ⟨d, x, rfl, hdb, hdw, hds, hcx, hx0, hx1⟩ := HX.out k (by omega)
    obtain ⟨db, doff, _⟩ := d
    simp only at hds
    subst hds
    go_enter Tryd.func261, Tryd.ntmps261
    go_wp2
    go_quiet (fail)
    go_wp2
    go_quiet (fail)
    go_wp2
    go_quiet (fail)
    go_wp2
    go_ret
    exact next_close HB.out HX.out hnb han hl _ _ ⟨_, rfl, hx0, hx1⟩ (by omega) (by omega)
  · have hle : len ≤ at' := by omega
    have hd : decide (at' < len) = false := by simpa using hle
    have hx := HX.out
    have HX2 := Lib.hid hx
    clear HX hx hlt
    go_enter Tryd.func261, Tryd.ntmps261
    go_wp2
    go_quiet (fail)
    go_wp2
    go_quiet (fail)
    go_wp2
    go_ret
    exact next_close HB.out HX2.out hnb han hl _ _ ⟨_, rfl, seed_byte _⟩ (by omega) (by omega)

theorem Cur.mono {w : World} {b : Nat} {n m : Int} (h : Cur N w b n) (hm : n ≤ m) : Cur N w b m := by
  obtain ⟨a, len, cap, at', seed, hb, h0, h1, hl, hx⟩ := h.ex
  exact ⟨h.nb, a, len, cap, at', seed, hb, h0, by omega, hl, hx⟩
theorem Drawn.mono {R R' : Int → Prop} {b : Nat} {n m : Int} {w w' : World} {e : Ending} (h : Drawn N R b n w e w') (hm : n ≤ m) (hr : ∀ v, R v → R' v) : Drawn N R' b m w e w' := by
  obtain ⟨v, he, hv, hc, hg⟩ := h
  exact ⟨v, he, hr v hv, hc.mono hm, hg⟩

theorem pick_any (m : Int) (b : Nat) (n : Int) (w : World) (hc : Cur N w b n) (hm : m ≤ 1000000) (hn : n + 2 ≤ 1000000000000) : Calls Tryd.prog 131 #[.pointer (some ⟨b, 0, none⟩), .int .i64 m] w (Drawn N (fun v => 0 ≤ v ∧ (v = 0 ∨ v < m)) b (n + 2) w) := by
  have HC := Lib.hid hc
  clear hc
  by_cases h1 : m ≤ 1
  · go_enter Tryd.func131, Tryd.ntmps131
    go_wp2
    go_ret
    exact ⟨0, rfl, ⟨by omega, Or.inl rfl⟩, HC.out.mono (by omega), grownBy_refl _ _⟩
  · by_cases h2 : 200 < m
    · go_enter Tryd.func131, Tryd.ntmps131
      go_wp2_with fail
      refine (next_any _ _ _ HC.out (by omega)).mono ?_
      rintro e w1 ⟨v, rfl, ⟨v0, v1⟩, c1, g1⟩
      have C1 := Lib.hid c1; have G1 := Lib.hid g1; clear c1 g1
      go_wp2_with fail
      refine (next_any _ _ _ C1.out (by omega)).mono ?_
      rintro e w2 ⟨v', rfl, ⟨v2, v3⟩, c2, g2⟩
      have C2 := Lib.hid c2; have G2 := Lib.hid g2; clear c2 g2
      have e0 := Int.emod_nonneg (v * 256 + v') (show m ≠ 0 by omega)
      have e1 := Int.emod_lt_of_pos (v * 256 + v') (show 0 < m by omega)
      go_wp2
      go_ret
      exact ⟨_, rfl, ⟨e0, Or.inr e1⟩, C2.out.mono (by omega), grownBy_trans G1.out G2.out⟩
    · go_enter Tryd.func131, Tryd.ntmps131
      go_wp2_with fail
      refine (next_any _ _ _ HC.out (by omega)).mono ?_
      rintro e w1 ⟨v, rfl, ⟨v0, v1⟩, c1, g1⟩
      have C1 := Lib.hid c1; have G1 := Lib.hid g1; clear c1 g1
      have e0 := Int.emod_nonneg v (show m ≠ 0 by omega)
      have e1 := Int.emod_lt_of_pos v (show 0 < m by omega)
      go_wp2
      go_ret
      exact ⟨_, rfl, ⟨e0, Or.inr e1⟩, C1.out.mono (by omega), G1.out⟩

theorem one_any (m : Int) (b : Nat) (n : Int) (w : World) (hc : Cur N w b n) (hm : m ≤ 1000000) (hn : n + 2 ≤ 1000000000000) : Calls Tryd.prog 153 #[.pointer (some ⟨b, 0, none⟩), .int .i64 m] w
    fun e w' => ∃ v : Bool, e = .returned (.bool v) ∧ Cur N w' b (n + 2) ∧ w.grownBy w' (some b) := by
  have HC := Lib.hid hc
  clear hc
  go_enter Tryd.func153, Tryd.ntmps153
  go_wp2_with fail
  refine (pick_any _ _ _ _ HC.out (by omega) (by omega)).mono ?_
  rintro e w1 ⟨v, rfl, hv, c1, g1⟩
  have C1 := Lib.hid c1; have G1 := Lib.hid g1; clear c1 g1 hv
  go_wp2
  go_ret
  exact ⟨_, rfl, C1.out, G1.out⟩

theorem among_any (a : Addr) (cap : Nat) (zs : List Int) (b : Nat) (n : Int) (w : World) (hc : Cur N w b n) (hz : IntsAt w a zs) (h0 : 0 < zs.length) (hm : zs.length ≤ 1000000) (hs : a.spot = none) (hab : a.block ≠ b) (haw : a.block < w.heap.size) (hn : n + 2 ≤ 1000000000000) :
    Calls Tryd.prog 130 #[.pointer (some ⟨b, 0, none⟩), .slice (some a) zs.length cap] w (Drawn N (fun v => v ∈ zs) b (n + 2) w) := by
  have HC := Lib.hid hc
  have HZ := Lib.hid hz
  obtain ⟨ab, ao, _⟩ := a
  simp only at hs hab haw
  subst hs
  clear hc hz
  generalize hl : zs.length = l at *
  have HL := Lib.hid hl
  clear hl
  go_enter Tryd.func130, Tryd.ntmps130
  go_wp2_with fail
  refine (pick_any _ _ _ _ HC.out (by omega) (by omega)).mono ?_
  rintro e w1 ⟨v, rfl, ⟨v0, v1⟩, c1, g1⟩
  have hv : v < l := by omega
  obtain ⟨k, rfl⟩ := Int.eq_ofNat_of_zero_le v0
  have hkl : k < zs.length := by rw [HL.out]; omega
  have hcell : w1.cell? ⟨ab, ao + k, none⟩ = some (.int .i64 zs[k]) := (World.cell?_of_block (w := w) (a := ⟨ab, ao + k, none⟩) (g1.block ab haw (by simpa using hab))).trans (HZ.out k hkl)
  have C1 := Lib.hid c1; have G1 := Lib.hid g1; clear c1 g1 v1
  generalize hzk : zs[k] = z at *
  have HK := Lib.hid hzk
  clear hzk
  go_wp2
  go_ret
  exact ⟨z, rfl, by rw [← HK.out]; exact List.getElem_mem _, C1.out, G1.out⟩

theorem elem_any (p : Int) (b : Nat) (n : Int) (w : World) (hc : Cur N w b n) (hm : p ≤ 1000000) (hn : n + 2 ≤ 1000000000000) : Calls Tryd.prog 274 #[.pointer (some ⟨b, 0, none⟩), .int .i64 p] w (Drawn N (fun v => 0 ≤ v ∧ (v = 0 ∨ v < p)) b (n + 2) w) := by
  have HC := Lib.hid hc
  clear hc
  go_enter Tryd.func274, Tryd.ntmps274
  go_wp2_with (go_at_call 189; refine (l1Most_any _ _ _).mono ?_; rintro e w' ⟨rfl, rfl⟩)
  refine (pick_any _ _ _ _ HC.out (by omega) (by omega)).mono ?_
  rintro e w1 ⟨v, rfl, ⟨v0, v1⟩, c1, g1⟩
  have hv : v = 0 ∨ v < p := by omega
  have C1 := Lib.hid c1; have G1 := Lib.hid g1; have HV := Lib.hid hv; clear c1 g1 v1 hv
  go_wp2
  go_ret
  exact ⟨_, rfl, ⟨v0, HV.out⟩, C1.out, G1.out⟩

theorem Cur.lt {w : World} {b : Nat} {n : Int} (h : Cur N w b n) : b < w.heap.size := by
  obtain ⟨a, len, cap, at', seed, hb, h0, h1, hl, hx⟩ := h.ex
  rcases Nat.lt_or_ge b w.heap.size with h | h
  · exact h
  · rw [Array.getElem?_eq_none h] at hb; cases hb
theorem Cur.carry {w w' : World} {b : Nat} {n : Int} (h : Cur N w b n) (hw : ∀ k, k < w.heap.size → w'.heap[k]? = w.heap[k]?) (hs : w.heap.size ≤ w'.heap.size) : Cur N w' b n := by
  have hbl := h.lt
  obtain ⟨a, len, cap, at', seed, hb, h0, h1, hl, hx⟩ := h.ex
  have hnb := h.nb
  refine ⟨by omega, a, len, cap, at', seed, (hw b hbl).trans hb, h0, h1, hl, fun k hk => ?_⟩
  obtain ⟨d, x, ha, hd, hs', hsp, hc, x0, x1⟩ := hx k hk
  exact ⟨d, x, ha, hd, hs', hsp, (World.cell?_of_block (w := w) (a := ⟨d.block, d.off + k, none⟩) (hw d.block (by omega))).trans hc, x0, x1⟩
/-- What is written above N, but not in the cursor's block, leaves the cursor alone. -/
theorem Cur.only {S : Nat → Prop} {w w' : World} {b : Nat} {n : Int} (h : Cur N w b n) (ho : Only S w w') (hb : ¬ S b) (hS : ∀ k, S k → N ≤ k) : Cur N w' b n := by
  have hbl := h.lt
  obtain ⟨hnb, a, len, cap, at', seed, hh, h0, h1, hl, hx⟩ := h
  have hs := ho.size
  refine ⟨by omega, a, len, cap, at', seed, (ho.block b hbl hb).trans hh, h0, h1, hl, fun k hk => ?_⟩
  obtain ⟨d, x, ha, hd, hs', hsp, hc, x0, x1⟩ := hx k hk
  exact ⟨d, x, ha, hd, hs', hsp, (World.cell?_of_block (w := w) (a := ⟨d.block, d.off + k, none⟩) (ho.block d.block (by omega) (fun h' => by have := hS _ h'; omega))).trans hc, x0, x1⟩
theorem Cur.start {w : World} {cv : Value} (h : CodeAt w cv) : Cur w.heap.size (w.alloc (.cells #[cv, .int .i64 0, .int .u64 0] 140)) w.heap.size 0 := by
  obtain ⟨a, len, cap, rfl, hl, hx⟩ := h
  refine ⟨by simp, a, len, cap, 0, 0, alloc_heap_new _ _, by omega, by omega, hl, fun k hk => ?_⟩
  obtain ⟨d, x, ha, hs', hsp, hc, x0, x1⟩ := hx k hk
  exact ⟨d, x, ha, by omega, hs', hsp, (World.cell?_of_block (w := w) (a := ⟨d.block, d.off + k, none⟩) (alloc_heap_old _ _ _ hs')).trans hc, x0, x1⟩
theorem Cur.alloc {w : World} {b : Nat} {n : Int} (h : Cur N w b n) (o : Obj) : Cur N (w.alloc o) b n :=
  h.carry (fun k hk => alloc_heap_old w o k hk) (by simp)
theorem among_new (zs : List Int) (t : TypeId) (b : Nat) (n : Int) (w : World) (hc : Cur N w b n) (h0 : 0 < zs.length) (hm : zs.length ≤ 1000000) (hn : n + 2 ≤ 1000000000000) :
    Calls Tryd.prog 130 #[.pointer (some ⟨b, 0, none⟩), .slice (some ⟨w.heap.size, 0, none⟩) zs.length zs.length] (w.alloc (.cells (zs.map (Value.int .i64)).toArray t)) (Drawn N (fun v => v ∈ zs) b (n + 2) w) := by
  refine (among_any ⟨w.heap.size, 0, none⟩ zs.length zs b n _ (hc.alloc _) (intsAt_new w zs t) h0 hm rfl (by have := hc.lt; simp; omega) (by simp) hn).mono ?_
  rintro e w' ⟨v, rfl, hv, hc', hg⟩
  exact ⟨v, rfl, hv, hc', grownBy_trans (grownBy_alloc _ _ _) hg⟩

theorem prime_any (b : Nat) (n : Int) (w : World) (hc : Cur N w b n) (hn : n + 2 ≤ 1000000000000) : Calls Tryd.prog 151 #[.pointer (some ⟨b, 0, none⟩)] w (Drawn N (fun v => v ∈ [(2 : Int), 3, 5, 7, 2, 3, 5, 11, 13, 97]) b (n + 2) w) := by
  have HC := Lib.hid hc
  clear hc
  go_enter Tryd.func151, Tryd.ntmps151
  go_wp2_with fail
  refine (among_new [(2 : Int), 3, 5, 7, 2, 3, 5, 11, 13, 97] _ _ _ _ HC.out (by decide) (by decide) hn).mono ?_
  rintro e w1 ⟨v, rfl, hv, c1, g1⟩
  have C1 := Lib.hid c1; have G1 := Lib.hid g1; have HV := Lib.hid hv; clear c1 g1 hv
  go_wp2
  go_ret
  exact ⟨_, rfl, HV.out, C1.out, G1.out⟩

theorem anyPrime_any (b : Nat) (n : Int) (w : World) (hc : Cur N w b n) (hn : n + 4 ≤ 1000000000000) : Calls Tryd.prog 128 #[.pointer (some ⟨b, 0, none⟩)] w (Drawn N anyP b (n + 4) w) := by
  have HC := Lib.hid hc
  clear hc
  go_enter Tryd.func128, Tryd.ntmps128
  go_wp2_with fail
  refine (one_any _ _ _ _ HC.out (by decide) (by omega)).mono ?_
  rintro e w1 ⟨v, rfl, c1, g1⟩
  have C1 := Lib.hid c1; have G1 := Lib.hid g1; clear c1 g1
  cases v
  · go_wp2_with fail
    refine (prime_any _ _ _ C1.out (by omega)).mono ?_
    rintro e w2 ⟨v, rfl, hv, c2, g2⟩
    have C2 := Lib.hid c2; have G2 := Lib.hid g2; have HV := Lib.hid hv; clear c2 g2 hv
    go_wp2
    go_ret
    exact ⟨_, rfl, by have h := HV.out; simp [anyP] at h ⊢; omega, C2.out.mono (by omega), grownBy_trans G1.out G2.out⟩
  · go_wp2_with fail
    refine (among_new [(-1 : Int), 0, 1, 4, 9, 91, 98, 101] _ _ _ _ C1.out (by decide) (by decide) (by omega)).mono ?_
    rintro e w2 ⟨v, rfl, hv, c2, g2⟩
    have C2 := Lib.hid c2; have G2 := Lib.hid g2; have HV := Lib.hid hv; clear c2 g2 hv
    go_wp2
    go_ret
    exact ⟨_, rfl, by have h := HV.out; simp [anyP] at h ⊢; omega, C2.out.mono (by omega), grownBy_trans G1.out G2.out⟩

theorem anyElem_any (p : Int) (b : Nat) (n : Int) (w : World) (hc : Cur N w b n) (hp : -1000 ≤ p) (hp' : p ≤ 1000) (hn : n + 4 ≤ 1000000000000) : Calls Tryd.prog 203 #[.pointer (some ⟨b, 0, none⟩), .int .i64 p] w (Drawn N (fun v => -1 ≤ v ∧ v ≤ 1001 ∨ v = p ∨ v = p + 1) b (n + 4) w) := by
  have HC := Lib.hid hc
  clear hc
  go_enter Tryd.func203, Tryd.ntmps203
  go_wp2_with fail
  refine (one_any _ _ _ _ HC.out (by decide) (by omega)).mono ?_
  rintro e w1 ⟨v, rfl, c1, g1⟩
  have C1 := Lib.hid c1; have G1 := Lib.hid g1; clear c1 g1
  cases v
  · go_wp2_with fail
    refine (elem_any _ _ _ _ C1.out (by omega) (by omega)).mono ?_
    rintro e w2 ⟨v, rfl, hv, c2, g2⟩
    have C2 := Lib.hid c2; have G2 := Lib.hid g2; have HV := Lib.hid hv; clear c2 g2 hv
    go_wp2
    go_ret
    exact ⟨_, rfl, by have h := HV.out; omega, C2.out.mono (by omega), grownBy_trans G1.out G2.out⟩
  · go_wp2_with fail
    refine (among_new [(-1 : Int), p, p + 1] _ _ _ _ C1.out (by simp) (by simp) (by omega)).mono ?_
    rintro e w2 ⟨v, rfl, hv, c2, g2⟩
    have C2 := Lib.hid c2; have G2 := Lib.hid g2; have HV := Lib.hid hv; clear c2 g2 hv
    go_wp2
    go_ret
    exact ⟨_, rfl, by have h := HV.out; simp at h; omega, C2.out.mono (by omega), grownBy_trans G1.out G2.out⟩


end Go.Proofs.YtpeaeminjbjlnaaDoor.Bd

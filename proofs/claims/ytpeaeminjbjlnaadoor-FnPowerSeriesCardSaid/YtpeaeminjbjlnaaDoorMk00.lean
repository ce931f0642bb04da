/-
  The cursor of the draws (spec.l1Cur): its methods keep the cursor well formed and write nothing but its own block. Conditions: fewer than 2^40 bytes have been taken.
-/
import Derived.Test.YtpeaeminjbjlnaaDoorProg
import Derived.WalkKit
import Derived.WalkSpells
import Derived.Laws.Bits64
import Derived.Laws.BitsAllLaws
import Derived.Lib.Hide
import Derived.BigQuiet
import Derived.Deep.QuietTactic
namespace Go.Proofs.YtpeaeminjbjlnaaDoor
open Go.RowKit
set_option linter.unusedVariables false

/-- Block b is a cursor: its code reads as bytes, at most n of them have been asked for. -/
structure Cur (w : World) (b : Nat) (n : Int) : Prop where
  ex : ∃ (a : Option Addr) (len cap : Nat) (at' seed : Int),
    w.heap[b]? = some (.cells #[.slice a len cap, .int .i64 at', .int .u64 seed] 140 (0, 0)) ∧ 0 ≤ at' ∧ at' ≤ n ∧ len ≤ 140737488351232 ∧
    (∀ k : Nat, k < len → ∃ (d : Addr) (x : Int), a = some d ∧ d.block ≠ b ∧ d.block < w.heap.size ∧ d.spot = none ∧ w.cell? ⟨d.block, d.off + k, none⟩ = some (.int .u8 x) ∧ 0 ≤ x ∧ x ≤ 255)

/-- A draw: an integer of which R holds; the cursor is well formed, at most n bytes have been asked for; nothing but the cursor's block has been written. -/
def Drawn (R : Int → Prop) (b : Nat) (n : Int) (w : World) (e : Ending) (w' : World) : Prop :=
  ∃ v : Int, e = .returned (.int .i64 v) ∧ R v ∧ Cur w' b n ∧ w.grownBy w' (some b)

theorem seed_byte (x : Int) : 0 ≤ wrap64 (bits .and .u64 (IntKind.u64.wrap x / 1099511627776) 255) ∧ wrap64 (bits .and .u64 (IntKind.u64.wrap x / 1099511627776) 255) ≤ 255 := by
  rw [IntKind.wrap_u64, u64_and _ _ (by omega) (by omega) (by decide) (by decide)]
  have h : ((x % 18446744073709551616 / 1099511627776).toNat &&& (255 : Int).toNat) ≤ 255 := Nat.and_le_right
  generalize ((x % 18446744073709551616 / 1099511627776).toNat &&& (255 : Int).toNat) = y at h
  unfold wrap64
  omega

theorem next_close {b : Nat} {n : Int} {w : World} {a : Option Addr} {len cap : Nat} {at' seed : Int}
    (hb : w.heap[b]? = some (.cells #[.slice a len cap, .int .i64 at', .int .u64 seed] 140 (0, 0)))
    (hx : ∀ k : Nat, k < len → ∃ (d : Addr) (x : Int), a = some d ∧ d.block ≠ b ∧ d.block < w.heap.size ∧ d.spot = none ∧ w.cell? ⟨d.block, d.off + k, none⟩ = some (.int .u8 x) ∧ 0 ≤ x ∧ x ≤ 255)
    (hn : at' ≤ n) (hl : len ≤ 140737488351232) (m q : Nat) {at2 seed2 : Int} {e : Ending}
    (he : ∃ v : Int, e = .returned (.int .i64 v) ∧ 0 ≤ v ∧ v ≤ 255) (h0 : 0 ≤ at2) (h1 : at2 ≤ n + 1) :
    Drawn (fun v => 0 ≤ v ∧ v ≤ 255) b (n + 1) w e ((((w.drewN m).setCell ⟨b, 1, none⟩ (.int .i64 at2)).setCell ⟨b, 2, none⟩ (.int .u64 seed2)).drewN q) := by
  obtain ⟨v, rfl, v0, v1⟩ := he
  have hh : ∀ k : Nat, k ≠ b → ((((w.drewN m).setCell ⟨b, 1, none⟩ (.int .i64 at2)).setCell ⟨b, 2, none⟩ (.int .u64 seed2)).drewN q).heap[k]? = w.heap[k]? := by
    intro k hk
    show (((w.drewN m).setCell ⟨b, 1, none⟩ (.int .i64 at2)).setCell ⟨b, 2, none⟩ (.int .u64 seed2)).heap[k]? = _
    rw [Below.heap_setCell _ _ _ _ hk, Below.heap_setCell _ _ _ _ hk]; rfl
  refine ⟨v, rfl, ⟨v0, v1⟩, ⟨a, len, cap, at2, seed2, ?_, h0, h1, hl, ?_⟩, ⟨rfl, rfl, rfl, by simp [World.setCell, World.drewN], fun k _ hk => hh k (by simpa using hk)⟩⟩
  · have : (w.drewN m).heap[b]? = w.heap[b]? := rfl
    show (((w.drewN m).setCell ⟨b, 1, none⟩ (.int .i64 at2)).setCell ⟨b, 2, none⟩ (.int .u64 seed2)).heap[b]? = _
    simp only [World.setCell]
    rw [Array.getElem?_modify, if_pos rfl, Array.getElem?_modify, if_pos rfl, this, hb]
    rfl
  · intro k hk
    obtain ⟨d, x, ha, hd, hs, hsp, hc, x0, x1⟩ := hx k hk
    refine ⟨d, x, ha, hd, by simpa [World.setCell, World.drewN] using hs, hsp, ?_, x0, x1⟩
    exact (World.cell?_of_block (w := w) (a := ⟨d.block, d.off + k, none⟩) (hh _ hd)).trans hc

theorem next_any (b : Nat) (n : Int) (w : World) (hc : Cur w b n) (hn : n + 1 ≤ 1000000000000) : Calls Tryd.prog 261 #[.pointer (some ⟨b, 0, none⟩)] w (Drawn (fun v => 0 ≤ v ∧ v ≤ 255) b (n + 1) w) := by
  obtain ⟨a, len, cap, at', seed, hb, ha0, han, hl, hx⟩ := hc.ex
  have c0 : w.cell? ⟨b, 0, none⟩ = some (.slice a len cap) := by simp [World.cell?, hb]
  have c1 : w.cell? ⟨b, 1, none⟩ = some (.int .i64 at') := by simp [World.cell?, hb]
  have c2 : w.cell? ⟨b, 2, none⟩ = some (.int .u64 seed) := by simp [World.cell?, hb]
  have f1 : w.frozen? ⟨b, 1, none⟩ = false := by simp [World.frozen?, hb]
  have f2 : w.frozen? ⟨b, 2, none⟩ = false := by simp [World.frozen?, hb]
  have HB := Lib.hid hb
  have HX := Lib.hid hx
  clear hb hx
  by_cases hlt : at' < len
  · obtain ⟨k, rfl⟩ := Int.eq_ofNat_of_zero_le ha0
    obtain ⟨d, x, rfl, hdb, hdw, hds, hcx, hx0, hx1⟩ := HX.out k (by omega)
    obtain ⟨db, doff, _⟩ := d
    simp only at hds
    subst hds
    go_enter Tryd.func261, Tryd.ntmps261
    go_wp2
    go_quiet (fail)
    go_wp2
    go_quiet (fail)
    go_wp2
    go_quiet (fail)
    go_wp2
    go_ret
    exact next_close HB.out HX.out han hl _ _ ⟨_, rfl, hx0, hx1⟩ (by omega) (by omega)
  · have hle : len ≤ at' := by omega
    have hd : decide (at' < len) = false := by simpa using hle
    have hx := HX.out
    have HX2 := Lib.hid hx
    clear HX hx hlt
    go_enter Tryd.func261, Tryd.ntmps261
    go_wp2
    go_quiet (fail)
    go_wp2
    go_quiet (fail)
    go_wp2
    go_ret
    exact next_close HB.out HX2.out han hl _ _ ⟨_, rfl, seed_byte _⟩ (by omega) (by omega)

theorem grownBy_refl (w : World) (r : Option Nat) : w.grownBy w r := ⟨rfl, rfl, rfl, Nat.le_refl _, fun _ _ _ => rfl⟩
theorem grownBy_trans {a b c : World} {r : Option Nat} (h : a.grownBy b r) (k : b.grownBy c r) : a.grownBy c r :=
  ⟨k.os.trans h.os, k.tape.trans h.tape, k.output.trans h.output, Nat.le_trans h.size k.size, fun i hi hr => (k.block i (Nat.lt_of_lt_of_le hi h.size) hr).trans (h.block i hi hr)⟩
theorem Cur.mono {w : World} {b : Nat} {n m : Int} (h : Cur w b n) (hm : n ≤ m) : Cur w b m := by
  obtain ⟨a, len, cap, at', seed, hb, h0, h1, hl, hx⟩ := h.ex
  exact ⟨a, len, cap, at', seed, hb, h0, by omega, hl, hx⟩
theorem Drawn.mono {R R' : Int → Prop} {b : Nat} {n m : Int} {w w' : World} {e : Ending} (h : Drawn R b n w e w') (hm : n ≤ m) (hr : ∀ v, R v → R' v) : Drawn R' b m w e w' := by
  obtain ⟨v, he, hv, hc, hg⟩ := h
  exact ⟨v, he, hr v hv, hc.mono hm, hg⟩

theorem pick_any (m : Int) (b : Nat) (n : Int) (w : World) (hc : Cur w b n) (hm : m ≤ 1000000) (hn : n + 2 ≤ 1000000000000) : Calls Tryd.prog 131 #[.pointer (some ⟨b, 0, none⟩), .int .i64 m] w (Drawn (fun v => 0 ≤ v ∧ (v = 0 ∨ v < m)) b (n + 2) w) := by
  have HC := Lib.hid hc
  clear hc
  by_cases h1 : m ≤ 1
  · go_enter Tryd.func131, Tryd.ntmps131
    go_wp2
    go_ret
    exact ⟨0, rfl, ⟨by omega, Or.inl rfl⟩, HC.out.mono (by omega), grownBy_refl _ _⟩
  · by_cases h2 : 200 < m
    · go_enter Tryd.func131, Tryd.ntmps131
      go_wp2_with fail
      refine (next_any _ _ _ HC.out (by omega)).mono ?_
      rintro e w1 ⟨v, rfl, ⟨v0, v1⟩, c1, g1⟩
      have C1 := Lib.hid c1; have G1 := Lib.hid g1; clear c1 g1
      go_wp2_with fail
      refine (next_any _ _ _ C1.out (by omega)).mono ?_
      rintro e w2 ⟨v', rfl, ⟨v2, v3⟩, c2, g2⟩
      have C2 := Lib.hid c2; have G2 := Lib.hid g2; clear c2 g2
      have e0 := Int.emod_nonneg (v * 256 + v') (show m ≠ 0 by omega)
      have e1 := Int.emod_lt_of_pos (v * 256 + v') (show 0 < m by omega)
      go_wp2
      go_ret
      exact ⟨_, rfl, ⟨e0, Or.inr e1⟩, C2.out.mono (by omega), grownBy_trans G1.out G2.out⟩
    · go_enter Tryd.func131, Tryd.ntmps131
      go_wp2_with fail
      refine (next_any _ _ _ HC.out (by omega)).mono ?_
      rintro e w1 ⟨v, rfl, ⟨v0, v1⟩, c1, g1⟩
      have C1 := Lib.hid c1; have G1 := Lib.hid g1; clear c1 g1
      have e0 := Int.emod_nonneg v (show m ≠ 0 by omega)
      have e1 := Int.emod_lt_of_pos v (show 0 < m by omega)
      go_wp2
      go_ret
      exact ⟨_, rfl, ⟨e0, Or.inr e1⟩, C1.out.mono (by omega), G1.out⟩

theorem one_any (m : Int) (b : Nat) (n : Int) (w : World) (hc : Cur w b n) (hm : m ≤ 1000000) (hn : n + 2 ≤ 1000000000000) : Calls Tryd.prog 153 #[.pointer (some ⟨b, 0, none⟩), .int .i64 m] w
    fun e w' => ∃ v : Bool, e = .returned (.bool v) ∧ Cur w' b (n + 2) ∧ w.grownBy w' (some b) := by
  have HC := Lib.hid hc
  clear hc
  go_enter Tryd.func153, Tryd.ntmps153
  go_wp2_with fail
  refine (pick_any _ _ _ _ HC.out (by omega) (by omega)).mono ?_
  rintro e w1 ⟨v, rfl, hv, c1, g1⟩
  have C1 := Lib.hid c1; have G1 := Lib.hid g1; clear c1 g1 hv
  go_wp2
  go_ret
  exact ⟨_, rfl, C1.out, G1.out⟩

/-- A slice of integers that lies in memory: its cells hold zs (and a capacity's rest is not spoken of). -/
def IntsAt (w : World) (a : Addr) (zs : List Int) : Prop :=
  ∀ i (h : i < zs.length), w.cell? ⟨a.block, a.off + i, none⟩ = some (.int .i64 zs[i])

theorem among_any (a : Addr) (cap : Nat) (zs : List Int) (b : Nat) (n : Int) (w : World) (hc : Cur w b n) (hz : IntsAt w a zs) (h0 : 0 < zs.length) (hm : zs.length ≤ 1000000) (hs : a.spot = none) (hab : a.block ≠ b) (haw : a.block < w.heap.size) (hn : n + 2 ≤ 1000000000000) :
    Calls Tryd.prog 130 #[.pointer (some ⟨b, 0, none⟩), .slice (some a) zs.length cap] w (Drawn (fun v => v ∈ zs) b (n + 2) w) := by
  have HC := Lib.hid hc
  have HZ := Lib.hid hz
  obtain ⟨ab, ao, _⟩ := a
  simp only at hs hab haw
  subst hs
  clear hc hz
  generalize hl : zs.length = l at *
  have HL := Lib.hid hl
  clear hl
  go_enter Tryd.func130, Tryd.ntmps130
  go_wp2_with fail
  refine (pick_any _ _ _ _ HC.out (by omega) (by omega)).mono ?_
  rintro e w1 ⟨v, rfl, ⟨v0, v1⟩, c1, g1⟩
  have hv : v < l := by omega
  obtain ⟨k, rfl⟩ := Int.eq_ofNat_of_zero_le v0
  have hkl : k < zs.length := by rw [HL.out]; omega
  have hcell : w1.cell? ⟨ab, ao + k, none⟩ = some (.int .i64 zs[k]) := (World.cell?_of_block (w := w) (a := ⟨ab, ao + k, none⟩) (g1.block ab haw (by simpa using hab))).trans (HZ.out k hkl)
  have C1 := Lib.hid c1; have G1 := Lib.hid g1; clear c1 g1 v1
  generalize hzk : zs[k] = z at *
  have HK := Lib.hid hzk
  clear hzk
  go_wp2
  go_ret
  exact ⟨z, rfl, by rw [← HK.out]; exact List.getElem_mem _, C1.out, G1.out⟩

theorem l1Most_any (x y : Int) (w : World) : Calls Tryd.prog 189 #[.int .i64 x, .int .i64 y] w fun e w' => e = .returned (.int .i64 (max x y)) ∧ w = w' := by
  by_cases h : y < x
  · have hm : max x y = x := by omega
    have HM := Lib.hid hm
    clear hm
    go_enter Tryd.func189, Tryd.ntmps189
    go_wp2
    go_ret
    exact ⟨by rw [HM.out]; rfl, rfl⟩
  · have hm : max x y = y := by omega
    have HM := Lib.hid hm
    clear hm
    go_enter Tryd.func189, Tryd.ntmps189
    go_wp2
    go_ret
    exact ⟨by rw [HM.out]; rfl, rfl⟩

theorem elem_any (p : Int) (b : Nat) (n : Int) (w : World) (hc : Cur w b n) (hm : p ≤ 1000000) (hn : n + 2 ≤ 1000000000000) : Calls Tryd.prog 274 #[.pointer (some ⟨b, 0, none⟩), .int .i64 p] w (Drawn (fun v => 0 ≤ v ∧ (v = 0 ∨ v < p)) b (n + 2) w) := by
  have HC := Lib.hid hc
  clear hc
  go_enter Tryd.func274, Tryd.ntmps274
  go_wp2_with (go_at_call 189; refine (l1Most_any _ _ _).mono ?_; rintro e w' ⟨rfl, rfl⟩)
  refine (pick_any _ _ _ _ HC.out (by omega) (by omega)).mono ?_
  rintro e w1 ⟨v, rfl, ⟨v0, v1⟩, c1, g1⟩
  have hv : v = 0 ∨ v < p := by omega
  have C1 := Lib.hid c1; have G1 := Lib.hid g1; have HV := Lib.hid hv; clear c1 g1 v1 hv
  go_wp2
  go_ret
  exact ⟨_, rfl, ⟨v0, HV.out⟩, C1.out, G1.out⟩

theorem Cur.lt {w : World} {b : Nat} {n : Int} (h : Cur w b n) : b < w.heap.size := by
  obtain ⟨a, len, cap, at', seed, hb, h0, h1, hl, hx⟩ := h.ex
  rcases Nat.lt_or_ge b w.heap.size with h | h
  · exact h
  · rw [Array.getElem?_eq_none h] at hb; cases hb
theorem alloc_heap_old (w : World) (o : Obj) (k : Nat) (h : k < w.heap.size) : (w.alloc o).heap[k]? = w.heap[k]? := Below.heap_alloc w o k h
theorem alloc_heap_new (w : World) (o : Obj) : (w.alloc o).heap[w.heap.size]? = some o := by
  show (w.heap.push o)[w.heap.size]? = _
  simp
/-- What leaves the cursor's block and all older blocks alone leaves the cursor as it is. -/
theorem Cur.carry {w w' : World} {b : Nat} {n : Int} (h : Cur w b n) (hw : ∀ k, k < w.heap.size → w'.heap[k]? = w.heap[k]?) (hs : w.heap.size ≤ w'.heap.size) : Cur w' b n := by
  have hbl := h.lt
  obtain ⟨a, len, cap, at', seed, hb, h0, h1, hl, hx⟩ := h.ex
  refine ⟨a, len, cap, at', seed, (hw b hbl).trans hb, h0, h1, hl, fun k hk => ?_⟩
  obtain ⟨d, x, ha, hd, hs', hsp, hc, x0, x1⟩ := hx k hk
  exact ⟨d, x, ha, hd, by omega, hsp, (World.cell?_of_block (w := w) (a := ⟨d.block, d.off + k, none⟩) (hw _ hs')).trans hc, x0, x1⟩
theorem Cur.alloc {w : World} {b : Nat} {n : Int} (h : Cur w b n) (o : Obj) : Cur (w.alloc o) b n :=
  h.carry (fun k hk => alloc_heap_old w o k hk) (by simp)
theorem grownBy_alloc (w : World) (o : Obj) (r : Option Nat) : w.grownBy (w.alloc o) r :=
  ⟨rfl, rfl, rfl, by simp, fun k hk _ => alloc_heap_old w o k hk⟩
theorem intsAt_new (w : World) (zs : List Int) (t : TypeId) : IntsAt (w.alloc (.cells (zs.map (Value.int .i64)).toArray t)) ⟨w.heap.size, 0, none⟩ zs := by
  intro i hi
  simp only [World.cell?]
  rw [alloc_heap_new]
  simp [hi]

/-- among, over a literal list that has just been laid. -/
theorem among_new (zs : List Int) (t : TypeId) (b : Nat) (n : Int) (w : World) (hc : Cur w b n) (h0 : 0 < zs.length) (hm : zs.length ≤ 1000000) (hn : n + 2 ≤ 1000000000000) :
    Calls Tryd.prog 130 #[.pointer (some ⟨b, 0, none⟩), .slice (some ⟨w.heap.size, 0, none⟩) zs.length zs.length] (w.alloc (.cells (zs.map (Value.int .i64)).toArray t)) (Drawn (fun v => v ∈ zs) b (n + 2) w) := by
  refine (among_any ⟨w.heap.size, 0, none⟩ zs.length zs b n _ (hc.alloc _) (intsAt_new w zs t) h0 hm rfl (by have := hc.lt; simp; omega) (by simp) hn).mono ?_
  rintro e w' ⟨v, rfl, hv, hc', hg⟩
  exact ⟨v, rfl, hv, hc', grownBy_trans (grownBy_alloc _ _ _) hg⟩

theorem prime_any (b : Nat) (n : Int) (w : World) (hc : Cur w b n) (hn : n + 2 ≤ 1000000000000) : Calls Tryd.prog 151 #[.pointer (some ⟨b, 0, none⟩)] w (Drawn (fun v => v ∈ [(2 : Int), 3, 5, 7, 2, 3, 5, 11, 13, 97]) b (n + 2) w) := by
  have HC := Lib.hid hc
  clear hc
  go_enter Tryd.func151, Tryd.ntmps151
  go_wp2_with fail
  refine (among_new [(2 : Int), 3, 5, 7, 2, 3, 5, 11, 13, 97] _ _ _ _ HC.out (by decide) (by decide) hn).mono ?_
  rintro e w1 ⟨v, rfl, hv, c1, g1⟩
  have C1 := Lib.hid c1; have G1 := Lib.hid g1; have HV := Lib.hid hv; clear c1 g1 hv
  go_wp2
  go_ret
  exact ⟨_, rfl, HV.out, C1.out, G1.out⟩

/-- What anyPrime draws: a field, or one of eight other numbers. -/
def anyP (v : Int) : Prop := v ∈ [(-1 : Int), 0, 1, 4, 9, 91, 98, 101, 2, 3, 5, 7, 11, 13, 97]

theorem anyPrime_any (b : Nat) (n : Int) (w : World) (hc : Cur w b n) (hn : n + 4 ≤ 1000000000000) : Calls Tryd.prog 128 #[.pointer (some ⟨b, 0, none⟩)] w (Drawn anyP b (n + 4) w) := by
  have HC := Lib.hid hc
  clear hc
  go_enter Tryd.func128, Tryd.ntmps128
  go_wp2_with fail
  refine (one_any _ _ _ _ HC.out (by decide) (by omega)).mono ?_
  rintro e w1 ⟨v, rfl, c1, g1⟩
  have C1 := Lib.hid c1; have G1 := Lib.hid g1; clear c1 g1
  cases v
  · go_wp2_with fail
    refine (prime_any _ _ _ C1.out (by omega)).mono ?_
    rintro e w2 ⟨v, rfl, hv, c2, g2⟩
    have C2 := Lib.hid c2; have G2 := Lib.hid g2; have HV := Lib.hid hv; clear c2 g2 hv
    go_wp2
    go_ret
    exact ⟨_, rfl, by have h := HV.out; simp [anyP] at h ⊢; omega, C2.out.mono (by omega), grownBy_trans G1.out G2.out⟩
  · go_wp2_with fail
    refine (among_new [(-1 : Int), 0, 1, 4, 9, 91, 98, 101] _ _ _ _ C1.out (by decide) (by decide) (by omega)).mono ?_
    rintro e w2 ⟨v, rfl, hv, c2, g2⟩
    have C2 := Lib.hid c2; have G2 := Lib.hid g2; have HV := Lib.hid hv; clear c2 g2 hv
    go_wp2
    go_ret
    exact ⟨_, rfl, by have h := HV.out; simp [anyP] at h ⊢; omega, C2.out.mono (by omega), grownBy_trans G1.out G2.out⟩

theorem anyElem_any (p : Int) (b : Nat) (n : Int) (w : World) (hc : Cur w b n) (hp : -1000 ≤ p) (hp' : p ≤ 1000) (hn : n + 4 ≤ 1000000000000) : Calls Tryd.prog 203 #[.pointer (some ⟨b, 0, none⟩), .int .i64 p] w (Drawn (fun v => -1 ≤ v ∧ v ≤ 1001 ∨ v = p ∨ v = p + 1) b (n + 4) w) := by
  have HC := Lib.hid hc
  clear hc
  go_enter Tryd.func203, Tryd.ntmps203
  go_wp2_with fail
  refine (one_any _ _ _ _ HC.out (by decide) (by omega)).mono ?_
  rintro e w1 ⟨v, rfl, c1, g1⟩
  have C1 := Lib.hid c1; have G1 := Lib.hid g1; clear c1 g1
  cases v
  · go_wp2_with fail
    refine (elem_any _ _ _ _ C1.out (by omega) (by omega)).mono ?_
    rintro e w2 ⟨v, rfl, hv, c2, g2⟩
    have C2 := Lib.hid c2; have G2 := Lib.hid g2; have HV := Lib.hid hv; clear c2 g2 hv
    go_wp2
    go_ret
    exact ⟨_, rfl, by have h := HV.out; omega, C2.out.mono (by omega), grownBy_trans G1.out G2.out⟩
  · go_wp2_with fail
    refine (among_new [(-1 : Int), p, p + 1] _ _ _ _ C1.out (by simp) (by simp) (by omega)).mono ?_
    rintro e w2 ⟨v, rfl, hv, c2, g2⟩
    have C2 := Lib.hid c2; have G2 := Lib.hid g2; have HV := Lib.hid hv; clear c2 g2 hv
    go_wp2
    go_ret
    exact ⟨_, rfl, by have h := HV.out; simp at h; omega, C2.out.mono (by omega), grownBy_trans G1.out G2.out⟩

end Go.Proofs.YtpeaeminjbjlnaaDoor

/-
  Slices of integers: as a call's own, grown by append; as values that can be read. Conditions: none.
-/
namespace Go.Proofs.YtpeaeminjbjlnaaDoor
open Go.RowKit
set_option linter.unusedVariables false

theorem info_int : (Tryd.prog.info? 3).map (fun i => (i.zero, i.size, i.bytes)) = some (some (.int .i64 0), 1, 8) := by kernel_rfl

/-- A slice value whose cells are the call's own (blocks from B on) and hold zs. -/
def OwnInts (B : Nat) (w : World) (v : Value) (zs : List Int) : Prop := w.ownsRow B 3 1 v zs.length (zs.map (Value.int .i64))
theorem OwnInts.nil (B : Nat) (w : World) : OwnInts B w (.slice none 0 0) [] := World.ownsRow_nil _ _ _ _
theorem OwnInts.carry {B : Nat} {w w' : World} {v : Value} {zs : List Int} (h : OwnInts B w v zs) (hw : ∀ k, B ≤ k → k < w.heap.size → w'.heap[k]? = w.heap[k]?) : OwnInts B w' v zs := by
  obtain ⟨h1, h2⟩ := h
  refine ⟨h1, ?_⟩
  rcases h2 with h2 | ⟨g, cap, cur, hv, hg, hh, r⟩
  · exact Or.inl h2
  · have hlt : g < w.heap.size := by
      rcases Nat.lt_or_ge g w.heap.size with h | h
      · exact h
      · rw [Array.getElem?_eq_none h] at hh; cases hh
    exact Or.inr ⟨g, cap, cur, hv, hg, (hw g hg hlt).trans hh, r⟩
theorem OwnInts.alloc {B : Nat} {w : World} {v : Value} {zs : List Int} (h : OwnInts B w v zs) (o : Obj) : OwnInts B (w.alloc o) v zs :=
  h.carry fun k _ hk => alloc_heap_old w o k hk
/-- '[]int{}' that has just been laid. -/
theorem OwnInts.empty {B g : Nat} {w : World} (hB : B ≤ w.heap.size) (hg : g = w.heap.size) : OwnInts B (w.alloc (.cells #[] 3)) (.slice (some ⟨g, 0, none⟩) 0 0) [] := by
  subst hg
  exact ⟨rfl, Or.inr ⟨w.heap.size, 0, #[], rfl, hB, alloc_heap_new _ _, Nat.le_refl _, Nat.zero_le _, rfl, rfl⟩⟩

theorem mul_bd {x y X Y : Int} (h0 : 0 ≤ x) (h1 : x ≤ X) (h2 : 0 ≤ y) (h3 : y ≤ Y) : 0 ≤ x * y ∧ x * y ≤ X * Y :=
  ⟨Int.mul_nonneg h0 h2, Int.mul_le_mul h1 h3 h2 (by omega)⟩

/-- 'out = append(out, x)': the one new element lies in a block of its own. -/
theorem app_int {ops : Array Oper} {rest : List Oper} {o : Oper} {a : Act} {Q : Exit → Act → World → Prop} (hgd : o.guard = none) (s x : Operand)
    (ho : o.op = .call { callee := .builtin .append, args := #[s, x], argTypes := #[24, 24] })
    {B : Nat} {w : World} {v : Value} {zs : List Int} {n : Int} (hs : a.eval s = v) (hx : a.eval x = .slice (some ⟨w.heap.size, 0, none⟩) 1 1)
    (hown : OwnInts B w v zs) (hB : B ≤ w.heap.size) (hl : zs.length ≤ 1000000000)
    (h : ∀ v' w', OwnInts B w' v' (zs ++ [n]) → Below B w w' → wpList Tryd.prog ops Q rest (a.put o.dst v') w') :
    wpList Tryd.prog ops Q (o :: rest) a (w.alloc (.cells #[.int .i64 n] 3)) := by
  obtain ⟨i0, hi, hz0, hz1, hz2⟩ := info_parts info_int
  refine wpList_append_own _ hgd s x 24 ho B 3 i0 (.int .i64 0) 1 8 Tryd.underlying24 hi hz0 hz1 hz2 rfl (by decide) v zs.length (zs.map (Value.int .i64)) hs (hown.alloc _)
    ⟨w.heap.size, 0, none⟩ 1 1 [.int .i64 n] hx rfl ?_ ?_ (by unfold maxLen; omega) (by omega) (by simp; omega) ?_
  · intro j u hj
    match j, hj with
    | 0, hj =>
      simp at hj
      subst hj
      exact intsAt_new w [n] _ 0 (by simp)
    | j + 1, hj => simp at hj
  · intro u hu
    simp at hu
    subst hu
    rfl
  · intro v' w1 hown' hgrow _
    refine h v' w1 (by simpa [OwnInts] using hown') ?_
    refine Below.grown ((Below.refl B w).alloc hB _) hgrow (by simp; omega) fun k hk => ?_
    rcases hown.2 with ⟨hv, _⟩ | ⟨g, cap, cur, hv, hg, _⟩
    · rw [hv] at hk; cases hk
    · rw [hv] at hk
      simp only [Value.ownBlock, Option.some.injEq] at hk
      omega

/-- A slice of integers that can be read. -/
def IntsV (w : World) (v : Value) (zs : List Int) : Prop :=
  ∃ a cap, v = .slice a zs.length cap ∧ (zs ≠ [] → ∃ d, a = some d ∧ d.spot = none ∧ d.block < w.heap.size ∧ IntsAt w d zs)
theorem IntsV.carry {w w' : World} {v : Value} {zs : List Int} (h : IntsV w v zs) (hg : w.grownBy w' none) : IntsV w' v zs := by
  obtain ⟨a, cap, rfl, h⟩ := h
  refine ⟨a, cap, rfl, fun hz => ?_⟩
  obtain ⟨d, ha, hs, hd, hi⟩ := h hz
  exact ⟨d, ha, hs, Nat.lt_of_lt_of_le hd hg.size, fun i hi' => (World.cell?_of_block (w := w) (a := ⟨d.block, d.off + i, none⟩) (hg.block _ hd (by simp))).trans (hi i hi')⟩
theorem OwnInts.read {B : Nat} {w : World} {v : Value} {zs : List Int} (h : OwnInts B w v zs) : IntsV w v zs := by
  obtain ⟨h1, h2⟩ := h
  rcases h2 with ⟨rfl, h0⟩ | ⟨g, cap, cur, rfl, hg, hh, hc, hm, hs, ht⟩
  · exact ⟨none, 0, by rw [h0], fun hz => absurd (List.eq_nil_of_length_eq_zero h0) hz⟩
  · refine ⟨some ⟨g, 0, none⟩, cap, rfl, fun _ => ⟨⟨g, 0, none⟩, rfl, rfl, ?_, fun i hi => ?_⟩⟩
    · rcases Nat.lt_or_ge g w.heap.size with h | h
      · exact h
      · rw [Array.getElem?_eq_none h] at hh; cases hh
    · simp only [World.cell?, hh]
      have e : cur.toList[i]? = ((cur.toList.take (zs.length * 1))[i]?) := by rw [List.getElem?_take, if_pos (by omega)]
      have e2 : cur[0 + i]? = cur.toList[i]? := by rw [Nat.zero_add]; simp
      simp only [Option.isSome_none, Bool.false_eq_true, if_false]
      rw [e2, e, ht]
      simp [hi]
theorem IntsV.nil (w : World) : IntsV w (.slice none 0 0) [] := ⟨none, 0, rfl, fun h => absurd rfl h⟩
theorem grown_of_below {w w' : World} (h : Below w.heap.size w w') : w.grownBy w' none := ⟨h.os, h.tape, h.output, h.size, fun k hk _ => h.block k hk⟩

/-- sameInts. -/
theorem sameInts_any (v1 v2 : Value) (x y : List Int) (w : World) (h1 : IntsV w v1 x) (h2 : IntsV w v2 y) (l1 : x.length ≤ 1000000000) (l2 : y.length ≤ 1000000000) :
    Calls Tryd.prog 17 #[v1, v2] w fun e w' => e = .returned (.bool (x == y)) ∧ w.grownBy w' none := by
  obtain ⟨a1, c1, rfl, r1⟩ := h1
  obtain ⟨a2, c2, rfl, r2⟩ := h2
  have R1 := Lib.hid r1; have R2 := Lib.hid r2
  clear r1 r2
  by_cases hl : x.length = y.length
  · generalize hlx : x.length = l at *
    have HLX := Lib.hid hlx; have HLY := Lib.hid hl
    rw [← HLY.out]
    clear hlx hl
    go_enter Tryd.func17, Tryd.ntmps17
    go_wp2
    go_loopw [13] (fun i wr => ∃ k : Nat, k ≤ l ∧ i = .int .i64 k ∧ (∀ j (h : j < x.length) (h' : j < y.length), j < k → x[j] = y[j]) ∧ w.grownBy wr none) (fun i _ => l - (intOf i).toNat)
    case atStart => exact ⟨0, by omega, rfl, fun _ _ _ h => absurd h (by omega), grownBy_refl _ _⟩
    case round =>
      obtain ⟨k, hk, rfl, ho, hg⟩ := hrel
      have HO := Lib.hid ho; have HG := Lib.hid hg
      clear ho hg
      by_cases hlt : k < l
      · have hkx : k < x.length := by rw [HLX.out]; exact hlt
        have hky : k < y.length := by rw [← HLY.out]; exact hlt
        obtain ⟨d1, ha1, hs1, hd1, hi1⟩ := R1.out (by intro h; rw [h] at hkx; simp at hkx)
        obtain ⟨d2, ha2, hs2, hd2, hi2⟩ := R2.out (by intro h; rw [h] at hky; simp at hky)
        subst ha1 ha2
        obtain ⟨b1, o1, _⟩ := d1
        obtain ⟨b2, o2, _⟩ := d2
        simp only at hs1 hs2 hd1 hd2
        subst hs1 hs2
        have hc1 := (World.cell?_of_block (w := w) (a := ⟨b1, o1 + k, none⟩) (HG.out.block b1 hd1 (by simp))).trans (hi1 k hkx)
        have hc2 := (World.cell?_of_block (w := w) (a := ⟨b2, o2 + k, none⟩) (HG.out.block b2 hd2 (by simp))).trans (hi2 k hky)
        generalize hzx : x[k] = zx at hc1
        generalize hzy : y[k] = zy at hc2
        have HZX := Lib.hid hzx; have HZY := Lib.hid hzy
        clear hzx hzy hi1 hi2 hd1 hd2
        by_cases he : zx = zy
        · subst he
          go_wp2
          go_quiet (fail)
          go_wp2
          go_roundw
          case rel => exact ⟨k + 1, by omega, by go_num, fun j h h' hj => by
            by_cases hjk : j = k
            · subst hjk; rw [HZX.out, HZY.out]
            · exact HO.out j h h' (by omega), ⟨HG.out.os, HG.out.tape, HG.out.output, HG.out.size, HG.out.block⟩⟩
          case measure => simp [intOf]; omega
        · have hb : (zx != zy) = true := by rw [bne_iff_ne]; exact he
          have hfin : (x == y) = false := by
            rw [beq_eq_false_iff_ne]
            intro h
            subst h
            exact he (HZX.out.symm.trans HZY.out)
          have HF := Lib.hid hfin
          clear hfin he
          go_wp2
          go_quiet (fail)
          go_wp2
          go_ret
          exact ⟨by rw [HF.out]; rfl, ⟨HG.out.os, HG.out.tape, HG.out.output, HG.out.size, HG.out.block⟩⟩
      · have hfin : (x == y) = true := by
          rw [beq_iff_eq]
          refine List.ext_getElem (by rw [HLX.out, HLY.out]) fun j h h' => HO.out j h h' (by have := HLX.out; omega)
        have HF := Lib.hid hfin
        clear hfin
        go_wp2
        go_ret
        exact ⟨by rw [HF.out]; rfl, HG.out⟩
  · have hfin : (x == y) = false := by
      rw [beq_eq_false_iff_ne]
      intro h
      exact hl (by rw [h])
    have hb : ((x.length : Int) != y.length) = true := by rw [bne_iff_ne]; omega
    have HF := Lib.hid hfin
    clear hfin hl
    go_enter Tryd.func17, Tryd.ntmps17
    go_wp2
    go_ret
    exact ⟨by rw [HF.out]; rfl, grownBy_refl _ _⟩

end Go.Proofs.YtpeaeminjbjlnaaDoor

/-
  Plain arithmetic of the prime fields up to 97: no program in sight.
-/
namespace Go.Proofs.YtpeaeminjbjlnaaDoor

/-- p is a field, as the program asks it. -/
def fldB (p : Int) : Bool := decide (2 ≤ p ∧ p ≤ 97 ∧ (p % 2 ≠ 0 ∨ p = 2) ∧ (p % 3 ≠ 0 ∨ p = 3) ∧ (p % 5 ≠ 0 ∨ p = 5) ∧ (p % 7 ≠ 0 ∨ p = 7))
/-- a is an element. -/
def elB (p a : Int) : Bool := decide (0 ≤ a ∧ a < p)
theorem fldB_iff {p : Int} : fldB p = true ↔ (2 ≤ p ∧ p ≤ 97 ∧ (p % 2 ≠ 0 ∨ p = 2) ∧ (p % 3 ≠ 0 ∨ p = 3) ∧ (p % 5 ≠ 0 ∨ p = 5) ∧ (p % 7 ≠ 0 ∨ p = 7)) := by simp [fldB]
theorem elB_iff {p a : Int} : elB p a = true ↔ (0 ≤ a ∧ a < p) := by simp [elB]
theorem fldB_bd {p : Int} (h : fldB p = true) : 2 ≤ p ∧ p ≤ 97 := by have := fldB_iff.1 h; omega
def okE (p : Int) (zs : List Int) : Bool := fldB p && zs.all (elB p)

def fldN (p : Nat) : Bool := decide (2 ≤ p ∧ p ≤ 97 ∧ (p % 2 ≠ 0 ∨ p = 2) ∧ (p % 3 ≠ 0 ∨ p = 3) ∧ (p % 5 ≠ 0 ∨ p = 5) ∧ (p % 7 ≠ 0 ∨ p = 7))
theorem fldB_nat (n : Nat) : fldB n = fldN n := by unfold fldB fldN; exact decide_eq_decide.2 (by omega)

theorem all_range {n : Nat} {f : Nat → Bool} (h : (List.range n).all f = true) {k : Nat} (hk : k < n) : f k = true := List.all_eq_true.1 h k (List.mem_range.2 hk)

/-! ### trial division -/
theorem fld_no_all : (List.range 98).all (fun p => (List.range 10).all fun k => !(decide (2 ≤ p ∧ 2 ≤ k ∧ k * k ≤ p ∧ p % k = 0)) || !fldN p) = true := by decide +kernel
theorem fld_yes_all : (List.range 98).all (fun p => (List.range 11).all fun k => !(decide (2 ≤ p ∧ 2 ≤ k ∧ p < k * k) && (List.range k).all fun j => decide (j < 2) || decide (p % j ≠ 0)) || fldN p) = true := by decide +kernel
theorem fld_no {p k : Int} (h1 : 2 ≤ p) (h2 : p ≤ 97) (h3 : 2 ≤ k) (h4 : k * k ≤ p) (h5 : p % k = 0) : fldB p = false := by
  obtain ⟨n, rfl⟩ := Int.eq_ofNat_of_zero_le (show 0 ≤ p by omega)
  obtain ⟨m, rfl⟩ := Int.eq_ofNat_of_zero_le (show 0 ≤ k by omega)
  have hm : m < 10 := by
    rcases Nat.lt_or_ge m 10 with h | h
    · exact h
    · have : (10 : Int) * 10 ≤ m * m := Int.mul_le_mul (by omega) (by omega) (by omega) (by omega)
      omega
  have := all_range (all_range fld_no_all (k := n) (by omega)) hm
  have e : decide (2 ≤ n ∧ 2 ≤ m ∧ m * m ≤ n ∧ n % m = 0) = true := by
    refine decide_eq_true ⟨by omega, by omega, by exact_mod_cast h4, by exact_mod_cast h5⟩
  rw [fldB_nat]
  simpa [e] using this
theorem fld_yes {p k : Int} (h1 : 2 ≤ p) (h2 : p ≤ 97) (h3 : 2 ≤ k) (hk : k ≤ 10) (h4 : p < k * k) (h5 : ∀ j : Int, 2 ≤ j → j < k → p % j ≠ 0) : fldB p = true := by
  obtain ⟨n, rfl⟩ := Int.eq_ofNat_of_zero_le (show 0 ≤ p by omega)
  obtain ⟨m, rfl⟩ := Int.eq_ofNat_of_zero_le (show 0 ≤ k by omega)
  have := all_range (all_range fld_yes_all (k := n) (by omega)) (show m < 11 by omega)
  have e : (decide (2 ≤ n ∧ 2 ≤ m ∧ n < m * m) && (List.range m).all fun j => decide (j < 2) || decide (n % j ≠ 0)) = true := by
    rw [Bool.and_eq_true]
    refine ⟨decide_eq_true ⟨by omega, by omega, by exact_mod_cast h4⟩, List.all_eq_true.2 fun j hj => ?_⟩
    rw [List.mem_range] at hj
    by_cases h : j < 2
    · simp [h]
    · have := h5 j (by omega) (by omega)
      have h' : n % j ≠ 0 := by intro e; apply this; exact_mod_cast congrArg Nat.cast e
      simp [h']
  rw [fldB_nat]
  change (!(decide (2 ≤ n ∧ 2 ≤ m ∧ n < m * m) && (List.range m).all fun j => decide (j < 2) || decide (n % j ≠ 0)) || fldN n) = true at this
  rw [e] at this
  simpa using this

/-! ### powers, inverses, orders -/
/-- The order by the loop's own steps; 0 where the steps run out. -/
def ordFrom (n b : Nat) : Nat → Nat → Nat → Nat
  | _, _, 0 => 0
  | x, k, f + 1 => if x = 1 then k else ordFrom n b (x * b % n) (k + 1) f
def ordN (n b : Nat) : Nat := ordFrom n b b 1 100
/-- The least primitive root. -/
def primN (n : Nat) : Nat := ((List.range n).find? fun g => decide (1 ≤ g) && ordN n g == n - 1).getD 0

def fieldOk (n : Nat) : Bool := (List.range n).all fun b => b ^ n % n == b && (b == 0 || (b * (b ^ (n - 2 + if n = 2 then 1 else 0) % n) % n == 1 && decide (1 ≤ ordN n b ∧ ordN n b ≤ n - 1) && (n - 1) % ordN n b == 0 && b ^ ordN n b % n == 1))
theorem field_all : (List.range 98).all (fun n => !fldN n || fieldOk n) = true := by decide +kernel
theorem prim_all : (List.range 98).all (fun n => !fldN n || (decide (1 ≤ primN n ∧ primN n < n) && ordN n (primN n) == n - 1 && (List.range (primN n)).all fun g => g == 0 || ordN n g != n - 1)) = true := by decide +kernel

structure FieldFacts (n b : Nat) : Prop where
  fermat : b ^ n % n = b
  inv : b ≠ 0 → b * (b ^ (n - 2 + if n = 2 then 1 else 0) % n) % n = 1
  ord1 : b ≠ 0 → 1 ≤ ordN n b
  ord2 : b ≠ 0 → ordN n b ≤ n - 1
  ordd : b ≠ 0 → (n - 1) % ordN n b = 0
  ordp : b ≠ 0 → b ^ ordN n b % n = 1
theorem field_facts {n b : Nat} (hf : fldN n = true) (hb : b < n) : FieldFacts n b := by
  have hn : n < 98 := by have := of_decide_eq_true hf; omega
  have h := all_range field_all hn
  have h2 : fieldOk n = true := by simpa [hf] using h
  have h3 := all_range h2 hb
  simp only [Bool.and_eq_true, Bool.or_eq_true, beq_iff_eq, decide_eq_true_eq] at h3
  obtain ⟨h4, h5⟩ := h3
  refine ⟨h4, ?_, ?_, ?_, ?_, ?_⟩ <;> intro h0 <;> rcases h5 with h5 | ⟨⟨⟨h6, h7, h8⟩, h9⟩, h10⟩
  all_goals first | exact absurd h5 h0 | assumption
structure PrimFacts (n : Nat) : Prop where
  lo : 1 ≤ primN n
  hi : primN n < n
  ord : ordN n (primN n) = n - 1
  least : ∀ g, 1 ≤ g → g < primN n → ordN n g ≠ n - 1
theorem prim_facts {n : Nat} (hf : fldN n = true) : PrimFacts n := by
  have hn : n < 98 := by have := of_decide_eq_true hf; omega
  have h := all_range prim_all hn
  simp only [hf, Bool.not_true, Bool.false_or, Bool.and_eq_true, beq_iff_eq, decide_eq_true_eq] at h
  obtain ⟨⟨⟨h1, h2⟩, h3⟩, h4⟩ := h
  refine ⟨h1, h2, h3, fun g g1 g2 => ?_⟩
  have := all_range h4 g2
  simp only [Bool.or_eq_true, beq_iff_eq, bne_iff_ne] at this
  omega

/-! ### sums and products modulo p -/
theorem emod_mul_l (a b p : Int) : (a % p) * b % p = a * b % p := by rw [Int.mul_emod, Int.emod_emod_of_dvd _ (Int.dvd_refl p), ← Int.mul_emod]
theorem emod_mul_r (a b p : Int) : a * (b % p) % p = a * b % p := by rw [Int.mul_comm, emod_mul_l, Int.mul_comm]
theorem emod_pow (a p : Int) (n : Nat) : (a % p) ^ n % p = a ^ n % p := by
  induction n with
  | zero => simp
  | succ n ih => rw [Int.pow_succ, emod_mul_r, ← emod_mul_l, ih, emod_mul_l, ← Int.pow_succ]
theorem emod_congr_r {a b c p : Int} (h : b % p = c % p) : a * b % p = a * c % p := by rw [← emod_mul_r, h, emod_mul_r]
theorem sq_pow (x : Int) (k : Nat) : (x * x) ^ k = x ^ (2 * k) := by
  induction k with
  | zero => simp
  | succ k ih => rw [Int.pow_succ, ih, show 2 * (k + 1) = 2 * k + 1 + 1 from by omega, Int.pow_succ, Int.pow_succ]; simp only [Int.mul_assoc]
theorem pw_even (o x p : Int) (m : Nat) (h : m % 2 = 0) : o * (x * x % p) ^ (m / 2) % p = o * x ^ m % p := by
  rw [emod_congr_r (emod_pow _ _ _), sq_pow, show 2 * (m / 2) = m from by omega]
theorem pw_odd (o x p : Int) (m : Nat) (h : m % 2 = 1) : (o * x % p) * (x * x % p) ^ (m / 2) % p = o * x ^ m % p := by
  rw [emod_mul_l, emod_congr_r (emod_pow _ _ _), sq_pow, Int.mul_assoc, ← Int.pow_succ', show 2 * (m / 2) + 1 = m from by omega]

/-! ### the first index of which q holds -/
def firstFrom (q : Nat → Bool) : Nat → Nat → Option Nat
  | _, 0 => none
  | k, f + 1 => if q k then some k else firstFrom q (k + 1) f
theorem firstFrom_yes {q : Nat → Bool} {k f : Nat} (h : q k = true) : firstFrom q k (f + 1) = some k := by simp [firstFrom, h]
theorem firstFrom_no {q : Nat → Bool} {k f : Nat} (h : q k = false) : firstFrom q k (f + 1) = firstFrom q (k + 1) f := by simp [firstFrom, h]
theorem firstFrom_some {q : Nat → Bool} {f : Nat} : ∀ {k j : Nat}, firstFrom q k f = some j → q j = true ∧ k ≤ j ∧ j < k + f ∧ ∀ i, k ≤ i → i < j → q i = false := by
  induction f with
  | zero => intro k j h; simp [firstFrom] at h
  | succ f ih =>
    intro k j h
    by_cases hq : q k = true
    · rw [firstFrom_yes hq] at h
      obtain rfl : k = j := by simpa using h
      exact ⟨hq, Nat.le_refl _, by omega, fun i h1 h2 => absurd h1 (by omega)⟩
    · have hq' : q k = false := by simpa using hq
      rw [firstFrom_no hq'] at h
      obtain ⟨a, b, c, d⟩ := ih h
      refine ⟨a, by omega, by omega, fun i h1 h2 => ?_⟩
      by_cases hi : i = k
      · rw [hi]; exact hq'
      · exact d i (by omega) h2
theorem firstFrom_none {q : Nat → Bool} {f : Nat} : ∀ {k : Nat}, firstFrom q k f = none → ∀ i, k ≤ i → i < k + f → q i = false := by
  induction f with
  | zero => intro k h i h1 h2; omega
  | succ f ih =>
    intro k h i h1 h2
    by_cases hq : q k = true
    · rw [firstFrom_yes hq] at h; cases h
    · have hq' : q k = false := by simpa using hq
      rw [firstFrom_no hq'] at h
      by_cases hi : i = k
      · rw [hi]; exact hq'
      · exact ih h i (by omega) (by omega)
theorem firstFrom_snoc (q : Nat → Bool) (f : Nat) : ∀ k, firstFrom q k (f + 1) = (firstFrom q k f).or (if q (k + f) then some (k + f) else none) := by
  induction f with
  | zero => intro k; simp [firstFrom]
  | succ f ih =>
    intro k
    by_cases hq : q k = true
    · rw [firstFrom_yes hq, firstFrom_yes hq]; rfl
    · have hq' : q k = false := by simpa using hq
      rw [firstFrom_no hq', firstFrom_no hq', ih, show k + 1 + f = k + (f + 1) from by omega]
/-- One step more than the field has elements finds no logarithm more. -/
def logN (n b a : Nat) : Option Nat := firstFrom (fun k => b ^ k % n == a) 0 n
theorem log_more {n b a : Nat} (hf : fldN n = true) (hb : b < n) : firstFrom (fun k => b ^ k % n == a) 0 (n + 1) = logN n b a := by
  have h2 : 2 ≤ n := (of_decide_eq_true hf).1
  rw [firstFrom_snoc, Nat.zero_add, (field_facts hf hb).fermat]
  unfold logN
  cases h : firstFrom (fun k => b ^ k % n == a) 0 n with
  | some j => rfl
  | none =>
    have := firstFrom_none h 1 (by omega) (by omega)
    simp only [Nat.pow_one, Nat.mod_eq_of_lt hb] at this
    simp [this]
theorem log_some {n b a j : Nat} (h : logN n b a = some j) : b ^ j % n = a ∧ j < n := by
  obtain ⟨h1, _, h2, _⟩ := firstFrom_some h
  exact ⟨by simpa using h1, by omega⟩

/-- The inverse, as the program reckons it. -/
def invI (p a : Int) : Int := a ^ (p.toNat - 2 + if p = 2 then 1 else 0) % p
theorem nat_pow_mod (b m n : Nat) : ((b ^ m % n : Nat) : Int) = (b : Int) ^ m % n := by push_cast; rfl

end Go.Proofs.YtpeaeminjbjlnaaDoor

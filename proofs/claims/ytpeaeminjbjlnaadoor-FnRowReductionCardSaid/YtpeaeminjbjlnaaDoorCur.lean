/-
  The cursor of the draws (spec.l1Cur): its methods keep the cursor well formed and write nothing but its own block. Conditions: fewer than 2^40 bytes have been taken.
-/
import Derived.Test.YtpeaeminjbjlnaaDoorProg
import Derived.WalkKit
import Derived.WalkSpells
import Derived.Laws.Bits64
import Derived.Laws.BitsAllLaws
import Derived.Lib.Hide
import Derived.BigQuiet
import Derived.Deep.QuietTactic
namespace Go.Proofs.YtpeaeminjbjlnaaDoor
open Go.RowKit
set_option linter.unusedVariables false

/-- Block b is a cursor: its code reads as bytes, at most n of them have been asked for. -/
structure Cur (w : World) (b : Nat) (n : Int) : Prop where
  ex : ∃ (a : Option Addr) (len cap : Nat) (at' seed : Int),
    w.heap[b]? = some (.cells #[.slice a len cap, .int .i64 at', .int .u64 seed] 140 (0, 0)) ∧ 0 ≤ at' ∧ at' ≤ n ∧ len ≤ 140737488351232 ∧
    (∀ k : Nat, k < len → ∃ (d : Addr) (x : Int), a = some d ∧ d.block ≠ b ∧ d.block < w.heap.size ∧ d.spot = none ∧ w.cell? ⟨d.block, d.off + k, none⟩ = some (.int .u8 x) ∧ 0 ≤ x ∧ x ≤ 255)

/-- A draw: an integer of which R holds; the cursor is well formed, at most n bytes have been asked for; nothing but the cursor's block has been written. -/
def Drawn (R : Int → Prop) (b : Nat) (n : Int) (w : World) (e : Ending) (w' : World) : Prop :=
  ∃ v : Int, e = .returned (.int .i64 v) ∧ R v ∧ Cur w' b n ∧ w.grownBy w' (some b)

theorem seed_byte (x : Int) : 0 ≤ wrap64 (bits .and .u64 (IntKind.u64.wrap x / 1099511627776) 255) ∧ wrap64 (bits .and .u64 (IntKind.u64.wrap x / 1099511627776) 255) ≤ 255 := by
  rw [IntKind.wrap_u64, u64_and _ _ (by omega) (by omega) (by decide) (by decide)]
  have h : ((x % 18446744073709551616 / 1099511627776).toNat &&& (255 : Int).toNat) ≤ 255 := Nat.and_le_right
  generalize ((x % 18446744073709551616 / 1099511627776).toNat &&& (255 : Int).toNat) = y at h
  unfold wrap64
  omega

theorem next_close {b : Nat} {n : Int} {w : World} {a : Option Addr} {len cap : Nat} {at' seed : Int}
    (hb : w.heap[b]? = some (.cells #[.slice a len cap, .int .i64 at', .int .u64 seed] 140 (0, 0)))
    (hx : ∀ k : Nat, k < len → ∃ (d : Addr) (x : Int), a = some d ∧ d.block ≠ b ∧ d.block < w.heap.size ∧ d.spot = none ∧ w.cell? ⟨d.block, d.off + k, none⟩ = some (.int .u8 x) ∧ 0 ≤ x ∧ x ≤ 255)
    (hn : at' ≤ n) (hl : len ≤ 140737488351232) (m q : Nat) {at2 seed2 : Int} {e : Ending}
    (he : ∃ v : Int, e = .returned (.int .i64 v) ∧ 0 ≤ v ∧ v ≤ 255) (h0 : 0 ≤ at2) (h1 : at2 ≤ n + 1) :
    Drawn (fun v => 0 ≤ v ∧ v ≤ 255) b (n + 1) w e ((((w.drewN m).setCell ⟨b, 1, none⟩ (.int .i64 at2)).setCell ⟨b, 2, none⟩ (.int .u64 seed2)).drewN q) := by
  obtain ⟨v, rfl, v0, v1⟩ := he
  have hh : ∀ k : Nat, k ≠ b → ((((w.drewN m).setCell ⟨b, 1, none⟩ (.int .i64 at2)).setCell ⟨b, 2, none⟩ (.int .u64 seed2)).drewN q).heap[k]? = w.heap[k]? := by
    intro k hk
    show (((w.drewN m).setCell ⟨b, 1, none⟩ (.int .i64 at2)).setCell ⟨b, 2, none⟩ (.int .u64 seed2)).heap[k]? = _
    rw [Below.heap_setCell _ _ _ _ hk, Below.heap_setCell _ _ _ _ hk]; rfl
  refine ⟨v, rfl, ⟨v0, v1⟩, ⟨a, len, cap, at2, seed2, ?_, h0, h1, hl, ?_⟩, ⟨rfl, rfl, rfl, by simp [World.setCell, World.drewN], fun k _ hk => hh k (by simpa using hk)⟩⟩
  · have : (w.drewN m).heap[b]? = w.heap[b]? := rfl
    show (((w.drewN m).setCell ⟨b, 1, none⟩ (.int .i64 at2)).setCell ⟨b, 2, none⟩ (.int .u64 seed2)).heap[b]? = _
    simp only [World.setCell]
    rw [Array.getElem?_modify, if_pos rfl, Array.getElem?_modify, if_pos rfl, this, hb]
    rfl
  · intro k hk
    obtain ⟨d, x, ha, hd, hs, hsp, hc, x0, x1⟩ := hx k hk
    refine ⟨d, x, ha, hd, by simpa [World.setCell, World.drewN] using hs, hsp, ?_, x0, x1⟩
    exact (World.cell?_of_block (w := w) (a := ⟨d.block, d.off + k, none⟩) (hh _ hd)).trans hc

theorem next_any (b : Nat) (n : Int) (w : World) (hc : Cur w b n) (hn : n + 1 ≤ 1000000000000) : Calls Tryd.prog 261 #[.pointer (some ⟨b, 0, none⟩)] w (Drawn (fun v => 0 ≤ v ∧ v ≤ 255) b (n + 1) w) := by
  obtain ⟨a, len, cap, at', seed, hb, ha0, han, hl, hx⟩ := hc.ex
  have c0 : w.cell? ⟨b, 0, none⟩ = some (.slice a len cap) := by simp [World.cell?, hb]
  have c1 : w.cell? ⟨b, 1, none⟩ = some (.int .i64 at') := by simp [World.cell?, hb]
  have c2 : w.cell? ⟨b, 2, none⟩ = some (.int .u64 seed) := by simp [World.cell?, hb]
  have f1 : w.frozen? ⟨b, 1, none⟩ = false := by simp [World.frozen?, hb]
  have f2 : w.frozen? ⟨b, 2, none⟩ = false := by simp [World.frozen?, hb]
  have HB := Lib.hid hb
  have HX := Lib.hid hx
  clear hb hx
  by_cases hlt : at' < len
  · obtain ⟨k, rfl⟩ := Int.eq_ofNat_of_zero_le ha0
    obtain ⟨d, x, rfl, hdb, hdw, hds, hcx, hx0, hx1⟩ := HX.out k (by omega)
    obtain ⟨db, doff, _⟩ := d
    simp only at hds
    subst hds
    go_enter Tryd.func261, Tryd.ntmps261
    go_wp2
    go_quiet (fail)
    go_wp2
    go_quiet (fail)
    go_wp2
    go_quiet (fail)
    go_wp2
    go_ret
    exact next_close HB.out HX.out han hl _ _ ⟨_, rfl, hx0, hx1⟩ (by omega) (by omega)
  · have hle : len ≤ at' := by omega
    have hd : decide (at' < len) = false := by simpa using hle
    have hx := HX.out
    have HX2 := Lib.hid hx
    clear HX hx hlt
    go_enter Tryd.func261, Tryd.ntmps261
    go_wp2
    go_quiet (fail)
    go_wp2
    go_quiet (fail)
    go_wp2
    go_ret
    exact next_close HB.out HX2.out han hl _ _ ⟨_, rfl, seed_byte _⟩ (by omega) (by omega)

theorem grownBy_refl (w : World) (r : Option Nat) : w.grownBy w r := ⟨rfl, rfl, rfl, Nat.le_refl _, fun _ _ _ => rfl⟩
theorem grownBy_trans {a b c : World} {r : Option Nat} (h : a.grownBy b r) (k : b.grownBy c r) : a.grownBy c r :=
  ⟨k.os.trans h.os, k.tape.trans h.tape, k.output.trans h.output, Nat.le_trans h.size k.size, fun i hi hr => (k.block i (Nat.lt_of_lt_of_le hi h.size) hr).trans (h.block i hi hr)⟩
theorem Cur.mono {w : World} {b : Nat} {n m : Int} (h : Cur w b n) (hm : n ≤ m) : Cur w b m := by
  obtain ⟨a, len, cap, at', seed, hb, h0, h1, hl, hx⟩ := h.ex
  exact ⟨a, len, cap, at', seed, hb, h0, by omega, hl, hx⟩
theorem Drawn.mono {R R' : Int → Prop} {b : Nat} {n m : Int} {w w' : World} {e : Ending} (h : Drawn R b n w e w') (hm : n ≤ m) (hr : ∀ v, R v → R' v) : Drawn R' b m w e w' := by
  obtain ⟨v, he, hv, hc, hg⟩ := h
  exact ⟨v, he, hr v hv, hc.mono hm, hg⟩

theorem pick_any (m : Int) (b : Nat) (n : Int) (w : World) (hc : Cur w b n) (hm : m ≤ 1000000) (hn : n + 2 ≤ 1000000000000) : Calls Tryd.prog 131 #[.pointer (some ⟨b, 0, none⟩), .int .i64 m] w (Drawn (fun v => 0 ≤ v ∧ (v = 0 ∨ v < m)) b (n + 2) w) := by
  have HC := Lib.hid hc
  clear hc
  by_cases h1 : m ≤ 1
  · go_enter Tryd.func131, Tryd.ntmps131
    go_wp2
    go_ret
    exact ⟨0, rfl, ⟨by omega, Or.inl rfl⟩, HC.out.mono (by omega), grownBy_refl _ _⟩
  · by_cases h2 : 200 < m
    · go_enter Tryd.func131, Tryd.ntmps131
      go_wp2_with fail
      refine (next_any _ _ _ HC.out (by omega)).mono ?_
      rintro e w1 ⟨v, rfl, ⟨v0, v1⟩, c1, g1⟩
      have C1 := Lib.hid c1; have G1 := Lib.hid g1; clear c1 g1
      go_wp2_with fail
      refine (next_any _ _ _ C1.out (by omega)).mono ?_
      rintro e w2 ⟨v', rfl, ⟨v2, v3⟩, c2, g2⟩
      have C2 := Lib.hid c2; have G2 := Lib.hid g2; clear c2 g2
      have e0 := Int.emod_nonneg (v * 256 + v') (show m ≠ 0 by omega)
      have e1 := Int.emod_lt_of_pos (v * 256 + v') (show 0 < m by omega)
      go_wp2
      go_ret
      exact ⟨_, rfl, ⟨e0, Or.inr e1⟩, C2.out.mono (by omega), grownBy_trans G1.out G2.out⟩
    · go_enter Tryd.func131, Tryd.ntmps131
      go_wp2_with fail
      refine (next_any _ _ _ HC.out (by omega)).mono ?_
      rintro e w1 ⟨v, rfl, ⟨v0, v1⟩, c1, g1⟩
      have C1 := Lib.hid c1; have G1 := Lib.hid g1; clear c1 g1
      have e0 := Int.emod_nonneg v (show m ≠ 0 by omega)
      have e1 := Int.emod_lt_of_pos v (show 0 < m by omega)
      go_wp2
      go_ret
      exact ⟨_, rfl, ⟨e0, Or.inr e1⟩, C1.out.mono (by omega), G1.out⟩

theorem one_any (m : Int) (b : Nat) (n : Int) (w : World) (hc : Cur w b n) (hm : m ≤ 1000000) (hn : n + 2 ≤ 1000000000000) : Calls Tryd.prog 153 #[.pointer (some ⟨b, 0, none⟩), .int .i64 m] w
    fun e w' => ∃ v : Bool, e = .returned (.bool v) ∧ Cur w' b (n + 2) ∧ w.grownBy w' (some b) := by
  have HC := Lib.hid hc
  clear hc
  go_enter Tryd.func153, Tryd.ntmps153
  go_wp2_with fail
  refine (pick_any _ _ _ _ HC.out (by omega) (by omega)).mono ?_
  rintro e w1 ⟨v, rfl, hv, c1, g1⟩
  have C1 := Lib.hid c1; have G1 := Lib.hid g1; clear c1 g1 hv
  go_wp2
  go_ret
  exact ⟨_, rfl, C1.out, G1.out⟩

/-- A slice of integers that lies in memory: its cells hold zs (and a capacity's rest is not spoken of). -/
def IntsAt (w : World) (a : Addr) (zs : List Int) : Prop :=
  ∀ i (h : i < zs.length), w.cell? ⟨a.block, a.off + i, none⟩ = some (.int .i64 zs[i])

theorem among_any (a : Addr) (cap : Nat) (zs : List Int) (b : Nat) (n : Int) (w : World) (hc : Cur w b n) (hz : IntsAt w a zs) (h0 : 0 < zs.length) (hm : zs.length ≤ 1000000) (hs : a.spot = none) (hab : a.block ≠ b) (haw : a.block < w.heap.size) (hn : n + 2 ≤ 1000000000000) :
    Calls Tryd.prog 130 #[.pointer (some ⟨b, 0, none⟩), .slice (some a) zs.length cap] w (Drawn (fun v => v ∈ zs) b (n + 2) w) := by
  have HC := Lib.hid hc
  have HZ := Lib.hid hz
  obtain ⟨ab, ao, _⟩ := a
  simp only at hs hab haw
  subst hs
  clear hc hz
  generalize hl : zs.length = l at *
  have HL := Lib.hid hl
  clear hl
  go_enter Tryd.func130, Tryd.ntmps130
  go_wp2_with fail
  refine (pick_any _ _ _ _ HC.out (by omega) (by omega)).mono ?_
  rintro e w1 ⟨v, rfl, ⟨v0, v1⟩, c1, g1⟩
  have hv : v < l := by omega
  obtain ⟨k, rfl⟩ := Int.eq_ofNat_of_zero_le v0
  have hkl : k < zs.length := by rw [HL.out]; omega
  have hcell : w1.cell? ⟨ab, ao + k, none⟩ = some (.int .i64 zs[k]) := (World.cell?_of_block (w := w) (a := ⟨ab, ao + k, none⟩) (g1.block ab haw (by simpa using hab))).trans (HZ.out k hkl)
  have C1 := Lib.hid c1; have G1 := Lib.hid g1; clear c1 g1 v1
  generalize hzk : zs[k] = z at *
  have HK := Lib.hid hzk
  clear hzk
  go_wp2
  go_ret
  exact ⟨z, rfl, by rw [← HK.out]; exact List.getElem_mem _, C1.out, G1.out⟩

theorem l1Most_any (x y : Int) (w : World) : Calls Tryd.prog 189 #[.int .i64 x, .int .i64 y] w fun e w' => e = .returned (.int .i64 (max x y)) ∧ w = w' := by
  by_cases h : y < x
  · have hm : max x y = x := by omega
    have HM := Lib.hid hm
    clear hm
    go_enter Tryd.func189, Tryd.ntmps189
    go_wp2
    go_ret
    exact ⟨by rw [HM.out]; rfl, rfl⟩
  · have hm : max x y = y := by omega
    have HM := Lib.hid hm
    clear hm
    go_enter Tryd.func189, Tryd.ntmps189
    go_wp2
    go_ret
    exact ⟨by rw [HM.out]; rfl, rfl⟩

theorem elem_any (p : Int) (b : Nat) (n : Int) (w : World) (hc : Cur w b n) (hm : p ≤ 1000000) (hn : n + 2 ≤ 1000000000000) : Calls Tryd.prog 274 #[.pointer (some ⟨b, 0, none⟩), .int .i64 p] w (Drawn (fun v => 0 ≤ v ∧ (v = 0 ∨ v < p)) b (n + 2) w) := by
  have HC := Lib.hid hc
  clear hc
  go_enter Tryd.func274, Tryd.ntmps274
  go_wp2_with (go_at_call 189; refine (l1Most_any _ _ _).mono ?_; rintro e w' ⟨rfl, rfl⟩)
  refine (pick_any _ _ _ _ HC.out (by omega) (by omega)).mono ?_
  rintro e w1 ⟨v, rfl, ⟨v0, v1⟩, c1, g1⟩
  have hv : v = 0 ∨ v < p := by omega
  have C1 := Lib.hid c1; have G1 := Lib.hid g1; have HV := Lib.hid hv; clear c1 g1 v1 hv
  go_wp2
  go_ret
  exact ⟨_, rfl, ⟨v0, HV.out⟩, C1.out, G1.out⟩

theorem Cur.lt {w : World} {b : Nat} {n : Int} (h : Cur w b n) : b < w.heap.size := by
  obtain ⟨a, len, cap, at', seed, hb, h0, h1, hl, hx⟩ := h.ex
  rcases Nat.lt_or_ge b w.heap.size with h | h
  · exact h
  · rw [Array.getElem?_eq_none h] at hb; cases hb
theorem alloc_heap_old (w : World) (o : Obj) (k : Nat) (h : k < w.heap.size) : (w.alloc o).heap[k]? = w.heap[k]? := Below.heap_alloc w o k h
theorem alloc_heap_new (w : World) (o : Obj) : (w.alloc o).heap[w.heap.size]? = some o := by
  show (w.heap.push o)[w.heap.size]? = _
  simp
/-- What leaves the cursor's block and all older blocks alone leaves the cursor as it is. -/
theorem Cur.carry {w w' : World} {b : Nat} {n : Int} (h : Cur w b n) (hw : ∀ k, k < w.heap.size → w'.heap[k]? = w.heap[k]?) (hs : w.heap.size ≤ w'.heap.size) : Cur w' b n := by
  have hbl := h.lt
  obtain ⟨a, len, cap, at', seed, hb, h0, h1, hl, hx⟩ := h.ex
  refine ⟨a, len, cap, at', seed, (hw b hbl).trans hb, h0, h1, hl, fun k hk => ?_⟩
  obtain ⟨d, x, ha, hd, hs', hsp, hc, x0, x1⟩ := hx k hk
  exact ⟨d, x, ha, hd, by omega, hsp, (World.cell?_of_block (w := w) (a := ⟨d.block, d.off + k, none⟩) (hw _ hs')).trans hc, x0, x1⟩
theorem Cur.alloc {w : World} {b : Nat} {n : Int} (h : Cur w b n) (o : Obj) : Cur (w.alloc o) b n :=
  h.carry (fun k hk => alloc_heap_old w o k hk) (by simp)
theorem grownBy_alloc (w : World) (o : Obj) (r : Option Nat) : w.grownBy (w.alloc o) r :=
  ⟨rfl, rfl, rfl, by simp, fun k hk _ => alloc_heap_old w o k hk⟩
theorem intsAt_new (w : World) (zs : List Int) (t : TypeId) : IntsAt (w.alloc (.cells (zs.map (Value.int .i64)).toArray t)) ⟨w.heap.size, 0, none⟩ zs := by
  intro i hi
  simp only [World.cell?]
  rw [alloc_heap_new]
  simp [hi]

/-- among, over a literal list that has just been laid. -/
theorem among_new (zs : List Int) (t : TypeId) (b : Nat) (n : Int) (w : World) (hc : Cur w b n) (h0 : 0 < zs.length) (hm : zs.length ≤ 1000000) (hn : n + 2 ≤ 1000000000000) :
    Calls Tryd.prog 130 #[.pointer (some ⟨b, 0, none⟩), .slice (some ⟨w.heap.size, 0, none⟩) zs.length zs.length] (w.alloc (.cells (zs.map (Value.int .i64)).toArray t)) (Drawn (fun v => v ∈ zs) b (n + 2) w) := by
  refine (among_any ⟨w.heap.size, 0, none⟩ zs.length zs b n _ (hc.alloc _) (intsAt_new w zs t) h0 hm rfl (by have := hc.lt; simp; omega) (by simp) hn).mono ?_
  rintro e w' ⟨v, rfl, hv, hc', hg⟩
  exact ⟨v, rfl, hv, hc', grownBy_trans (grownBy_alloc _ _ _) hg⟩

theorem prime_any (b : Nat) (n : Int) (w : World) (hc : Cur w b n) (hn : n + 2 ≤ 1000000000000) : Calls Tryd.prog 151 #[.pointer (some ⟨b, 0, none⟩)] w (Drawn (fun v => v ∈ [(2 : Int), 3, 5, 7, 2, 3, 5, 11, 13, 97]) b (n + 2) w) := by
  have HC := Lib.hid hc
  clear hc
  go_enter Tryd.func151, Tryd.ntmps151
  go_wp2_with fail
  refine (among_new [(2 : Int), 3, 5, 7, 2, 3, 5, 11, 13, 97] _ _ _ _ HC.out (by decide) (by decide) hn).mono ?_
  rintro e w1 ⟨v, rfl, hv, c1, g1⟩
  have C1 := Lib.hid c1; have G1 := Lib.hid g1; have HV := Lib.hid hv; clear c1 g1 hv
  go_wp2
  go_ret
  exact ⟨_, rfl, HV.out, C1.out, G1.out⟩

/-- What anyPrime draws: a field, or one of eight other numbers. -/
def anyP (v : Int) : Prop := v ∈ [(-1 : Int), 0, 1, 4, 9, 91, 98, 101, 2, 3, 5, 7, 11, 13, 97]

theorem anyPrime_any (b : Nat) (n : Int) (w : World) (hc : Cur w b n) (hn : n + 4 ≤ 1000000000000) : Calls Tryd.prog 128 #[.pointer (some ⟨b, 0, none⟩)] w (Drawn anyP b (n + 4) w) := by
  have HC := Lib.hid hc
  clear hc
  go_enter Tryd.func128, Tryd.ntmps128
  go_wp2_with fail
  refine (one_any _ _ _ _ HC.out (by decide) (by omega)).mono ?_
  rintro e w1 ⟨v, rfl, c1, g1⟩
  have C1 := Lib.hid c1; have G1 := Lib.hid g1; clear c1 g1
  cases v
  · go_wp2_with fail
    refine (prime_any _ _ _ C1.out (by omega)).mono ?_
    rintro e w2 ⟨v, rfl, hv, c2, g2⟩
    have C2 := Lib.hid c2; have G2 := Lib.hid g2; have HV := Lib.hid hv; clear c2 g2 hv
    go_wp2
    go_ret
    exact ⟨_, rfl, by have h := HV.out; simp [anyP] at h ⊢; omega, C2.out.mono (by omega), grownBy_trans G1.out G2.out⟩
  · go_wp2_with fail
    refine (among_new [(-1 : Int), 0, 1, 4, 9, 91, 98, 101] _ _ _ _ C1.out (by decide) (by decide) (by omega)).mono ?_
    rintro e w2 ⟨v, rfl, hv, c2, g2⟩
    have C2 := Lib.hid c2; have G2 := Lib.hid g2; have HV := Lib.hid hv; clear c2 g2 hv
    go_wp2
    go_ret
    exact ⟨_, rfl, by have h := HV.out; simp [anyP] at h ⊢; omega, C2.out.mono (by omega), grownBy_trans G1.out G2.out⟩

theorem anyElem_any (p : Int) (b : Nat) (n : Int) (w : World) (hc : Cur w b n) (hp : -1000 ≤ p) (hp' : p ≤ 1000) (hn : n + 4 ≤ 1000000000000) : Calls Tryd.prog 203 #[.pointer (some ⟨b, 0, none⟩), .int .i64 p] w (Drawn (fun v => -1 ≤ v ∧ v ≤ 1001 ∨ v = p ∨ v = p + 1) b (n + 4) w) := by
  have HC := Lib.hid hc
  clear hc
  go_enter Tryd.func203, Tryd.ntmps203
  go_wp2_with fail
  refine (one_any _ _ _ _ HC.out (by decide) (by omega)).mono ?_
  rintro e w1 ⟨v, rfl, c1, g1⟩
  have C1 := Lib.hid c1; have G1 := Lib.hid g1; clear c1 g1
  cases v
  · go_wp2_with fail
    refine (elem_any _ _ _ _ C1.out (by omega) (by omega)).mono ?_
    rintro e w2 ⟨v, rfl, hv, c2, g2⟩
    have C2 := Lib.hid c2; have G2 := Lib.hid g2; have HV := Lib.hid hv; clear c2 g2 hv
    go_wp2
    go_ret
    exact ⟨_, rfl, by have h := HV.out; omega, C2.out.mono (by omega), grownBy_trans G1.out G2.out⟩
  · go_wp2_with fail
    refine (among_new [(-1 : Int), p, p + 1] _ _ _ _ C1.out (by simp) (by simp) (by omega)).mono ?_
    rintro e w2 ⟨v, rfl, hv, c2, g2⟩
    have C2 := Lib.hid c2; have G2 := Lib.hid g2; have HV := Lib.hid hv; clear c2 g2 hv
    go_wp2
    go_ret
    exact ⟨_, rfl, by have h := HV.out; simp at h; omega, C2.out.mono (by omega), grownBy_trans G1.out G2.out⟩

end Go.Proofs.YtpeaeminjbjlnaaDoor

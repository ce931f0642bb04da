/-
  Scripts: the walks of IsScript, of the program and of the reference. Conditions: fewer than 2^32 - 15 bytes.
-/
import Derived.Test.YtmnpcooaijpigaaDoorRows
import Derived.Test.YtmnpcooaijpigaaDoorShelf
import Derived.WalkKit
import Derived.WalkSpells
import Derived.Lib.Hide
import Derived.Outline
import Derived.Lib.SplitLaws
import Derived.Lib.CountLaws
import Derived.Lib.IndexMore
import Derived.BigQuiet
import Derived.Deep.QuietTactic
namespace Go.Proofs.YtmnpcooaijpigaaDoor
open Go.RowKit
set_option linter.unusedVariables false

/-- The bytes are none, or a line feed is the last. -/
def endsB (l : List UInt8) : Bool := l.isEmpty || l.getLast? == some 10
def nl (l : List UInt8) : Nat := l.count 10
/-- What both functions answer. -/
def scriptB (s : ByteArray) : Bool := decide (s.size ≤ 3000) && (endsB s.data.toList && decide (nl s.data.toList ≤ 60))

def feed : ByteArray := ⟨#[10]⟩
theorem countB_feed (s : ByteArray) : Lib.countB s feed = nl s.data.toList := Lib.count_one 10 s.data.toList

theorem last_piece : ∀ (n : Nat) (s : ByteArray), Lib.countB s feed = n → ∃ t : ByteArray, (Lib.splitB feed 0 n s)[n]? = some t ∧ (t.data.toList = [] ↔ endsB s.data.toList = true) := by
  intro n
  induction n with
  | zero =>
    intro s h
    refine ⟨s, rfl, ?_⟩
    rw [countB_feed] at h
    have hm : (10 : UInt8) ∉ s.data.toList := List.count_eq_zero.1 h
    unfold endsB
    constructor
    · intro h0; rw [h0]; rfl
    · intro h0
      rcases Bool.or_eq_true_iff.1 h0 with h1 | h1
      · simpa using h1
      · rw [beq_iff_eq] at h1
        exact absurd (List.mem_of_getLast? h1) hm
  | succ n ih =>
    intro s h
    rcases Lib.index_spec s.data.toList feed.data.toList with ⟨h1, _⟩ | ⟨i, hi, hil, hocc, _⟩
    · rw [Lib.countB_miss s feed h1] at h; cases h
    · have hhit := Lib.countB_hit s feed i (by decide) hi
      have hc : Lib.countB (s.extract (i + feed.size) s.size) feed = n := by omega
      obtain ⟨t, ht, hte⟩ := ih _ hc
      refine ⟨t, ?_, ?_⟩
      · rw [Lib.splitB_hit feed 0 n s i hi, List.getElem?_cons_succ]; exact ht
      · rw [hte, Lib.extract_to_end]
        have h10 : s.data.toList[i]? = some 10 := Lib.occAt_head (t := []) rfl hocc
        generalize s.data.toList = l at h10
        have hsz : feed.size = 1 := rfl
        rw [hsz]
        have hlt : i < l.length := by
          rcases Nat.lt_or_ge i l.length with h | h
          · exact h
          · rw [List.getElem?_eq_none h] at h10; cases h10
        unfold endsB
        by_cases he : i + 1 = l.length
        · have e1 : l.drop (i + 1) = [] := List.drop_of_length_le (by omega)
          have e2 : l.getLast? = some 10 := by
            rw [List.getLast?_eq_getElem?, show l.length - 1 = i from by omega]; exact h10
          rw [e1, e2]
          simp
        · have e2 : (l.drop (i + 1)).getLast? = l.getLast? := by
            rw [List.getLast?_drop]
            simp; omega
          have e3 : (l.drop (i + 1)).isEmpty = false := by
            rw [List.isEmpty_eq_false_iff]
            intro h
            have := List.drop_eq_nil_iff.1 h
            omega
          have e4 : l.isEmpty = false := by
            rw [List.isEmpty_eq_false_iff]
            intro h
            rw [h] at hlt
            simp at hlt
          rw [e2, e3, e4]

/-! ### the program -/
theorem nl_le (s : ByteArray) : nl s.data.toList ≤ s.size := by
  rw [Lib.size_eq]
  exact List.count_le_length

theorem below_drewN' {B n : Nat} {a w : World} (h : Below B a w) : Below B a (w.drewN n) := ⟨h.os, h.tape, h.output, h.size, h.block⟩

theorem lines_any (s : ByteArray) (m : Int) (w : World) (hs : s.size ≤ 4000000) (hm : w.cell? ⟨1, 0, none⟩ = some (.int .i64 m)) :
    Calls Tryd.prog 52 #[.string s, .int .i64 60] w fun e w' => (∃ v, e = .returned (.tuple #[v, .bool (endsB s.data.toList && decide (nl s.data.toList ≤ 60))])) ∧ Below w.heap.size w w' := by
  have hc := Tryd.strings_Split s feed m w (by omega) hm (by decide)
  rw [countB_feed] at hc
  have hle := nl_le s
  obtain ⟨t, ht, hte⟩ := last_piece _ s rfl
  rw [countB_feed] at ht
  generalize hn : nl s.data.toList = n at *
  generalize hp : Lib.splitB feed 0 n s = ps at *
  have HC := Lib.hid hc; have HN := Lib.hid hn
  have hcell : ∀ w' : World, (w'.alloc (.cells (ps.map Value.string).toArray 9)).cell? ⟨w'.heap.size, 0 + n, none⟩ = some (.string t) := by
    intro w'
    simp only [World.cell?]
    rw [show (w'.alloc (.cells (ps.map Value.string).toArray 9)).heap[w'.heap.size]? = some (.cells (ps.map Value.string).toArray 9 (0, 0)) from by show (w'.heap.push _)[w'.heap.size]? = _; simp]
    simp [ht]
  have HT := Lib.hid hcell
  clear hc hn hp ht hcell
  have hends : endsB s.data.toList = decide (t.data.toList = []) := by
    by_cases h : t.data.toList = []
    · rw [hte.1 h]; simp [h]
    · cases he : endsB s.data.toList
      · simp [h]
      · exact absurd (hte.2 he) h
  have HE := Lib.hid hends
  clear hends hte
  go_enter Tryd.func52, Tryd.ntmps52
  go_wp2_with fail
  refine HC.out.mono ?_
  rintro e w1 ⟨rfl, rfl⟩
  have hcc := HT.out w
  rw [Nat.zero_add] at hcc
  go_wp2_with fail
  clear HT
  by_cases hte : t.data.toList = []
  · have hb1 : t.toList = [] := by rw [Lib.toList_data]; exact hte
    have HD := Lib.hid (show decide (t.data.toList = []) = true by simp [hte])
    clear hte
    by_cases hk : n ≤ 60
    · have hkd : decide ((n : Int) ≤ 60) = true := by simp; omega
      have HK := Lib.hid (show decide (n ≤ 60) = true by simp [hk])
      go_quiet (fail)
      go_wp2
      go_ret2
      exact ⟨⟨_, by rw [HE.out, HD.out, HK.out]; rfl⟩, below_drewN' ((Below.refl _ _).alloc (Nat.le_refl _) _)⟩
    · have hkd : decide ((n : Int) ≤ 60) = false := by simp; omega
      have HK := Lib.hid (show decide (n ≤ 60) = false by simp; omega)
      go_quiet (fail)
      go_wp2
      go_ret2
      exact ⟨⟨_, by rw [HE.out, HD.out, HK.out]; rfl⟩, below_drewN' ((Below.refl _ _).alloc (Nat.le_refl _) _)⟩
  · have hb1 : t.toList.isEmpty = false := by rw [Lib.toList_data]; simpa using hte
    have HD := Lib.hid (show decide (t.data.toList = []) = false by simp [hte])
    clear hte
    have HK : Hid (True) := Lib.hid trivial
    go_quiet (fail)
    go_wp2
    go_ret2
    exact ⟨⟨_, by rw [HE.out, HD.out]; rfl⟩, below_drewN' ((Below.refl _ _).alloc (Nat.le_refl _) _)⟩

theorem scriptLines_any (s : ByteArray) (m : Int) (w : World) (hs : s.size ≤ 4000000) (hm : w.cell? ⟨1, 0, none⟩ = some (.int .i64 m)) :
    Calls Tryd.prog 44 #[.string s] w fun e w' => (∃ v, e = .returned (.tuple #[v, .bool (scriptB s)])) ∧ Below w.heap.size w w' := by
  have HS := Lib.hid (show scriptB s = (endsB s.data.toList && decide (nl s.data.toList ≤ 60) && decide (s.size ≤ 3000)) by unfold scriptB; rw [Bool.and_comm])
  have HM := Lib.hid hm
  clear hm
  cases hb : (endsB s.data.toList && decide (nl s.data.toList ≤ 60))
  · have HB := Lib.hid hb
    have HC := Lib.hid (lines_any s m w hs HM.out)
    rw [hb] at HC
    clear hb
    go_enter Tryd.func44, Tryd.ntmps44
    go_wp2_with fail
    refine HC.out.mono ?_
    rintro e w1 ⟨⟨v, rfl⟩, hbel⟩
    have HW := Lib.hid hbel
    clear hbel
    go_wp2
    go_ret2
    exact ⟨⟨_, by rw [HS.out, HB.out]; rfl⟩, HW.out⟩
  · have HB := Lib.hid hb
    have HC := Lib.hid (lines_any s m w hs HM.out)
    rw [hb] at HC
    clear hb
    by_cases hl : s.size ≤ 3000
    · have hd : decide ((s.size : Int) ≤ 3000) = true := by simp; omega
      have HK := Lib.hid (show decide (s.size ≤ 3000) = true by simp [hl])
      go_enter Tryd.func44, Tryd.ntmps44
      go_wp2_with fail
      refine HC.out.mono ?_
      rintro e w1 ⟨⟨v, rfl⟩, hbel⟩
      have HW := Lib.hid hbel
      clear hbel
      go_wp2
      go_ret2
      exact ⟨⟨_, by rw [HS.out, HB.out, HK.out]; rfl⟩, HW.out⟩
    · have hd : decide ((s.size : Int) ≤ 3000) = false := by simp; omega
      have HK := Lib.hid (show decide (s.size ≤ 3000) = false by simp; omega)
      go_enter Tryd.func44, Tryd.ntmps44
      go_wp2_with fail
      refine HC.out.mono ?_
      rintro e w1 ⟨⟨v, rfl⟩, hbel⟩
      have HW := Lib.hid hbel
      clear hbel
      go_wp2
      go_ret2
      exact ⟨⟨_, by rw [HS.out, HB.out, HK.out]; rfl⟩, HW.out⟩

theorem iIsScript_any (s : ByteArray) (m : Int) (w : World) (hs : s.size ≤ 4000000) (hm : w.cell? ⟨1, 0, none⟩ = some (.int .i64 m)) :
    Calls Tryd.prog 27 #[.string s] w fun e w' => e = .returned (.bool (scriptB s)) ∧ Below w.heap.size w w' := by
  have HC := Lib.hid (scriptLines_any s m w hs hm)
  clear hm
  go_enter Tryd.func27, Tryd.ntmps27
  go_wp2_with fail
  refine HC.out.mono ?_
  rintro e w1 ⟨⟨v, rfl⟩, hbel⟩
  have HW := Lib.hid hbel
  clear hbel
  go_wp2
  go_ret
  exact ⟨rfl, HW.out⟩

/-! ### the reference -/
theorem info_str : (Tryd.prog.info? 9).map (fun i => (i.zero, i.size, i.bytes)) = some (some (.string ByteArray.empty), 1, 16) := by kernel_rfl

/-- line feeds among the first k bytes -/
def nlTo (s : ByteArray) (k : Nat) : Nat := nl (s.data.toList.take k)
theorem nlTo_succ (s : ByteArray) (k : Nat) (h : k < s.size) : nlTo s (k + 1) = nlTo s k + if s[k] = 10 then 1 else 0 := by
  unfold nlTo nl
  rw [List.take_succ_eq_append_getElem (by simpa using h), List.count_append]
  have e : s.data.toList[k]'(by simpa using h) = s[k] := rfl
  rw [e]
  by_cases h10 : s[k] = 10
  · rw [h10]; rfl
  · rw [if_neg h10]
    simp [h10]
theorem nlTo_le (s : ByteArray) (k : Nat) : nlTo s k ≤ k := by
  unfold nlTo nl
  exact Nat.le_trans List.count_le_length (List.length_take_le _ _)
theorem nlTo_all (s : ByteArray) : nlTo s s.size = nl s.data.toList := by
  unfold nlTo
  rw [Lib.size_eq, List.take_length]

/-- A slice of n strings of the call's own. -/
def OwnStrs (B : Nat) (w : World) (v : Value) (n : Nat) : Prop := ∃ xs, w.ownsRow B 9 1 v n xs
theorem app_str {ops : Array Oper} {rest : List Oper} {o : Oper} {a : Act} {Q : Exit → Act → World → Prop} (hgd : o.guard = none) (s x : Operand)
    (ho : o.op = .call { callee := .builtin .append, args := #[s, x], argTypes := #[50, 50] })
    {B : Nat} {w : World} {v : Value} {n : Nat} {t : ByteArray} (hs : a.eval s = v) (hx : a.eval x = .slice (some ⟨w.heap.size, 0, none⟩) 1 1)
    (hown : OwnStrs B w v n) (hB : B ≤ w.heap.size) (hl : n ≤ 1000000000)
    (h : ∀ v' w', OwnStrs B w' v' (n + 1) → Below B w w' → wpList Tryd.prog ops Q rest (a.put o.dst v') w') :
    wpList Tryd.prog ops Q (o :: rest) a (w.alloc (.cells #[.string t] 9)) := by
  obtain ⟨i0, hi, hz0, hz1, hz2⟩ := info_parts info_str
  obtain ⟨xs, hown⟩ := hown
  have hown' : (w.alloc (.cells #[.string t] 9)).ownsRow B 9 1 v n xs := by
    obtain ⟨h1, h2⟩ := hown
    refine ⟨h1, ?_⟩
    rcases h2 with h2 | ⟨g, cap, cur, hv, hg, hh, r⟩
    · exact Or.inl h2
    · have hlt : g < w.heap.size := by
        rcases Nat.lt_or_ge g w.heap.size with h | h
        · exact h
        · rw [Array.getElem?_eq_none h] at hh; cases hh
      exact Or.inr ⟨g, cap, cur, hv, hg, (Below.heap_alloc w _ g hlt).trans hh, r⟩
  refine wpList_append_own _ hgd s x 50 ho B 9 i0 (.string ByteArray.empty) 1 16 Tryd.underlying50 hi hz0 hz1 hz2 rfl (by decide) v n xs hs hown'
    ⟨w.heap.size, 0, none⟩ 1 1 [.string t] hx rfl ?_ ?_ (by unfold maxLen; omega) (by omega) (by simp; omega) ?_
  · intro j u hj
    match j, hj with
    | 0, hj =>
      simp at hj
      subst hj
      show (w.alloc (.cells #[.string t] 9)).cell? ⟨w.heap.size, 0, none⟩ = _
      simp only [World.cell?]
      rw [show (w.alloc (.cells #[.string t] 9)).heap[w.heap.size]? = some (.cells #[.string t] 9 (0, 0)) from by show (w.heap.push _)[w.heap.size]? = _; simp]
      simp
    | j + 1, hj => simp at hj
  · intro u hu
    simp at hu
    subst hu
    rfl
  · intro v' w1 hown2 hgrow _
    refine h v' w1 ⟨_, hown2⟩ ?_
    refine Below.grown ((Below.refl B w).alloc hB _) hgrow (by simp; omega) fun k hk => ?_
    rcases hown.2 with ⟨hv, _⟩ | ⟨g, cap, cur, hv, hg, _⟩
    · rw [hv] at hk; cases hk
    · rw [hv] at hk
      simp only [Value.ownBlock, Option.some.injEq] at hk
      omega

theorem l1Split_any (s : ByteArray) (w : World) (hs : s.size ≤ 4000000) :
    Calls Tryd.prog 51 #[.string s, .int .u8 10] w fun e w' => (∃ a c, e = .returned (.slice (some a) (nl s.data.toList + 1) c) ∧ nl s.data.toList + 1 ≤ c) ∧ Below w.heap.size w w' := by
  go_enter Tryd.func51, Tryd.ntmps51
  go_wp2
  go_loopw [5, 6, 7] (fun o f k wr => ∃ (k' f' : Nat), k = .int .i64 k' ∧ f = .int .i64 f' ∧ k' ≤ s.size ∧ f' ≤ k' ∧ OwnStrs w.heap.size wr o (nlTo s k') ∧ Below w.heap.size w wr) (fun _ _ k _ => s.size - (intOf k).toNat)
  case atStart => exact ⟨0, 0, rfl, rfl, by omega, by omega, ⟨[], World.ownsRow_nil _ _ _ _⟩, Below.refl _ _⟩
  case round =>
    obtain ⟨k, f, rfl, rfl, hk, hf, ho, hb⟩ := hrel
    have HO := Lib.hid ho; have HB := Lib.hid hb
    have hsz := hb.size
    have hnk := nlTo_le s k
    clear ho hb
    by_cases hlt : k < s.size
    · have hsu := nlTo_succ s k hlt
      by_cases h10 : s[k] = 10
      · rw [if_pos h10] at hsu
        have HSU := Lib.hid hsu
        have hb10 : (((s[k].toNat : Nat) : Int) == 10) = true := by rw [h10]; rfl
        clear hsu h10
        go_wp2_with (at_builtin; refine app_str rfl _ _ rfl rfl rfl HO.out hsz (by omega) ?_; intro v' w1 hown' hbel')
        have HO2 := Lib.hid hown'; have HB2 := Lib.hid hbel'
        clear hown' hbel'
        go_wp2
        go_roundw
        case rel => exact ⟨k + 1, k + 1, by go_num, by go_num, by omega, by omega, by rw [HSU.out]; exact HO2.out, HB.out.trans HB2.out⟩
        case measure => simp [intOf]; omega
      · rw [if_neg h10, Nat.add_zero] at hsu
        have HSU := Lib.hid hsu
        have hb10 : (((s[k].toNat : Nat) : Int) == 10) = false := by
          rw [beq_eq_false_iff_ne]
          intro h
          apply h10
          exact UInt8.toNat_inj.1 (by have : s[k].toNat = 10 := by omega
                                      exact this)
        clear hsu h10
        go_wp2
        go_roundw
        case rel => exact ⟨k + 1, f, by go_num, by go_num, by omega, by omega, by rw [HSU.out]; exact HO.out, HB.out⟩
        case measure => simp [intOf]; omega
    · have hk1 : k = s.size := by omega
      subst hk1
      clear hlt
      go_wp2_with (at_builtin; refine app_str rfl _ _ rfl rfl rfl HO.out hsz (by omega) ?_; intro v' w1 hown' hbel')
      have HB2 := Lib.hid hbel'
      rw [nlTo_all] at hown'
      obtain ⟨xs, hx1, hx2⟩ := hown'
      rcases hx2 with ⟨_, h0⟩ | ⟨g, cap, cur, rfl, _, _, hcap, _⟩
      · exact absurd h0 (by omega)
      · have HCAP := Lib.hid hcap
        clear hbel' hx1 hcap
        go_wp2
        go_ret
        exact ⟨⟨_, _, rfl, HCAP.out⟩, HB.out.trans HB2.out⟩

end Go.Proofs.YtmnpcooaijpigaaDoor

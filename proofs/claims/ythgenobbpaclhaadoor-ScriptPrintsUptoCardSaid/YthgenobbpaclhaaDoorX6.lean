/- The text of a value; which values may be: the program's. -/
import Derived.Lib.SmallJoins
import Derived.Test.YthgenobbpaclhaaDoorRows
import Derived.WalkKit
import Derived.WalkSpells
import Derived.WalkLawsBesides
import Derived.Deep.QuietTactic
import Derived.BigQuiet
import Derived.Lib.Hide
import Derived.Lib.ConvBytes
import Derived.Deep.Slices
import Derived.ProofKit
import Derived.SizedLaws
import Derived.Test.YthgenobbpaclhaaDoorShelf
import Derived.Laws.BytesArg
import Derived.Laws.BitsLemmas
import Derived.Deep.RegionHeld3
import Derived.Deep.AppendLies
import Derived.Maps.AppendAt
import Derived.Lib.ItoaLen
import Derived.Test.YthgenobbpaclhaaDoorX5
set_option linter.unusedVariables false
set_option linter.unusedSimpArgs false
set_option linter.unnecessarySimpa false
namespace Go.Proofs.YthgenobbpaclhaaDoor
open Go.RowKit Go.Shelf
attribute [local go_sem] Oper.semAt_some

theorem kept_grow (w : World) (os : Array Obj) : Kept [] w (Sort.grow w os) :=
  ⟨rfl, rfl, rfl, by simp [Sort.grow], fun k hk _ => by
    show (w.heap ++ os)[k]? = w.heap[k]?
    rw [Array.getElem?_append_left hk]⟩
/-- The table of powers of ten stands. -/
def TabVar (w : World) : Prop := Lib.TabIs Tryd.prog w "internal/strconv.uint64pow10" .u64 Lib.pow10Tab
theorem globTab : Tryd.prog.globalNamed "internal/strconv.uint64pow10" = some 1 := by kernel_rfl
theorem TabVar.keep {w w' : World} (h : TabVar w) (hk : Kept [] w w') : TabVar w' := Joins.tab_stays globTab h hk.below (Nat.le_refl _)

set_option maxRecDepth 100000 in
set_option maxHeartbeats 1000000 in
theorem text_int (n : Int) (s : ByteArray) (h0 : -9223372036854775808 ≤ n) (h1 : n ≤ 9223372036854775807) (w : World) (ht : TabVar w) :
    Calls Tryd.prog 64 #[.agg #[.int .i64 1, .int .i64 n, .string s]] w fun e w' => e = .returned (.string ⟨(Lib.itoa n).toArray⟩) ∧ Kept [] w w' := by
  have HK0 := Lib.hid ((Kept.refl [] w).alloc (.cells #[.int .i64 1, .int .i64 n, .string s] 59))
  have HT := Lib.hid (ht.keep HK0.out)
  clear ht
  go_enter Tryd.func64, Tryd.ntmps64
  go_wp2_with fail
  refine (Tryd.strconv_FormatInt_10 n h0 h1 _ HT.out).mono ?_
  rintro e w1 ⟨rfl, k, os, hw⟩
  have HK1 : Hid (Kept [] w w1) := by show Kept [] w w1; rw [hw]; exact (HK0.out.drewN k).trans (kept_grow _ os)
  clear hw
  go_wp2_with fail
  go_ret
  exact ⟨rfl, HK1.out⟩
set_option maxRecDepth 100000 in
theorem text_other (k n : Int) (s : ByteArray) (h1 : k ≠ 1) (h2 : k ≠ 2) (w : World) :
    Calls Tryd.prog 64 #[.agg #[.int .i64 k, .int .i64 n, .string s]] w fun e w' => e = .returned (.string { data := #[63] }) ∧ Kept [] w w' := by
  have HK0 := Lib.hid ((Kept.refl [] w).alloc (.cells #[.int .i64 k, .int .i64 n, .string s] 59))
  have b1 : (k == 1) = false := by rw [beq_eq_false_iff_ne]; exact h1
  have b2 : (k == 2) = false := by rw [beq_eq_false_iff_ne]; exact h2
  clear h1 h2
  go_enter Tryd.func64, Tryd.ntmps64
  go_wp2_with fail
  go_ret
  exact ⟨rfl, HK0.out⟩
/-- A number of an int64's size; a text whose text has room. -/
def Fits (v : ValD) : Prop := -9223372036854775808 ≤ v.2.1 ∧ v.2.1 ≤ 9223372036854775807 ∧ 4 * v.2.2.size + 2 ≤ 140737488355328
theorem text_any (k n : Int) (s : ByteArray) (hf : Fits (k, n, s)) (w : World) (ht : TabVar w) :
    Calls Tryd.prog 64 #[.agg #[.int .i64 k, .int .i64 n, .string s]] w fun e w' => e = .returned (.string (textV (k, n, s))) ∧ Kept [] w w' := by
  by_cases h1 : k = 1
  · subst h1
    exact text_int n s hf.1 hf.2.1 w ht
  · by_cases h2 : k = 2
    · subst h2
      exact text_str 2 n s rfl hf.2.2 w
    · have e : textV (k, n, s) = { data := #[63] } := by unfold textV; rw [if_neg h1, if_neg h2]
      rw [e]
      exact text_other k n s h1 h2 w

set_option maxRecDepth 100000 in
set_option maxHeartbeats 2000000 in
theorem check_any (k n : Int) (s : ByteArray) (hs : s.size ≤ maxLen) (w : World) :
    Calls Tryd.prog 65 #[.agg #[.int .i64 k, .int .i64 n, .string s]] w fun e w' => e = .returned (.int .i64 (chkV (k, n, s))) ∧ Kept [] w w' := by
  unfold maxLen at hs
  have HK0 := Lib.hid ((Kept.refl [] w).alloc (.cells #[.int .i64 k, .int .i64 n, .string s] 59))
  obtain ⟨m, hm⟩ : ∃ m, s.size = m := ⟨_, rfl⟩
  have hl := len_at s hm
  have hem : s.toList.isEmpty = decide (m = 0) := by
    rw [← hm, size_eq]
    cases s.toList <;> simp
  have hee : (s.toList == ({ data := #[] } : ByteArray).toList) = decide (m = 0) := by
    have e0 : ({ data := #[] } : ByteArray).toList = [] := by rw [ByteArray.toList_eq]
    rw [e0, ← hem]
    cases s.toList <;> rfl
  have hem2 : (s.toList = []) = (m = 0) := by
    rw [← hm, size_eq]
    cases s.toList <;> simp
  obtain ⟨G, hG⟩ : ∃ G, chkV (k, n, s) = G := ⟨_, rfl⟩
  have HG : Hid (G = if (decide (k = 1) && decide (m = 0)) || (decide (k = 2) && (decide (n = 0) && decide (m ≤ 64))) then 0 else 30) := by show _ = _; rw [← hG, ← hm]; rfl
  rw [hG]
  rw [hm] at hs
  clear hm hG
  by_cases h1 : k = 1
  · subst h1
    by_cases hm0 : m = 0
    · have hE : Hid (G = 0) := by show _ = _; rw [HG.out]; simp [hm0]
      rw [hE.out]
      subst hm0
      clear HG hE
      go_enter Tryd.func65, Tryd.ntmps65
      go_wp2_with fail
      go_ret
      exact ⟨rfl, HK0.out⟩
    · have hE : Hid (G = 30) := by show _ = _; rw [HG.out]; simp [hm0]
      rw [hE.out]
      have hd : decide (m = 0) = false := decide_eq_false hm0
      rw [hd] at hem hee
      clear HG hE
      go_enter Tryd.func65, Tryd.ntmps65
      go_wp2_with fail
      go_ret
      exact ⟨rfl, HK0.out⟩
  · have b1 : (k == 1) = false := by rw [beq_eq_false_iff_ne]; exact h1
    by_cases h2 : k = 2
    · subst h2
      by_cases hn : n = 0
      · subst hn
        by_cases h64 : m ≤ 64
        · have hE : Hid (G = 0) := by show _ = _; rw [HG.out]; simp [h64]
          rw [hE.out]
          clear HG hE h1
          go_enter Tryd.func65, Tryd.ntmps65
          go_wp2_with fail
          go_ret
          exact ⟨rfl, HK0.out⟩
        · have hE : Hid (G = 30) := by show _ = _; rw [HG.out]; simp [h64]
          rw [hE.out]
          clear HG hE h1
          go_enter Tryd.func65, Tryd.ntmps65
          go_wp2_with fail
          go_ret
          exact ⟨rfl, HK0.out⟩
      · have bn : (n == 0) = false := by rw [beq_eq_false_iff_ne]; exact hn
        have hE : Hid (G = 30) := by show _ = _; rw [HG.out]; simp [hn]
        rw [hE.out]
        clear HG hE h1 hn
        go_enter Tryd.func65, Tryd.ntmps65
        go_wp2_with fail
        go_ret
        exact ⟨rfl, HK0.out⟩
    · have b2 : (k == 2) = false := by rw [beq_eq_false_iff_ne]; exact h2
      have hE : Hid (G = 30) := by show _ = _; rw [HG.out]; simp [h1, h2]
      rw [hE.out]
      clear HG hE h1 h2
      go_enter Tryd.func65, Tryd.ntmps65
      go_wp2_with fail
      go_ret
      exact ⟨rfl, HK0.out⟩

set_option maxRecDepth 100000 in
set_option maxHeartbeats 2000000 in
theorem rcheck_any (k n : Int) (s : ByteArray) (hs : s.size ≤ maxLen) (w : World) :
    Calls Tryd.prog 61 #[.agg #[.int .i64 k, .int .i64 n, .string s]] w fun e w' => e = .returned (.int .i64 (chkV (k, n, s))) ∧ Kept [] w w' := by
  unfold maxLen at hs
  have HK0 := Lib.hid ((Kept.refl [] w).alloc (.cells #[.int .i64 k, .int .i64 n, .string s] 59))
  obtain ⟨m, hm⟩ : ∃ m, s.size = m := ⟨_, rfl⟩
  have hl := len_at s hm
  have hem : s.toList.isEmpty = decide (m = 0) := by
    rw [← hm, size_eq]
    cases s.toList <;> simp
  have hee : (s.toList == ({ data := #[] } : ByteArray).toList) = decide (m = 0) := by
    have e0 : ({ data := #[] } : ByteArray).toList = [] := by rw [ByteArray.toList_eq]
    rw [e0, ← hem]
    cases s.toList <;> rfl
  have hem2 : (s.toList = []) = (m = 0) := by
    rw [← hm, size_eq]
    cases s.toList <;> simp
  obtain ⟨G, hG⟩ : ∃ G, chkV (k, n, s) = G := ⟨_, rfl⟩
  have HG : Hid (G = if (decide (k = 1) && decide (m = 0)) || (decide (k = 2) && (decide (n = 0) && decide (m ≤ 64))) then 0 else 30) := by show _ = _; rw [← hG, ← hm]; rfl
  rw [hG]
  rw [hm] at hs
  clear hm hG
  by_cases h1 : k = 1
  · subst h1
    by_cases hm0 : m = 0
    · have hE : Hid (G = 0) := by show _ = _; rw [HG.out]; simp [hm0]
      rw [hE.out]
      subst hm0
      clear HG hE
      go_enter Tryd.func61, Tryd.ntmps61
      go_wp2_with fail
      go_ret
      exact ⟨rfl, HK0.out⟩
    · have hE : Hid (G = 30) := by show _ = _; rw [HG.out]; simp [hm0]
      rw [hE.out]
      have hd : decide (m = 0) = false := decide_eq_false hm0
      rw [hd] at hem hee
      clear HG hE
      go_enter Tryd.func61, Tryd.ntmps61
      go_wp2_with fail
      go_ret
      exact ⟨rfl, HK0.out⟩
  · have b1 : (k == 1) = false := by rw [beq_eq_false_iff_ne]; exact h1
    by_cases h2 : k = 2
    · subst h2
      by_cases hn : n = 0
      · subst hn
        by_cases h64 : m ≤ 64
        · have hE : Hid (G = 0) := by show _ = _; rw [HG.out]; simp [h64]
          rw [hE.out]
          clear HG hE h1
          go_enter Tryd.func61, Tryd.ntmps61
          go_wp2_with fail
          go_ret
          exact ⟨rfl, HK0.out⟩
        · have hE : Hid (G = 30) := by show _ = _; rw [HG.out]; simp [h64]
          rw [hE.out]
          clear HG hE h1
          go_enter Tryd.func61, Tryd.ntmps61
          go_wp2_with fail
          go_ret
          exact ⟨rfl, HK0.out⟩
      · have bn : (n == 0) = false := by rw [beq_eq_false_iff_ne]; exact hn
        have hE : Hid (G = 30) := by show _ = _; rw [HG.out]; simp [hn]
        rw [hE.out]
        clear HG hE h1 hn
        go_enter Tryd.func61, Tryd.ntmps61
        go_wp2_with fail
        go_ret
        exact ⟨rfl, HK0.out⟩
    · have b2 : (k == 2) = false := by rw [beq_eq_false_iff_ne]; exact h2
      have hE : Hid (G = 30) := by show _ = _; rw [HG.out]; simp [h1, h2]
      rw [hE.out]
      clear HG hE h1 h2
      go_enter Tryd.func61, Tryd.ntmps61
      go_wp2_with fail
      go_ret
      exact ⟨rfl, HK0.out⟩

end Go.Proofs.YthgenobbpaclhaaDoor

/- Where a string ends; blanks: the document's and the program's. -/
import Derived.Test.YtmkpbffjgpoplaaDoorShelf
import Derived.Test.YtmkpbffjgpoplaaDoorRows
import Derived.WalkKit
import Derived.WalkSpells
import Derived.WalkLawsBesides
import Derived.Deep.QuietTactic
import Derived.BigQuiet
import Derived.Lib.Hide
import Derived.Lib.ConvBytes
import Derived.Deep.Slices
import Derived.ProofKit
import Derived.SizedLaws
import Derived.Laws.BytesArg
import Derived.Laws.BitsLemmas
import Derived.Deep.RegionHeld3
import Derived.Deep.AppendLies
import Derived.Maps.AppendAt
import Derived.Lib.ItoaLen
import Derived.Lib.SmallJoins
import Derived.Test.YtmkpbffjgpoplaaDoorE1
set_option linter.unusedVariables false
set_option linter.unusedSimpArgs false
set_option linter.unnecessarySimpa false
namespace Go.Proofs.YtmkpbffjgpoplaaDoor
open Go.RowKit Go.Shelf
attribute [local go_sem] Oper.semAt_some

theorem closGo_back {s : ByteArray} {n k : Nat} (hk : k < n) (hc : byt s k = 92) : closGo s (n - k) k = closGo s (n - (k + 2)) (k + 2) := by
  by_cases h : k + 1 < n
  · rw [show n - k = (n - (k + 2)) + 2 by omega, closGo, if_pos hc]
  · rw [show n - k = 1 by omega, show n - (k + 2) = 0 by omega, closGo, closGo, if_neg (by omega)]
theorem closGo_hit {s : ByteArray} {n k : Nat} (hk : k < n) (hc : byt s k = 34) : closGo s (n - k) k = some (k + 1) := by
  by_cases h : k + 1 < n
  · rw [show n - k = (n - (k + 2)) + 2 by omega, closGo, if_neg (by omega), if_pos hc]
  · rw [show n - k = 1 by omega, closGo, if_pos hc]
theorem closGo_next {s : ByteArray} {n k : Nat} {c : Int} (hk : k < n) (hc : byt s k = c) (h1 : c ≠ 92) (h2 : c ≠ 34) : closGo s (n - k) k = closGo s (n - (k + 1)) (k + 1) := by
  by_cases h : k + 1 < n
  · rw [show n - k = (n - (k + 2)) + 2 by omega, closGo, if_neg (by omega), if_neg (by omega)]
    congr 1
    omega
  · rw [show n - k = 1 by omega, show n - (k + 1) = 0 by omega, closGo, closGo, if_neg (by omega)]
theorem closGo_end {s : ByteArray} {n k : Nat} (hk : ¬ k < n) : closGo s (n - k) k = none := by
  rw [show n - k = 0 by omega, closGo]
/-- What closes hands back. -/
def ClosPost (w : World) (V : Option Nat) (e : Ending) (w' : World) : Prop := (match V with | some x => e = .returned (.tuple #[.int .i64 x, .bool true]) | none => e = .returned (.tuple #[.int .i64 0, .bool false])) ∧ w = w'
def QuotPost (w : World) (V : Option Nat) (e : Ending) (w' : World) : Prop := (match V with | some x => e = .returned (.int .i64 x) | none => e = .returned (.int .i64 0)) ∧ w = w'
theorem ClosPost.some {w : World} {V : Option Nat} {x : Int} {k : Nat} (h : V = some k) (hx : x = k) : ClosPost w V (.returned (.tuple #[.int .i64 x, .bool true])) w := by subst h hx; exact ⟨rfl, rfl⟩
theorem ClosPost.none {w : World} {V : Option Nat} (h : V = none) : ClosPost w V (.returned (.tuple #[.int .i64 0, .bool false])) w := by subst h; exact ⟨rfl, rfl⟩
theorem QuotPost.some {w : World} {V : Option Nat} {x : Int} {k : Nat} (h : V = some k) (hx : x = k) : QuotPost w V (.returned (.int .i64 x)) w := by subst h hx; exact ⟨rfl, rfl⟩
theorem QuotPost.none {w : World} {V : Option Nat} (h : V = none) : QuotPost w V (.returned (.int .i64 0)) w := by subst h; exact ⟨rfl, rfl⟩

set_option maxRecDepth 100000 in
set_option maxHeartbeats 4000000 in
theorem rcloses_any (s : ByteArray) (k : Nat) (hk : k < s.size) (hs : s.size ≤ 140737488351232) (w : World) : Calls Tryd.prog 37 #[.string s, .int .i64 k] w (ClosPost w (closGo s (s.size - (k + 1)) (k + 1))) := by
  obtain ⟨n, hn⟩ : ∃ n, s.size = n := ⟨_, rfl⟩
  have IX := Lib.hid (fun k (h : k < n) w => index_at s k (by rw [hn]; exact h) w)
  have HN := Lib.hid hn
  have hl := len_at s hn
  obtain ⟨V, hV⟩ : ∃ V, closGo s (s.size - (k + 1)) (k + 1) = V := ⟨_, rfl⟩
  have HV0 : Hid (closGo s (n - (k + 1)) (k + 1) = V) := by show _ = _; rw [← hV, ← hn]
  rw [hV]
  rw [hn] at hk hs
  clear hn hV
  go_enter Tryd.func37, Tryd.ntmps37
  go_wp2_with fail
  go_loopw [6] (fun ii wr => ∃ j : Nat, ii = .int .i64 j ∧ j ≤ n + 1 ∧ closGo s (n - j) j = V ∧ w = wr) (fun ii _ => n + 1 - (intOf ii).toNat)
  case atStart => exact ⟨k + 1, by first | rfl | (go_num; done) | (simp; done), by omega, HV0.out, rfl⟩
  case round =>
    obtain ⟨j, rfl, hj, hv, rfl⟩ := hrel
    have HV := Lib.hid hv
    clear hv
    by_cases hlt : j < n
    · have hix := fun w => IX.out j hlt w
      obtain ⟨c, hc⟩ : ∃ c, byt s j = c := ⟨_, rfl⟩
      rw [hc] at hix
      have HC := Lib.hid hc
      clear hc
      by_cases h1 : c = 92
      · subst h1
        have HN1 := Lib.hid (closGo_back hlt HC.out)
        go_wp2_with fail
        go_roundw
        case rel => exact ⟨j + 2, by simp; omega, by omega, by rw [← HN1.out]; exact HV.out, by first | trivial | rfl⟩
        case measure => simp [intOf]; omega
      · have b1 : (c == 92) = false := by rw [beq_eq_false_iff_ne]; exact h1
        by_cases h2 : c = 34
        · subst h2
          have HN1 := Lib.hid (closGo_hit hlt HC.out)
          go_wp2_with fail
          go_ret2
          exact ClosPost.some (HV.out.symm.trans HN1.out) (by first | rfl | simp)
        · have b2 : (c == 34) = false := by rw [beq_eq_false_iff_ne]; exact h2
          have HN1 := Lib.hid (closGo_next hlt HC.out h1 h2)
          clear h1 h2
          go_wp2_with fail
          go_roundw
          case rel => exact ⟨j + 1, by go_num, by omega, by rw [← HN1.out]; exact HV.out, by first | trivial | rfl⟩
          case measure => simp [intOf]; omega
    · have HN1 := Lib.hid (closGo_end (s := s) hlt)
      go_wp2_with fail
      go_ret2
      exact ClosPost.none (HV.out.symm.trans HN1.out)
set_option maxRecDepth 100000 in
set_option maxHeartbeats 4000000 in
theorem lquoted_any (s : ByteArray) (hs : s.size ≤ 140737488351232) (w : World) : Calls Tryd.prog 55 #[.string s] w (QuotPost w (closGo s (s.size - 1) 1)) := by
  obtain ⟨n, hn⟩ : ∃ n, s.size = n := ⟨_, rfl⟩
  have IX := Lib.hid (fun k (h : k < n) w => index_at s k (by rw [hn]; exact h) w)
  have HN := Lib.hid hn
  have hl := len_at s hn
  obtain ⟨k, hk0⟩ : ∃ k, k = 0 := ⟨0, rfl⟩
  obtain ⟨V, hV⟩ : ∃ V, closGo s (s.size - 1) 1 = V := ⟨_, rfl⟩
  have HV0 : Hid (closGo s (n - (k + 1)) (k + 1) = V) := by show _ = _; rw [← hV, ← hn, hk0]
  rw [hV]
  rw [hn] at hs
  subst hk0
  clear hn hV
  go_enter Tryd.func55, Tryd.ntmps55
  go_wp2_with fail
  go_loopw [3] (fun ii wr => ∃ j : Nat, ii = .int .i64 j ∧ j ≤ n + 2 ∧ closGo s (n - j) j = V ∧ w = wr) (fun ii _ => n + 2 - (intOf ii).toNat)
  case atStart => exact ⟨1, rfl, by omega, HV0.out, rfl⟩
  case round =>
    obtain ⟨j, rfl, hj, hv, rfl⟩ := hrel
    have HV := Lib.hid hv
    clear hv
    by_cases hlt : j < n
    · have hix := fun w => IX.out j hlt w
      obtain ⟨c, hc⟩ : ∃ c, byt s j = c := ⟨_, rfl⟩
      rw [hc] at hix
      have HC := Lib.hid hc
      clear hc
      by_cases h1 : c = 92
      · subst h1
        have HN1 := Lib.hid (closGo_back hlt HC.out)
        go_wp2_with fail
        go_roundw
        case rel => exact ⟨j + 2, by simp; omega, by omega, by rw [← HN1.out]; exact HV.out, by first | trivial | rfl⟩
        case measure => simp [intOf]; omega
      · have b1 : (c == 92) = false := by rw [beq_eq_false_iff_ne]; exact h1
        by_cases h2 : c = 34
        · subst h2
          have HN1 := Lib.hid (closGo_hit hlt HC.out)
          go_wp2_with fail
          go_ret
          exact QuotPost.some (HV.out.symm.trans HN1.out) (by first | rfl | simp)
        · have b2 : (c == 34) = false := by rw [beq_eq_false_iff_ne]; exact h2
          have HN1 := Lib.hid (closGo_next hlt HC.out h1 h2)
          clear h1 h2
          go_wp2_with fail
          go_roundw
          case rel => exact ⟨j + 1, by go_num, by omega, by rw [← HN1.out]; exact HV.out, by first | trivial | rfl⟩
          case measure => simp [intOf]; omega
    · have HN1 := Lib.hid (closGo_end (s := s) hlt)
      go_wp2_with fail
      go_ret
      exact QuotPost.none (HV.out.symm.trans HN1.out)

end Go.Proofs.YtmkpbffjgpoplaaDoor

/- Letters, digits, blanks, runs: the document's and the program's. -/
import Derived.Test.YtmkpbffjgpoplaaDoorRows
import Derived.WalkKit
import Derived.WalkSpells
import Derived.WalkLawsBesides
import Derived.Deep.QuietTactic
import Derived.BigQuiet
import Derived.Lib.Hide
import Derived.Lib.ConvBytes
import Derived.Deep.Slices
import Derived.ProofKit
import Derived.SizedLaws
import Derived.Test.YtmkpbffjgpoplaaDoorShelf
import Derived.Laws.BytesArg
import Derived.Laws.BitsLemmas
import Derived.Deep.RegionHeld3
import Derived.Deep.AppendLies
import Derived.Maps.AppendAt
import Derived.Lib.ItoaLen
import Derived.Lib.SmallJoins
import Derived.Test.YtmkpbffjgpoplaaDoorE1
set_option linter.unusedVariables false
set_option linter.unusedSimpArgs false
set_option linter.unnecessarySimpa false
namespace Go.Proofs.YtmkpbffjgpoplaaDoor
open Go.RowKit Go.Shelf
attribute [local go_sem] Oper.semAt_some

set_option maxRecDepth 100000 in
set_option maxHeartbeats 2000000 in
theorem rletter05 (c : Int) (w : World) : Calls Tryd.prog 33 #[.int .u8 c] w fun e w' => e = .returned (.bool (letterV c)) ∧ w = w' := by
  rcases c_classes c with h | h | h | h | h | h | h | h | h
  all_goals
    obtain ⟨g, hg⟩ : ∃ g, letterV c = g := ⟨_, rfl⟩
    rw [hg]
    have HG := Lib.hid hg
    clear hg
    first | have h1 : 97 ≤ c := by omega
          | have h1 : ¬ 97 ≤ c := by omega
    first | have h2 : c ≤ 122 := by omega
          | have h2 : ¬ c ≤ 122 := by omega
    first | have h3 : 65 ≤ c := by omega
          | have h3 : ¬ 65 ≤ c := by omega
    first | have h4 : c ≤ 90 := by omega
          | have h4 : ¬ c ≤ 90 := by omega
    first | have h5 : c = 95 := by omega
          | have h5 : ¬ c = 95 := by omega
    go_enter Tryd.func33, Tryd.ntmps33
    go_wp2_with fail
    go_ret
    refine ⟨ret_bool ?_, rfl⟩
    rw [← HG.out]
    unfold letterV
    rw [Bool.eq_iff_iff]
    simp
    omega
set_option maxRecDepth 100000 in
set_option maxHeartbeats 2000000 in
theorem lletter (c : Int) (w : World) : Calls Tryd.prog 50 #[.int .u8 c] w fun e w' => e = .returned (.bool (letterV c)) ∧ w = w' := by
  rcases c_classes c with h | h | h | h | h | h | h | h | h
  all_goals
    obtain ⟨g, hg⟩ : ∃ g, letterV c = g := ⟨_, rfl⟩
    rw [hg]
    have HG := Lib.hid hg
    clear hg
    first | have h1 : 97 ≤ c := by omega
          | have h1 : ¬ 97 ≤ c := by omega
    first | have h2 : c ≤ 122 := by omega
          | have h2 : ¬ c ≤ 122 := by omega
    first | have h3 : 65 ≤ c := by omega
          | have h3 : ¬ 65 ≤ c := by omega
    first | have h4 : c ≤ 90 := by omega
          | have h4 : ¬ c ≤ 90 := by omega
    first | have h5 : c = 95 := by omega
          | have h5 : ¬ c = 95 := by omega
    go_enter Tryd.func50, Tryd.ntmps50
    go_wp2_with fail
    go_ret
    refine ⟨ret_bool ?_, rfl⟩
    rw [← HG.out]
    unfold letterV
    rw [Bool.eq_iff_iff]
    simp
    omega
set_option maxRecDepth 100000 in
theorem rdigit05 (c : Int) (w : World) : Calls Tryd.prog 36 #[.int .u8 c] w fun e w' => e = .returned (.bool (digitV c)) ∧ w = w' := by
  have hc : c < 48 ∨ (48 ≤ c ∧ c ≤ 57) ∨ 57 < c := by omega
  rcases hc with h | h | h
  all_goals
    obtain ⟨g, hg⟩ : ∃ g, digitV c = g := ⟨_, rfl⟩
    rw [hg]
    have HG := Lib.hid hg
    clear hg
    first | have h1 : 48 ≤ c := by omega
          | have h1 : ¬ 48 ≤ c := by omega
    first | have h2 : c ≤ 57 := by omega
          | have h2 : ¬ c ≤ 57 := by omega
    go_enter Tryd.func36, Tryd.ntmps36
    go_wp2_with fail
    go_ret
    refine ⟨ret_bool ?_, rfl⟩
    rw [← HG.out]
    unfold digitV
    rw [Bool.eq_iff_iff]
    simp
    omega
set_option maxRecDepth 100000 in
theorem ldigit (c : Int) (w : World) : Calls Tryd.prog 53 #[.int .u8 c] w fun e w' => e = .returned (.bool (digitV c)) ∧ w = w' := by
  have hc : c < 48 ∨ (48 ≤ c ∧ c ≤ 57) ∨ 57 < c := by omega
  rcases hc with h | h | h
  all_goals
    obtain ⟨g, hg⟩ : ∃ g, digitV c = g := ⟨_, rfl⟩
    rw [hg]
    have HG := Lib.hid hg
    clear hg
    first | have h1 : 48 ≤ c := by omega
          | have h1 : ¬ 48 ≤ c := by omega
    first | have h2 : c ≤ 57 := by omega
          | have h2 : ¬ c ≤ 57 := by omega
    go_enter Tryd.func53, Tryd.ntmps53
    go_wp2_with fail
    go_ret
    refine ⟨ret_bool ?_, rfl⟩
    rw [← HG.out]
    unfold digitV
    rw [Bool.eq_iff_iff]
    simp
    omega
set_option maxRecDepth 100000 in
theorem rblank05 (c : Int) (w : World) : Calls Tryd.prog 28 #[.int .u8 c] w fun e w' => e = .returned (.bool (blkB c)) ∧ w = w' := by
  have hc : c = 32 ∨ c = 9 ∨ c = 10 ∨ c = 13 ∨ (c ≠ 32 ∧ c ≠ 9 ∧ c ≠ 10 ∧ c ≠ 13) := by omega
  rcases hc with rfl | rfl | rfl | rfl | ⟨h1, h2, h3, h4⟩
  all_goals try (go_enter Tryd.func28, Tryd.ntmps28; go_wp2_with fail; go_ret; exact ⟨rfl, rfl⟩)

theorem runGo_step {s : ByteArray} {l : Bool} {n k : Nat} {c : Int} (hn : s.size = n) (hk : k < n) (hc : byt s k = c) (h : (digitV c || (l && letterV c)) = true) : runGo s l (n - k) k = runGo s l (n - (k + 1)) (k + 1) := by
  rw [show n - k = (n - (k + 1)) + 1 by omega, runGo, hc, if_pos h]
theorem runGo_stop {s : ByteArray} {l : Bool} {n k : Nat} {c : Int} (hn : s.size = n) (hk : k < n) (hc : byt s k = c) (h : (digitV c || (l && letterV c)) = false) : runGo s l (n - k) k = k := by
  rw [show n - k = (n - (k + 1)) + 1 by omega, runGo, hc, if_neg (by rw [h]; simp)]
theorem runGo_end {s : ByteArray} {l : Bool} {n k : Nat} (hk : ¬ k < n) : runGo s l (n - k) k = k := by
  rw [show n - k = 0 by omega, runGo]

set_option maxRecDepth 100000 in
set_option maxHeartbeats 4000000 in
theorem rrun_any (s : ByteArray) (k : Nat) (l : Bool) (hk : k ≤ s.size) (hs : s.size ≤ 140737488351232) (w : World) : Calls Tryd.prog 34 #[.string s, .int .i64 k, .bool l] w fun e w' => e = .returned (.int .i64 (runV s l k)) ∧ w = w' := by
  obtain ⟨n, hn⟩ : ∃ n, s.size = n := ⟨_, rfl⟩
  have IX := Lib.hid (fun k (h : k < n) w => index_at s k (by rw [hn]; exact h) w)
  have HN := Lib.hid hn
  have hl := len_at s hn
  have HDG : Hid (∀ (z : Int) (W : World), Calls Tryd.prog 36 #[.int .u8 z] W fun e w' => e = .returned (.bool (digitV z)) ∧ W = w') := rdigit05
  have HLT : Hid (∀ (z : Int) (W : World), Calls Tryd.prog 33 #[.int .u8 z] W fun e w' => e = .returned (.bool (letterV z)) ∧ W = w') := rletter05
  obtain ⟨V, hV⟩ : ∃ V, runV s l k = V := ⟨_, rfl⟩
  have HV0 : Hid (runGo s l (n - k) k = V) := by show _ = _; rw [← hV, ← hn]; rfl
  rw [hV]
  rw [hn] at hk hs
  clear hn hV
  go_enter Tryd.func34, Tryd.ntmps34
  go_wp2_with fail
  go_loopw [1] (fun ii wr => ∃ j : Nat, ii = .int .i64 j ∧ j ≤ n ∧ runGo s l (n - j) j = V ∧ w = wr) (fun ii _ => n - (intOf ii).toNat)
  case atStart => exact ⟨k, rfl, hk, HV0.out, rfl⟩
  case round =>
    obtain ⟨j, rfl, hj, hv, rfl⟩ := hrel
    have HV := Lib.hid hv
    clear hv
    by_cases hlt : j < n
    · have hix := fun w => IX.out j hlt w
      obtain ⟨c, hc⟩ : ∃ c, byt s j = c := ⟨_, rfl⟩
      rw [hc] at hix
      have HC := Lib.hid hc
      clear hc
      go_wp2_with fail
      refine (HDG.out c _).mono ?_
      rintro e w1 ⟨rfl, rfl⟩
      cases hd : digitV c with
      | true =>
        have HD := Lib.hid hd
        have HL : Hid True := trivial
        clear hd
        go_wp2_with fail
        have HN1 := Lib.hid (runGo_step (l := l) HN.out hlt HC.out (by simp [HD.out, HL.out]))
        go_roundw
        case rel => exact ⟨j + 1, by go_num, by omega, by rw [← HN1.out]; exact HV.out, by first | trivial | rfl⟩
        case measure => simp [intOf]; omega
      | false =>
        have HD := Lib.hid hd
        clear hd
        cases l with
        | false =>
          have HL : Hid True := trivial
          go_wp2_with fail
          have HN1 := Lib.hid (runGo_stop (l := false) HN.out hlt HC.out (by simp [HD.out, HL.out]))
          go_ret
          exact ⟨by rw [← HV.out, HN1.out] <;> rfl, rfl⟩
        | true =>
          go_wp2_with fail
          refine (HLT.out c _).mono ?_
          rintro e w1 ⟨rfl, rfl⟩
          cases hlc : letterV c with
          | true =>
            have HL := Lib.hid hlc
            clear hlc
            go_wp2_with fail
            have HN1 := Lib.hid (runGo_step (l := true) HN.out hlt HC.out (by simp [HD.out, HL.out]))
            go_roundw
            case rel => exact ⟨j + 1, by go_num, by omega, by rw [← HN1.out]; exact HV.out, by first | trivial | rfl⟩
            case measure => simp [intOf]; omega
          | false =>
            have HL := Lib.hid hlc
            clear hlc
            go_wp2_with fail
            have HN1 := Lib.hid (runGo_stop (l := true) HN.out hlt HC.out (by simp [HD.out, HL.out]))
            go_ret
            exact ⟨by rw [← HV.out, HN1.out] <;> rfl, rfl⟩
    · have HN1 := Lib.hid (runGo_end (s := s) (l := l) hlt)
      go_wp2_with fail
      go_ret
      exact ⟨by rw [← HV.out, HN1.out] <;> rfl, rfl⟩

end Go.Proofs.YtmkpbffjgpoplaaDoor

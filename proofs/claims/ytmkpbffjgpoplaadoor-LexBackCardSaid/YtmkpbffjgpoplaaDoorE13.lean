/- Runs of letters: the program's, with the test handed in. -/
import Derived.Test.YtmkpbffjgpoplaaDoorRows
import Derived.WalkKit
import Derived.WalkSpells
import Derived.WalkLawsBesides
import Derived.Deep.QuietTactic
import Derived.BigQuiet
import Derived.Lib.Hide
import Derived.Lib.ConvBytes
import Derived.Deep.Slices
import Derived.ProofKit
import Derived.SizedLaws
import Derived.Test.YtmkpbffjgpoplaaDoorShelf
import Derived.Laws.BytesArg
import Derived.Laws.BitsLemmas
import Derived.Deep.RegionHeld3
import Derived.Deep.AppendLies
import Derived.Maps.AppendAt
import Derived.Lib.ItoaLen
import Derived.Laws.Runes
import Derived.Laws.Concat
import Derived.Laws.Cover4
import Derived.Lib.SmallJoins
import Derived.Laws.AppendOwnNone
import Derived.Deep.DeepCutAuto
import Derived.Test.YtmkpbffjgpoplaaDoorE2
set_option linter.unusedVariables false
set_option linter.unusedSimpArgs false
set_option linter.unnecessarySimpa false
namespace Go.Proofs.YtmkpbffjgpoplaaDoor
open Go.RowKit Go.Shelf
attribute [local go_sem] Oper.semAt_some

set_option maxRecDepth 100000 in
set_option maxHeartbeats 2000000 in
/-- The test of names: a letter or a digit. -/
theorem ltest_any (c : Int) (w : World) : Calls Tryd.prog 52 #[.int .u8 c] w fun e w' => e = .returned (.bool (digitV c || (true && letterV c))) ∧ w = w' := by
  have HDG : Hid (∀ (z : Int) (W : World), Calls Tryd.prog 53 #[.int .u8 z] W fun e w' => e = .returned (.bool (digitV z)) ∧ W = w') := ldigit
  have HLT : Hid (∀ (z : Int) (W : World), Calls Tryd.prog 50 #[.int .u8 z] W fun e w' => e = .returned (.bool (letterV z)) ∧ W = w') := lletter
  obtain ⟨G, hG⟩ : ∃ G, (digitV c || (true && letterV c)) = G := ⟨_, rfl⟩
  rw [hG]
  have HG := Lib.hid hG
  clear hG
  go_enter Tryd.func52, Tryd.ntmps52
  go_wp2_with fail
  refine (HLT.out c _).mono ?_
  rintro e w1 ⟨rfl, rfl⟩
  cases hl : letterV c with
  | true =>
    have HE : Hid (G = true) := by show _ = _; rw [← HG.out, hl]; simp
    clear hl HG
    go_wp2_with fail
    go_ret
    exact ⟨by rw [HE.out] <;> rfl, rfl⟩
  | false =>
    have HE : Hid (G = digitV c) := by show _ = _; rw [← HG.out, hl]; simp
    clear hl HG
    go_wp2_with fail
    refine (HDG.out c _).mono ?_
    rintro e w1 ⟨rfl, rfl⟩
    go_wp2_with fail
    go_ret
    exact ⟨by rw [HE.out] <;> rfl, rfl⟩

set_option maxRecDepth 100000 in
set_option maxHeartbeats 4000000 in
theorem lrun_any (gf : Nat) (l : Bool) (eg : ∀ args w, (callFunc gf args).run Tryd.prog w = .ok (.enter gf args) w) (hp : ∀ (c : Int) (W : World), Calls Tryd.prog gf #[.int .u8 c] W fun e w' => e = .returned (.bool (digitV c || (l && letterV c))) ∧ W = w')
    (s : ByteArray) (hs : s.size ≤ 140737488351232) (w : World) : Calls Tryd.prog 51 #[.string s, .func (.func gf) #[] #[]] w fun e w' => e = .returned (.int .i64 (runV s l 0)) ∧ w = w' := by
  obtain ⟨n, hn⟩ : ∃ n, s.size = n := ⟨_, rfl⟩
  have IX := Lib.hid (fun k (h : k < n) w => index_at s k (by rw [hn]; exact h) w)
  have HN := Lib.hid hn
  have hl := len_at s hn
  have HPP := Lib.hid hp
  obtain ⟨V, hV⟩ : ∃ V, runV s l 0 = V := ⟨_, rfl⟩
  have HV0 : Hid (runGo s l (n - 0) 0 = V) := by show _ = _; rw [← hV, ← hn]; rfl
  rw [hV]
  rw [hn] at hs
  clear hn hV hp
  go_enter Tryd.func51, Tryd.ntmps51
  go_wp2_with fail
  go_loopw [5] (fun ii wr => ∃ j : Nat, ii = .int .i64 j ∧ j ≤ n ∧ runGo s l (n - j) j = V ∧ w = wr) (fun ii _ => n - (intOf ii).toNat)
  case atStart => exact ⟨0, rfl, Nat.zero_le _, HV0.out, rfl⟩
  case round =>
    obtain ⟨j, rfl, hj, hv, rfl⟩ := hrel
    have HV := Lib.hid hv
    clear hv
    by_cases hlt : j < n
    · have hix := fun w => IX.out j hlt w
      obtain ⟨c, hc⟩ : ∃ c, byt s j = c := ⟨_, rfl⟩
      rw [hc] at hix
      have HC := Lib.hid hc
      clear hc
      go_wp2_with fail
      refine (HPP.out c _).mono ?_
      rintro e w1 ⟨rfl, rfl⟩
      cases hd : (digitV c || (l && letterV c)) with
      | true =>
        have HN1 := Lib.hid (runGo_step HN.out hlt HC.out hd)
        clear hd
        go_wp2_with fail
        go_roundw
        case rel => exact ⟨j + 1, by go_num, by omega, by rw [← HN1.out]; exact HV.out, by first | trivial | rfl⟩
        case measure => simp [intOf]; omega
      | false =>
        have HN1 := Lib.hid (runGo_stop HN.out hlt HC.out hd)
        clear hd
        go_wp2_with fail
        go_ret
        exact ⟨by rw [← HV.out, HN1.out] <;> rfl, rfl⟩
    · have HN1 := Lib.hid (runGo_end (s := s) (l := l) hlt)
      go_wp2_with fail
      go_ret
      exact ⟨by rw [← HV.out, HN1.out] <;> rfl, rfl⟩
set_option maxRecDepth 100000 in
theorem lrun_name (s : ByteArray) (hs : s.size ≤ 140737488351232) (w : World) : Calls Tryd.prog 51 #[.string s, .func (.func 52) #[] #[]] w fun e w' => e = .returned (.int .i64 (runV s true 0)) ∧ w = w' :=
  lrun_any 52 true (fun _ _ => rfl) ltest_any s hs w
set_option maxRecDepth 100000 in
theorem lrun_digit (s : ByteArray) (hs : s.size ≤ 140737488351232) (w : World) : Calls Tryd.prog 51 #[.string s, .func (.func 53) #[] #[]] w fun e w' => e = .returned (.int .i64 (runV s false 0)) ∧ w = w' :=
  lrun_any 53 false (fun _ _ => rfl) (fun c W => by have h := ldigit c W; simpa using h) s hs w

end Go.Proofs.YtmkpbffjgpoplaaDoor

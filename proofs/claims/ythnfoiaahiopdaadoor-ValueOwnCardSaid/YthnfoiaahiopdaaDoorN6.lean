/- Names, walked: the document's. -/
import Derived.Test.YthnfoiaahiopdaaDoorRows
import Derived.WalkKit
import Derived.WalkSpells
import Derived.WalkLawsBesides
import Derived.Deep.QuietTactic
import Derived.BigQuiet
import Derived.Lib.Hide
import Derived.Lib.ConvBytes
import Derived.Deep.Slices
import Derived.ProofKit
import Derived.SizedLaws
import Derived.Test.YthnfoiaahiopdaaDoorShelf
import Derived.Test.YthnfoiaahiopdaaDoorN5
set_option linter.unusedVariables false
set_option linter.unusedSimpArgs false
set_option linter.unnecessarySimpa false
namespace Go.Proofs.YthnfoiaahiopdaaDoor
open Go.RowKit Go.Shelf

theorem index_at (s : ByteArray) (k : Nat) (h : k < s.size) (w : World) : (Instr.index 9 (.string s) (.int .i64 (k : Int))).run Tryd.prog w = .ok (.int .u8 (byt s k)) w := by
  rw [run_index_string w 9 s .i64 k (by kernel_rfl), dif_pos ⟨by omega, by omega⟩]
  rw [← byt_at s k h]
  rfl
theorem size_eq (s : ByteArray) : s.size = s.toList.length := by rw [ByteArray.toList_eq]; rfl
theorem empty_list {s : ByteArray} (h : s.size ≠ 0) : s.toList.isEmpty = false := by
  rw [size_eq] at h
  cases hs : s.toList with
  | nil => rw [hs] at h; simp at h
  | cons a l => rfl
theorem len_at {n : Nat} (s : ByteArray) (h : s.size = n) (w : World) : (Builtin.len_ #[9] 3 #[.string s]).run Tryd.prog w = .ok (goInt n) w := by rw [← h]; exact run_len_string w 9 3 s (by kernel_rfl)

set_option maxRecDepth 100000 in
set_option maxHeartbeats 400000 in
theorem rname_any (s : ByteArray) (hs : s.size ≤ maxLen) (w : World) : Calls Tryd.prog 30 #[.string s] w fun e w' => e = .returned (.bool (nameV s)) ∧ w = w' := by
  unfold maxLen at hs
  by_cases h0 : s.size = 0
  · have hg : nameV s = false := by unfold nameV; simp [h0]
    have hem : s.toList.isEmpty = true := by rw [size_eq] at h0; rw [List.eq_nil_of_length_eq_zero h0]; rfl
    rw [hg]
    clear hg h0 hs
    go_enter Tryd.func30, Tryd.ntmps30
    go_wp2_with fail
    go_ret
    exact ⟨rfl, rfl⟩
  have hem := empty_list h0
  obtain ⟨n, hn⟩ : ∃ n, s.size = n := ⟨_, rfl⟩
  have IX := Lib.hid (fun k (h : k < n) w => index_at s k (by rw [hn]; exact h) w)
  have HN := Lib.hid hn
  have hl := len_at s hn
  by_cases h32 : 32 < s.size
  · have hg : nameV s = false := by unfold nameV; simp; omega
    rw [hg]
    rw [hn] at h32 hs h0
    clear hn hg
    go_enter Tryd.func30, Tryd.ntmps30
    go_wp2_with fail
    go_ret
    exact ⟨rfl, rfl⟩
  · obtain ⟨G, hG⟩ : ∃ G, nameV s = G := ⟨_, rfl⟩
    have hG2 : namGo s n 0 = G := by rw [← hG]; unfold nameV; rw [hn] at h0 h32 ⊢; simp [h0]; intro h; omega
    rw [hG]
    rw [hn] at h32 hs h0
    have HG := Lib.hid hG2
    clear hn hG hG2
    go_enter Tryd.func30, Tryd.ntmps30
    go_wp2_with fail
    go_loopw [3] (fun i wr => ∃ (k : Nat), k ≤ n ∧ i = .int .i64 k ∧ namGo s (n - k) k = G ∧ w = wr) (fun i _ => n - (intOf i).toNat)
    case atStart => exact ⟨0, by omega, rfl, HG.out, rfl⟩
    case round =>
      obtain ⟨k, hk, rfl, hg, rfl⟩ := hrel
      have HGO := Lib.hid hg
      clear hg
      by_cases hlt : k < n
      · have hix := fun w => IX.out k hlt w
        have HD : Hid (namGo s (n - k) k = (okAt k (byt s k) && namGo s (n - (k + 1)) (k + 1))) := by
          show _ = _
          rw [show n - k = (n - (k + 1)) + 1 by omega]
          rfl
        have hcb := byt_bd s k
        obtain ⟨c, hc⟩ : ∃ c, byt s k = c := ⟨_, rfl⟩
        rw [hc] at hix hcb
        have HC := Lib.hid hc
        have LX := Lib.hid (letter_any c w)
        clear hc
        cases hlv : letterV c with
        | true =>
          rw [hlv] at LX
          have HLV := Lib.hid hlv
          clear hlv
          go_wp2_with fail
          refine LX.out.mono ?_
          rintro e w' ⟨rfl, rfl⟩
          go_wp2_with fail
          go_roundw
          case rel =>
            refine ⟨k + 1, by omega, by go_num, ?_, trivial⟩
            rw [← HGO.out, HD.out, HC.out]
            simp [okAt, HLV.out]
          case measure => simp [intOf]; omega
        | false =>
          rw [hlv] at LX
          have HLV := Lib.hid hlv
          clear hlv
          by_cases hk0 : k = 0
          · have HK0 := Lib.hid hk0
            clear hk0
            go_wp2_with fail
            refine LX.out.mono ?_
            rintro e w' ⟨rfl, rfl⟩
            go_wp2_with fail
            go_ret
            refine ⟨ret_bool ?_, rfl⟩
            rw [← HGO.out, HD.out, HC.out]
            simp [okAt, HLV.out, HK0.out]
          · by_cases h48 : c < 48
            · go_wp2_with fail
              refine LX.out.mono ?_
              rintro e w' ⟨rfl, rfl⟩
              go_wp2_with fail
              go_ret
              refine ⟨ret_bool ?_, rfl⟩
              rw [← HGO.out, HD.out, HC.out]
              simp [okAt, HLV.out, hk0, digitV]
              omega
            · by_cases h57 : 57 < c
              · go_wp2_with fail
                refine LX.out.mono ?_
                rintro e w' ⟨rfl, rfl⟩
                go_wp2_with fail
                go_ret
                refine ⟨ret_bool ?_, rfl⟩
                rw [← HGO.out, HD.out, HC.out]
                simp [okAt, HLV.out, hk0, digitV]
                omega
              · have hb0 : ((k : Int) == 0) = false := by rw [beq_eq_false_iff_ne]; omega
                have hb1 : decide (c < 48) = false := by simpa using h48
                have hb2 : decide (57 < c) = false := by simpa using h57
                go_wp2_with fail
                refine LX.out.mono ?_
                rintro e w' ⟨rfl, rfl⟩
                go_wp2_with fail
                go_roundw
                case rel =>
                  refine ⟨k + 1, by omega, by go_num, ?_, trivial⟩
                  rw [← HGO.out, HD.out, HC.out]
                  have e1 : okAt k c = true := by simp [okAt, HLV.out, hk0, digitV]; omega
                  rw [e1]; rfl
                case measure => simp [intOf]; omega
      · go_wp2_with fail
        go_ret
        refine ⟨ret_bool ?_, rfl⟩
        have := HGO.out
        rw [show n - k = 0 by omega] at this
        exact this

end Go.Proofs.YthnfoiaahiopdaaDoor

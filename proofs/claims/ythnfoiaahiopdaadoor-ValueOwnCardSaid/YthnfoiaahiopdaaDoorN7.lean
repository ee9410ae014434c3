/- Names, walked: the program's. -/
import Derived.Test.YthnfoiaahiopdaaDoorRows
import Derived.WalkKit
import Derived.WalkSpells
import Derived.WalkLawsBesides
import Derived.Deep.QuietTactic
import Derived.BigQuiet
import Derived.Lib.Hide
import Derived.Lib.ConvBytes
import Derived.Deep.Slices
import Derived.ProofKit
import Derived.SizedLaws
import Derived.Test.YthnfoiaahiopdaaDoorShelf
import Derived.Test.YthnfoiaahiopdaaDoorN6
set_option linter.unusedVariables false
set_option linter.unusedSimpArgs false
set_option linter.unnecessarySimpa false
namespace Go.Proofs.YthnfoiaahiopdaaDoor
open Go.RowKit Go.Shelf

theorem kept_bytes (w : World) (e : TypeId) (s : ByteArray) : Kept [] w (Lib.bytesWorld w e s) :=
  ⟨rfl, rfl, rfl, by rw [Lib.bytesWorld_size]; omega, fun k hk _ => Lib.bytesWorld_at_old w e s k hk⟩

theorem nameV_long {s : ByteArray} {n : Nat} (hn : s.size = n) : nameV s = (decide (n ≠ 0) && decide (n ≤ 32) && namGo s n 0) := by subst hn; rfl

set_option maxRecDepth 100000 in
set_option maxHeartbeats 1000000 in
theorem name_any (s : ByteArray) (hs : s.size ≤ maxLen) (w : World) : Calls Tryd.prog 29 #[.string s] w fun e w' => e = .returned (.bool (nameV s)) ∧ Kept [] w w' := by
  unfold maxLen at hs
  obtain ⟨n, hn⟩ : ∃ n, s.size = n := ⟨_, rfl⟩
  have HN := Lib.hid hn
  have hl := len_at s hn
  obtain ⟨W, hW⟩ : ∃ W, Lib.bytesWorld w 5 s = W := ⟨_, rfl⟩
  obtain ⟨cp, hcp⟩ : ∃ cp, grownCap w s.size 0 5 = cp := ⟨_, rfl⟩
  have cv : (convert 9 58 (.string s)).run Tryd.prog w = .ok (.slice (some ⟨w.heap.size, 0, none⟩) n cp) W := by
    rw [← hW, ← hcp, ← hn]
    exact Lib.run_convert_string_bytes (u := .string) w 9 58 5 s (by kernel_rfl) (by kernel_rfl) (by kernel_rfl)
  have HCELL : Hid (∀ k, k < n → W.cell? ⟨w.heap.size, k, none⟩ = some (.int .u8 (byt s k))) := by
    intro k hk
    rw [← hW]
    exact Lib.bytesWorld_cell w 5 s k (by omega)
  have HK : Hid (Kept [] w W) := by show Kept [] w W; rw [← hW]; exact kept_bytes w 5 s
  have hem : s.toList.isEmpty = decide (n = 0) := by
    rw [← hn, size_eq]
    cases s.toList <;> simp
  have HNV := Lib.hid (nameV_long hn)
  obtain ⟨G, hG⟩ : ∃ G, nameV s = G := ⟨_, rfl⟩
  rw [hG] at HNV ⊢
  obtain ⟨G2, hG2⟩ : ∃ G2, namGo s n 0 = G2 := ⟨_, rfl⟩
  rw [hG2] at HNV
  have HG := Lib.hid hG2
  rw [hn] at hs
  clear hn hG hG2 hcp hW
  go_enter Tryd.func29, Tryd.ntmps29
  go_wp2_with fail
  go_loopw [9] (fun i wr => ∃ (k : Nat), k ≤ n ∧ i = .int .i64 k ∧ namGo s (n - k) k = G2 ∧ W = wr) (fun i _ => n - (intOf i).toNat)
  case atStart => exact ⟨0, by omega, rfl, HG.out, rfl⟩
  case round =>
    obtain ⟨k, hk, rfl, hg, rfl⟩ := hrel
    have HGO := Lib.hid hg
    clear hg
    by_cases hlt : k < n
    · have hcell := HCELL.out k hlt
      have HD : Hid (namGo s (n - k) k = (okAt k (byt s k) && namGo s (n - (k + 1)) (k + 1))) := by
        show _ = _
        rw [show n - k = (n - (k + 1)) + 1 by omega]
        rfl
      have hcb := byt_bd s k
      obtain ⟨c, hc⟩ : ∃ c, byt s k = c := ⟨_, rfl⟩
      rw [hc] at hcell hcb
      have HC := Lib.hid hc
      clear hc
      rcases c_classes c with h | h | h | h | h | h | h | h | h
      · have HB : Hid (c < 48) := by show c < 48; omega
        have b1 : decide (97 ≤ c) = false := by simp; omega
        have b2 : decide (c ≤ 122) = true := by simp; omega
        have b3 : decide (65 ≤ c) = false := by simp; omega
        have b4 : decide (c ≤ 90) = true := by simp; omega
        have b5 : (c == 95) = false := by rw [beq_eq_false_iff_ne]; omega
        have b6 : decide (c < 48) = true := by simp; omega
        have b7 : decide (57 < c) = false := by simp; omega
        clear h
        go_wp2_with fail
        all_goals
          go_ret
          refine ⟨ret_bool ?_, HK.out⟩
          have e1 : okAt k c = false := by have := HB.out; unfold okAt letterV digitV; simp; omega
          rw [HNV.out, ← HGO.out, HD.out, HC.out, e1]; simp
      · have HB : Hid (48 ≤ c ∧ c ≤ 57) := by show 48 ≤ c ∧ c ≤ 57; omega
        have b1 : decide (97 ≤ c) = false := by simp; omega
        have b2 : decide (c ≤ 122) = true := by simp; omega
        have b3 : decide (65 ≤ c) = false := by simp; omega
        have b4 : decide (c ≤ 90) = true := by simp; omega
        have b5 : (c == 95) = false := by rw [beq_eq_false_iff_ne]; omega
        have b6 : decide (c < 48) = false := by simp; omega
        have b7 : decide (57 < c) = false := by simp; omega
        by_cases hk0 : k = 0
        · have HK0 := Lib.hid hk0
          have hb0 : ((k : Int) == 0) = true := by rw [hk0]; rfl
          clear hk0
          clear h
          go_wp2_with fail
          all_goals
            go_ret
            refine ⟨ret_bool ?_, HK.out⟩
            have e1 : okAt k c = false := by have := HB.out; have := HK0.out; unfold okAt letterV digitV; simp; omega
            rw [HNV.out, ← HGO.out, HD.out, HC.out, e1]; simp
        · have hb0 : ((k : Int) == 0) = false := by rw [beq_eq_false_iff_ne]; omega
          clear h
          go_wp2_with fail
          go_roundw
          case rel =>
            refine ⟨k + 1, by omega, by go_num, ?_, trivial⟩
            rw [← HGO.out, HD.out, HC.out]
            have e1 : okAt k c = true := by have := HB.out; unfold okAt letterV digitV; simp; omega
            rw [e1]; rfl
          case measure => simp [intOf]; omega
      · have HB : Hid (57 < c ∧ c < 65) := by show 57 < c ∧ c < 65; omega
        have b1 : decide (97 ≤ c) = false := by simp; omega
        have b2 : decide (c ≤ 122) = true := by simp; omega
        have b3 : decide (65 ≤ c) = false := by simp; omega
        have b4 : decide (c ≤ 90) = true := by simp; omega
        have b5 : (c == 95) = false := by rw [beq_eq_false_iff_ne]; omega
        have b6 : decide (c < 48) = false := by simp; omega
        have b7 : decide (57 < c) = true := by simp; omega
        clear h
        go_wp2_with fail
        all_goals
          go_ret
          refine ⟨ret_bool ?_, HK.out⟩
          have e1 : okAt k c = false := by have := HB.out; unfold okAt letterV digitV; simp; omega
          rw [HNV.out, ← HGO.out, HD.out, HC.out, e1]; simp
      · have HB : Hid (65 ≤ c ∧ c ≤ 90) := by show 65 ≤ c ∧ c ≤ 90; omega
        have b1 : decide (97 ≤ c) = false := by simp; omega
        have b2 : decide (c ≤ 122) = true := by simp; omega
        have b3 : decide (65 ≤ c) = true := by simp; omega
        have b4 : decide (c ≤ 90) = true := by simp; omega
        have b5 : (c == 95) = false := by rw [beq_eq_false_iff_ne]; omega
        have b6 : decide (c < 48) = false := by simp; omega
        have b7 : decide (57 < c) = true := by simp; omega
        clear h
        go_wp2_with fail
        go_roundw
        case rel =>
          refine ⟨k + 1, by omega, by go_num, ?_, trivial⟩
          rw [← HGO.out, HD.out, HC.out]
          have e1 : okAt k c = true := by have := HB.out; unfold okAt letterV digitV; simp; omega
          rw [e1]; rfl
        case measure => simp [intOf]; omega
      · have HB : Hid (90 < c ∧ c < 95) := by show 90 < c ∧ c < 95; omega
        have b1 : decide (97 ≤ c) = false := by simp; omega
        have b2 : decide (c ≤ 122) = true := by simp; omega
        have b3 : decide (65 ≤ c) = true := by simp; omega
        have b4 : decide (c ≤ 90) = false := by simp; omega
        have b5 : (c == 95) = false := by rw [beq_eq_false_iff_ne]; omega
        have b6 : decide (c < 48) = false := by simp; omega
        have b7 : decide (57 < c) = true := by simp; omega
        clear h
        go_wp2_with fail
        all_goals
          go_ret
          refine ⟨ret_bool ?_, HK.out⟩
          have e1 : okAt k c = false := by have := HB.out; unfold okAt letterV digitV; simp; omega
          rw [HNV.out, ← HGO.out, HD.out, HC.out, e1]; simp
      · have HB : Hid (c = 95) := by show c = 95; omega
        have b1 : decide (97 ≤ c) = false := by simp; omega
        have b2 : decide (c ≤ 122) = true := by simp; omega
        have b3 : decide (65 ≤ c) = true := by simp; omega
        have b4 : decide (c ≤ 90) = false := by simp; omega
        have b5 : (c == 95) = true := by simp; omega
        have b6 : decide (c < 48) = false := by simp; omega
        have b7 : decide (57 < c) = true := by simp; omega
        clear h
        go_wp2_with fail
        go_roundw
        case rel =>
          refine ⟨k + 1, by omega, by go_num, ?_, trivial⟩
          rw [← HGO.out, HD.out, HC.out]
          have e1 : okAt k c = true := by have := HB.out; unfold okAt letterV digitV; simp; omega
          rw [e1]; rfl
        case measure => simp [intOf]; omega
      · have HB : Hid (c = 96) := by show c = 96; omega
        have b1 : decide (97 ≤ c) = false := by simp; omega
        have b2 : decide (c ≤ 122) = true := by simp; omega
        have b3 : decide (65 ≤ c) = true := by simp; omega
        have b4 : decide (c ≤ 90) = false := by simp; omega
        have b5 : (c == 95) = false := by rw [beq_eq_false_iff_ne]; omega
        have b6 : decide (c < 48) = false := by simp; omega
        have b7 : decide (57 < c) = true := by simp; omega
        clear h
        go_wp2_with fail
        all_goals
          go_ret
          refine ⟨ret_bool ?_, HK.out⟩
          have e1 : okAt k c = false := by have := HB.out; unfold okAt letterV digitV; simp; omega
          rw [HNV.out, ← HGO.out, HD.out, HC.out, e1]; simp
      · have HB : Hid (97 ≤ c ∧ c ≤ 122) := by show 97 ≤ c ∧ c ≤ 122; omega
        have b1 : decide (97 ≤ c) = true := by simp; omega
        have b2 : decide (c ≤ 122) = true := by simp; omega
        have b3 : decide (65 ≤ c) = true := by simp; omega
        have b4 : decide (c ≤ 90) = false := by simp; omega
        have b5 : (c == 95) = false := by rw [beq_eq_false_iff_ne]; omega
        have b6 : decide (c < 48) = false := by simp; omega
        have b7 : decide (57 < c) = true := by simp; omega
        clear h
        go_wp2_with fail
        go_roundw
        case rel =>
          refine ⟨k + 1, by omega, by go_num, ?_, trivial⟩
          rw [← HGO.out, HD.out, HC.out]
          have e1 : okAt k c = true := by have := HB.out; unfold okAt letterV digitV; simp; omega
          rw [e1]; rfl
        case measure => simp [intOf]; omega
      · have HB : Hid (122 < c) := by show 122 < c; omega
        have b1 : decide (97 ≤ c) = true := by simp; omega
        have b2 : decide (c ≤ 122) = false := by simp; omega
        have b3 : decide (65 ≤ c) = true := by simp; omega
        have b4 : decide (c ≤ 90) = false := by simp; omega
        have b5 : (c == 95) = false := by rw [beq_eq_false_iff_ne]; omega
        have b6 : decide (c < 48) = false := by simp; omega
        have b7 : decide (57 < c) = true := by simp; omega
        clear h
        go_wp2_with fail
        all_goals
          go_ret
          refine ⟨ret_bool ?_, HK.out⟩
          have e1 : okAt k c = false := by have := HB.out; unfold okAt letterV digitV; simp; omega
          rw [HNV.out, ← HGO.out, HD.out, HC.out, e1]; simp
    · by_cases hn0 : n = 0
      · have HN0 := Lib.hid hn0
        have e0 : decide (n = 0) = true := by simp [hn0]
        rw [e0] at hem
        clear hn0
        go_wp2_with fail
        go_ret
        refine ⟨ret_bool ?_, HK.out⟩
        rw [HNV.out, HN0.out]; rfl
      · have e0 : decide (n = 0) = false := by simp [hn0]
        rw [e0] at hem
        have e2 : G2 = true := by
          have := HGO.out
          rw [show n - k = 0 by omega] at this
          exact this.symm
        have HE2 := Lib.hid e2
        clear e2 e0
        go_wp2_with fail
        all_goals
          go_ret
          refine ⟨ret_bool ?_, HK.out⟩
          rw [HNV.out, HE2.out]
          rw [Bool.eq_iff_iff]
          simp [hn0]
          try omega

end Go.Proofs.YthnfoiaahiopdaaDoor

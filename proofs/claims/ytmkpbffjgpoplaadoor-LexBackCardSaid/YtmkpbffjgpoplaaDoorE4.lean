/- The place behind blanks: the document's and the program's. -/
import Derived.Test.YtmkpbffjgpoplaaDoorRows
import Derived.WalkKit
import Derived.WalkSpells
import Derived.WalkLawsBesides
import Derived.Deep.QuietTactic
import Derived.BigQuiet
import Derived.Lib.Hide
import Derived.Lib.ConvBytes
import Derived.Deep.Slices
import Derived.ProofKit
import Derived.SizedLaws
import Derived.Test.YtmkpbffjgpoplaaDoorShelf
import Derived.Laws.BytesArg
import Derived.Laws.BitsLemmas
import Derived.Deep.RegionHeld3
import Derived.Deep.AppendLies
import Derived.Maps.AppendAt
import Derived.Lib.ItoaLen
import Derived.Lib.SmallJoins
import Derived.Test.YtmkpbffjgpoplaaDoorE2
set_option linter.unusedVariables false
set_option linter.unusedSimpArgs false
set_option linter.unnecessarySimpa false
namespace Go.Proofs.YtmkpbffjgpoplaaDoor
open Go.RowKit Go.Shelf
attribute [local go_sem] Oper.semAt_some

theorem blankGo_blk {s : ByteArray} {n k : Nat} {c : Int} (hk : k < n) (hc : byt s k = c) (h : blkB c = true) : blankGo s (n - k) k false = blankGo s (n - (k + 1)) (k + 1) false := by
  rw [show n - k = (n - (k + 1)) + 1 by omega, blankGo, hc, if_pos h]
theorem blankGo_hash {s : ByteArray} {n k : Nat} (hk : k < n) (hc : byt s k = 35) : blankGo s (n - k) k false = blankGo s (n - k) k true := by
  rw [show n - k = (n - (k + 1)) + 1 by omega, blankGo, blankGo, hc, if_neg (by decide), if_pos rfl, if_neg (by decide)]
theorem blankGo_halt {s : ByteArray} {n k : Nat} {c : Int} (hk : k < n) (hc : byt s k = c) (h : blkB c = false) (h2 : c ≠ 35) : blankGo s (n - k) k false = k := by
  rw [show n - k = (n - (k + 1)) + 1 by omega, blankGo, hc, if_neg (by rw [h]; simp), if_neg h2]
theorem blankGo_over {s : ByteArray} {n k : Nat} {m : Bool} (hk : ¬ k < n) : blankGo s (n - k) k m = k := by
  rw [show n - k = 0 by omega]
  cases m <;> rfl
theorem blankGo_in {s : ByteArray} {n k : Nat} {c : Int} (hk : k < n) (hc : byt s k = c) (h : c ≠ 10) : blankGo s (n - k) k true = blankGo s (n - (k + 1)) (k + 1) true := by
  rw [show n - k = (n - (k + 1)) + 1 by omega, blankGo, hc, if_neg h]
theorem blankGo_line {s : ByteArray} {n k : Nat} (hk : k < n) (hc : byt s k = 10) : blankGo s (n - k) k true = blankGo s (n - k) k false := by
  rw [show n - k = (n - (k + 1)) + 1 by omega, blankGo, blankGo, hc, if_pos rfl, if_pos (by decide)]
theorem drop_byt (s : ByteArray) {k : Nat} (hk : k < s.size) : ∃ b : UInt8, s.data.toList.drop k = b :: s.data.toList.drop (k + 1) ∧ byt s k = (b.toNat : Int) := by
  have h2 : k < s.data.toList.length := by rw [Array.length_toList]; exact hk
  refine ⟨s.data.toList[k], List.drop_eq_getElem_cons h2, ?_⟩
  unfold byt
  rw [List.getD, List.getElem?_eq_getElem h2]
  rfl
theorem blankGo_line_at (s : ByteArray) : ∀ (r k : Nat), k + r = s.size → (Lib.indexByte (s.data.toList.drop k) 10 < 0 → blankGo s r k true = s.size) ∧
    (¬ Lib.indexByte (s.data.toList.drop k) 10 < 0 → ∃ x : Nat, Lib.indexByte (s.data.toList.drop k) 10 = x ∧ k + x < s.size ∧ blankGo s r k true = blankGo s (s.size - (k + (x + 1))) (k + (x + 1)) false)
  | 0, k, h => by
    have e : s.data.toList.drop k = [] := List.drop_eq_nil_of_le (by rw [Array.length_toList]; show s.size ≤ k; omega)
    rw [e]
    refine ⟨fun _ => by rw [blankGo]; omega, fun h => absurd (by decide) h⟩
  | r + 1, k, h => by
    obtain ⟨b, hb, hc⟩ := drop_byt s (k := k) (by omega)
    have ih := blankGo_line_at s r (k + 1) (by omega)
    rw [hb, Lib.indexByte]
    by_cases h10 : b = 10
    · subst h10
      have hc2 : byt s k = 10 := hc
      rw [if_pos (by rfl)]
      refine ⟨fun h => absurd h (by decide), fun _ => ⟨0, rfl, by omega, ?_⟩⟩
      rw [blankGo, if_pos hc2]
      congr 1
      omega
    · have hc2 : byt s k ≠ 10 := by
        intro e
        apply h10
        apply UInt8.toNat_inj.1
        have : ((10 : UInt8).toNat) = 10 := rfl
        omega
      have hb2 : (b == 10) = false := by rw [beq_eq_false_iff_ne]; exact h10
      have hge := Lib.indexByte_ge (s.data.toList.drop (k + 1)) 10
      rw [hb2, blankGo, if_neg hc2]
      simp only [Bool.false_eq_true, if_false]
      by_cases hm : Lib.indexByte (s.data.toList.drop (k + 1)) 10 = -1
      · have hm2 : (Lib.indexByte (s.data.toList.drop (k + 1)) 10 == -1) = true := by rw [hm]; rfl
        rw [hm2, if_pos rfl]
        exact ⟨fun _ => ih.1 (by omega), fun h => absurd (by decide) h⟩
      · have hm2 : (Lib.indexByte (s.data.toList.drop (k + 1)) 10 == -1) = false := by rw [beq_eq_false_iff_ne]; exact hm
        rw [hm2]
        simp only [Bool.false_eq_true, if_false]
        refine ⟨fun h => by omega, fun _ => ?_⟩
        obtain ⟨x, hx, hx2, hx3⟩ := ih.2 (by omega)
        refine ⟨x + 1, by omega, by omega, ?_⟩
        rw [hx3]
        congr 1
        · omega
        · omega
theorem extract_drop (s : ByteArray) (k : Nat) : (s.extract k s.size).data.toList = s.data.toList.drop k := by
  rw [ByteArray.data_extract]
  simp
  apply List.take_of_length_le
  rw [List.length_drop, Array.length_toList]
  exact Nat.le_refl _

set_option maxRecDepth 100000 in
set_option maxHeartbeats 4000000 in
theorem rBlank_in (s : ByteArray) (k : Nat) (hk : k ≤ s.size) (hs : s.size ≤ 140737488351232) (w : World) : Calls Tryd.prog 16 #[.string s, .int .i64 k] w fun e w' => e = .returned (.int .i64 (blankV s k)) ∧ w = w' := by
  obtain ⟨n, hn⟩ : ∃ n, s.size = n := ⟨_, rfl⟩
  have IX := Lib.hid (fun k (h : k < n) w => index_at s k (by rw [hn]; exact h) w)
  have HN := Lib.hid hn
  have hl := len_at s hn
  obtain ⟨V, hV⟩ : ∃ V, blankV s k = V := ⟨_, rfl⟩
  have HV0 : Hid (blankGo s (n - k) k false = V) := by show _ = _; rw [← hV, ← hn]; rfl
  rw [hV]
  have HBL : Hid (∀ (z : Int) (W : World), Calls Tryd.prog 28 #[.int .u8 z] W fun e w' => e = .returned (.bool (blkB z)) ∧ W = w') := rblank05
  rw [hn] at hk hs
  clear hn hV
  have d0 : decide ((k : Int) < 0) = false := decide_eq_false (by omega)
  have d1 : decide ((n : Int) < (k : Int)) = false := decide_eq_false (by omega)
  have d2 : decide (n < k) = false := decide_eq_false (by omega)
  go_enter Tryd.func16, Tryd.ntmps16
  go_wp2_with fail
  go_loopw [1] (fun ii wr => ∃ j : Nat, ii = .int .i64 j ∧ j ≤ n ∧ blankGo s (n - j) j false = V ∧ w = wr) (fun ii _ => n - (intOf ii).toNat)
  case atStart => exact ⟨k, rfl, hk, HV0.out, rfl⟩
  case round =>
    obtain ⟨j, rfl, hj, hv, rfl⟩ := hrel
    have HV := Lib.hid hv
    clear hv
    by_cases hlt : j < n
    · have hix := fun w => IX.out j hlt w
      obtain ⟨c, hc⟩ : ∃ c, byt s j = c := ⟨_, rfl⟩
      rw [hc] at hix
      have HC := Lib.hid hc
      clear hc
      go_wp2_with fail
      refine (HBL.out c _).mono ?_
      rintro e w1 ⟨rfl, rfl⟩
      cases hb : blkB c with
      | true =>
        have HN1 := Lib.hid (blankGo_blk hlt HC.out hb)
        clear hb
        go_wp2_with fail
        go_roundw
        case rel => exact ⟨j + 1, by go_num, by omega, by rw [← HN1.out]; exact HV.out, by first | trivial | rfl⟩
        case measure => simp [intOf]; omega
      | false =>
        by_cases h35 : c = 35
        · subst h35
          have HN1 := Lib.hid (blankGo_hash hlt HC.out)
          clear hb
          go_wp2_with fail
          go_loopw [1] (fun ii wr => ∃ i : Nat, ii = .int .i64 i ∧ i ≤ n ∧ j ≤ i ∧ blankGo s (n - i) i true = V ∧ w = wr) (fun ii _ => n - (intOf ii).toNat)
          case atStart => exact ⟨j, rfl, hj, Nat.le_refl _, by rw [← HN1.out]; exact HV.out, rfl⟩
          case round =>
            obtain ⟨i, rfl, hi, hji, hv, rfl⟩ := hrel
            have HVI := Lib.hid hv
            clear hv
            by_cases hil : i < n
            · have hixi := fun w => IX.out i hil w
              obtain ⟨d, hd⟩ : ∃ d, byt s i = d := ⟨_, rfl⟩
              rw [hd] at hixi
              have HD := Lib.hid hd
              clear hd
              by_cases h10 : d = 10
              · subst h10
                have HN2 := Lib.hid (blankGo_line hil HD.out)
                have hne : j ≠ i := by
                  intro e
                  subst e
                  have h1 := HC.out
                  have h2 := HD.out
                  omega
                go_wp2_with fail
                go_roundw
                case rel => exact ⟨i, rfl, hi, by rw [← HN2.out]; exact HVI.out, by first | trivial | rfl⟩
                case measure => simp [intOf]; omega
              · have hb10 : (d == 10) = false := by rw [beq_eq_false_iff_ne]; exact h10
                have HN2 := Lib.hid (blankGo_in hil HD.out h10)
                clear h10
                go_wp2_with fail
                go_roundw
                case rel => exact ⟨i + 1, by go_num, by omega, by omega, by rw [← HN2.out]; exact HVI.out, by first | trivial | rfl⟩
                case measure => simp [intOf]; omega
            · have HN2 := Lib.hid (blankGo_over (s := s) (m := true) hil)
              have HN3 := Lib.hid (blankGo_over (s := s) (m := false) hil)
              have hne : j ≠ i := by omega
              go_wp2_with fail
              go_roundw
              case rel => exact ⟨i, rfl, hi, by rw [HN3.out, ← HN2.out]; exact HVI.out, by first | trivial | rfl⟩
              case measure => simp [intOf]; omega
        · have hb35 : (c == 35) = false := by rw [beq_eq_false_iff_ne]; exact h35
          have HN1 := Lib.hid (blankGo_halt hlt HC.out hb h35)
          clear hb h35
          go_wp2_with fail
          go_ret
          exact ⟨by rw [← HV.out, HN1.out] <;> rfl, rfl⟩
    · have HN1 := Lib.hid (blankGo_over (s := s) (m := false) hlt)
      go_wp2_with fail
      go_ret
      exact ⟨by rw [← HV.out, HN1.out] <;> rfl, rfl⟩
set_option maxRecDepth 100000 in
set_option maxHeartbeats 4000000 in
theorem lBlank_in (s : ByteArray) (k : Nat) (hk : k ≤ s.size) (hs : s.size ≤ 140737488351232) (w : World) : Calls Tryd.prog 15 #[.string s, .int .i64 k] w fun e w' => e = .returned (.int .i64 (blankV s k)) ∧ w = w' := by
  obtain ⟨n, hn⟩ : ∃ n, s.size = n := ⟨_, rfl⟩
  have IX := Lib.hid (fun k (h : k < n) w => index_at s k (by rw [hn]; exact h) w)
  have HN := Lib.hid hn
  have hl := len_at s hn
  obtain ⟨V, hV⟩ : ∃ V, blankV s k = V := ⟨_, rfl⟩
  have HV0 : Hid (blankGo s (n - k) k false = V) := by show _ = _; rw [← hV, ← hn]; rfl
  rw [hV]
  have HLA := Lib.hid (fun k (h : k ≤ n) => blankGo_line_at s (n - k) k (by omega))
  have HIB : Hid (∀ (j : Nat) (W : World), Calls Tryd.prog 27 #[.string (s.extract j s.size), .int .u8 10] W fun e w' => e = .returned (.int .i64 (Lib.indexByte (s.data.toList.drop j) 10)) ∧ w' = W) := fun j W => by
    have h := Tryd.strings_IndexByte (s.extract j s.size) 10 W
    rw [extract_drop] at h
    exact h
  rw [hn] at hk hs
  rw [hn] at HLA
  clear hn hV
  have d0 : decide ((k : Int) < 0) = false := decide_eq_false (by omega)
  have d1 : decide ((n : Int) < (k : Int)) = false := decide_eq_false (by omega)
  have d2 : decide (n < k) = false := decide_eq_false (by omega)
  go_enter Tryd.func15, Tryd.ntmps15
  go_wp2_with fail
  go_loopw [1] (fun ii wr => ∃ j : Nat, ii = .int .i64 j ∧ j ≤ n ∧ blankGo s (n - j) j false = V ∧ w = wr) (fun ii _ => n - (intOf ii).toNat)
  case atStart => exact ⟨k, rfl, hk, HV0.out, rfl⟩
  case round =>
    obtain ⟨j, rfl, hj, hv, rfl⟩ := hrel
    have HV := Lib.hid hv
    clear hv
    by_cases hlt : j < n
    · have hix := fun w => IX.out j hlt w
      obtain ⟨c, hc⟩ : ∃ c, byt s j = c := ⟨_, rfl⟩
      rw [hc] at hix
      have HC := Lib.hid hc
      clear hc
      by_cases hblk : c = 32 ∨ c = 9 ∨ c = 10 ∨ c = 13
      · rcases hblk with rfl | rfl | rfl | rfl
        all_goals
          have HN1 := Lib.hid (blankGo_blk hlt HC.out (by decide))
          go_wp2_with fail
          go_roundw
          case rel => exact ⟨j + 1, by go_num, by omega, by rw [← HN1.out]; exact HV.out, by first | trivial | rfl⟩
          case measure => simp [intOf]; omega
      · have b1 : (c == 32) = false := by rw [beq_eq_false_iff_ne]; omega
        have b2 : (c == 9) = false := by rw [beq_eq_false_iff_ne]; omega
        have b3 : (c == 10) = false := by rw [beq_eq_false_iff_ne]; omega
        have b4 : (c == 13) = false := by rw [beq_eq_false_iff_ne]; omega
        have HBK : Hid (blkB c = false) := by show _ = _; unfold blkB; simp; omega
        clear hblk
        by_cases h35 : c = 35
        · subst h35
          have HN1 := Lib.hid (blankGo_hash hlt HC.out)
          have hjs : (j : Int) ≤ (s.size : Int) := by rw [HN.out]; omega
          go_wp2_with fail
          refine (HIB.out j _).mono ?_
          rintro e w1 ⟨rfl, rfl⟩
          obtain ⟨hA, hB⟩ := HLA.out j hj
          obtain ⟨x, hx⟩ : ∃ x, Lib.indexByte (s.data.toList.drop j) 10 = x := ⟨_, rfl⟩
          rw [hx] at hA hB ⊢
          clear hx
          by_cases hneg : x < 0
          · have HN2 := Lib.hid (hA hneg)
            clear hA hB
            go_wp2_with fail
            go_ret
            exact ⟨by rw [← HV.out, HN1.out, HN2.out] <;> rfl, rfl⟩
          · obtain ⟨y, rfl, hy, hz⟩ := hB (by omega)
            have HN2 := Lib.hid hz
            clear hA hB hz hneg
            go_wp2_with fail
            go_roundw
            case rel => exact ⟨j + (y + 1), by go_num, by omega, by rw [← HN2.out, ← HN1.out]; exact HV.out, by first | trivial | rfl⟩
            case measure => simp [intOf]; omega
        · have hb35 : (c == 35) = false := by rw [beq_eq_false_iff_ne]; exact h35
          have HN1 := Lib.hid (blankGo_halt hlt HC.out HBK.out h35)
          clear h35
          go_wp2_with fail
          go_ret
          exact ⟨by rw [← HV.out, HN1.out] <;> rfl, rfl⟩
    · have HN1 := Lib.hid (blankGo_over (s := s) (m := false) hlt)
      go_wp2_with fail
      go_ret
      exact ⟨by rw [← HV.out, HN1.out] <;> rfl, rfl⟩

/-- Blank at any place. -/
def blankI (s : ByteArray) (at_ : Int) : Int := if at_ < 0 ∨ (s.size : Int) < at_ then at_ else blankV s at_.toNat
set_option maxRecDepth 100000 in
theorem rBlank_out (s : ByteArray) (at_ : Int) (hk : at_ < 0 ∨ (s.size : Int) < at_) (hs : s.size ≤ 140737488351232) (w : World) : Calls Tryd.prog 16 #[.string s, .int .i64 at_] w fun e w' => e = .returned (.int .i64 at_) ∧ w = w' := by
  obtain ⟨n, hn⟩ : ∃ n, s.size = n := ⟨_, rfl⟩
  have hl := len_at s hn
  rw [hn] at hk hs
  clear hn
  by_cases h0 : at_ < 0
  · have d0 : decide (at_ < 0) = true := decide_eq_true h0
    go_enter Tryd.func16, Tryd.ntmps16
    go_wp2_with fail
    go_ret
    exact ⟨rfl, rfl⟩
  · have d0 : decide (at_ < 0) = false := decide_eq_false h0
    have h1 : (n : Int) < at_ := by omega
    clear hk
    go_enter Tryd.func16, Tryd.ntmps16
    go_wp2_with fail
    go_ret
    exact ⟨rfl, rfl⟩
set_option maxRecDepth 100000 in
theorem lBlank_out (s : ByteArray) (at_ : Int) (hk : at_ < 0 ∨ (s.size : Int) < at_) (hs : s.size ≤ 140737488351232) (w : World) : Calls Tryd.prog 15 #[.string s, .int .i64 at_] w fun e w' => e = .returned (.int .i64 at_) ∧ w = w' := by
  obtain ⟨n, hn⟩ : ∃ n, s.size = n := ⟨_, rfl⟩
  have hl := len_at s hn
  rw [hn] at hk hs
  clear hn
  by_cases h0 : at_ < 0
  · have d0 : decide (at_ < 0) = true := decide_eq_true h0
    go_enter Tryd.func15, Tryd.ntmps15
    go_wp2_with fail
    go_ret
    exact ⟨rfl, rfl⟩
  · have d0 : decide (at_ < 0) = false := decide_eq_false h0
    have h1 : (n : Int) < at_ := by omega
    clear hk
    go_enter Tryd.func15, Tryd.ntmps15
    go_wp2_with fail
    go_ret
    exact ⟨rfl, rfl⟩
theorem rBlank_any (s : ByteArray) (at_ : Int) (hs : s.size ≤ 140737488351232) (w : World) : Calls Tryd.prog 16 #[.string s, .int .i64 at_] w fun e w' => e = .returned (.int .i64 (blankI s at_)) ∧ w = w' := by
  unfold blankI
  split
  · rename_i h; exact rBlank_out s at_ h hs w
  · have h := rBlank_in s at_.toNat (by omega) hs w
    rw [show ((at_.toNat : Nat) : Int) = at_ by omega] at h
    exact h
theorem lBlank_any (s : ByteArray) (at_ : Int) (hs : s.size ≤ 140737488351232) (w : World) : Calls Tryd.prog 15 #[.string s, .int .i64 at_] w fun e w' => e = .returned (.int .i64 (blankI s at_)) ∧ w = w' := by
  unfold blankI
  split
  · rename_i h; exact lBlank_out s at_ h hs w
  · have h := lBlank_in s at_.toNat (by omega) hs w
    rw [show ((at_.toNat : Nat) : Int) = at_ by omega] at h
    exact h

end Go.Proofs.YtmkpbffjgpoplaaDoor

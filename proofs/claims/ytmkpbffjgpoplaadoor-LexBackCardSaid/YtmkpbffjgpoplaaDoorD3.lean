/- A numeral read: the document's. -/
import Derived.Test.YtmkpbffjgpoplaaDoorRows
import Derived.WalkKit
import Derived.WalkSpells
import Derived.WalkLawsBesides
import Derived.Deep.QuietTactic
import Derived.BigQuiet
import Derived.Lib.Hide
import Derived.Laws.Runes
import Derived.Laws.Concat
import Derived.Laws.Cover4
import Derived.Lib.ConvBytes
import Derived.Deep.Slices
import Derived.ProofKit
import Derived.SizedLaws
import Derived.Test.YtmkpbffjgpoplaaDoorShelf
import Derived.Laws.BytesArg
import Derived.Laws.BitsLemmas
import Derived.Deep.RegionHeld3
import Derived.Deep.AppendLies
import Derived.Maps.AppendAt
import Derived.Lib.ItoaLen
import Derived.Test.YtmkpbffjgpoplaaDoorD1
import Derived.Test.YtmkpbffjgpoplaaDoorD2
set_option linter.unusedVariables false
set_option linter.unusedSimpArgs false
set_option linter.unnecessarySimpa false
namespace Go.Proofs.YtmkpbffjgpoplaaDoor
open Go.RowKit Go.Shelf
attribute [local go_sem] Oper.semAt_some

theorem bI_drop (s : ByteArray) {k : Nat} (hk : k < s.size) : (bI s).drop k = byt s k :: (bI s).drop (k + 1) := by
  obtain ⟨h2, h3⟩ := List.getElem?_eq_some_iff.1 (bI_get s k hk)
  rw [List.drop_eq_getElem_cons h2, h3]
theorem bI_head (s : ByteArray) : (bI s).head? = some 45 ↔ 0 < s.size ∧ byt s 0 = 45 := by
  constructor
  · intro h
    by_cases h0 : 0 < s.size
    · have h1 := bI_get s 0 h0
      rw [← List.head?_eq_getElem?, h] at h1
      injection h1 with h1
      exact ⟨h0, h1.symm⟩
    · exfalso
      have : bI s = [] := by rw [← List.length_eq_zero_iff, bI_len]; omega
      rw [this] at h
      cases h
  · rintro ⟨h0, h1⟩
    rw [List.head?_eq_getElem?, bI_get s 0 h0, h1]
/-- Where the digits begin. -/
def NumAt (s : ByteArray) (i : Nat) : Prop := (i = 1 ∧ (bI s).head? = some 45) ∨ (i = 0 ∧ (bI s).head? ≠ some 45)
theorem NumAt.none {s : ByteArray} {i : Nat} (h : NumAt s i) (hn : numF 0 ((bI s).drop i) = none) : numV (bI s) = (0, false) := by
  unfold numV
  rcases h with ⟨rfl, h⟩ | ⟨rfl, h⟩
  · rw [if_pos h, hn]
  · rw [List.drop_zero] at hn
    rw [if_neg h, hn]
theorem NumAt.one {s : ByteArray} {n : Int} {z : Nat} (h : NumAt s 1) (hz : s.size = z) (hn : numF 0 ((bI s).drop 1) = some n) : numV (bI s) = (n, decide ((1 : Int) < (z : Int))) := by
  unfold numV
  rcases h with ⟨_, h⟩ | ⟨h, _⟩
  · rw [if_pos h, hn, bI_len, hz]
    simp only [Prod.mk.injEq, true_and]
    rw [decide_eq_decide]
    omega
  · omega
theorem NumAt.zero {s : ByteArray} {n : Int} {z : Nat} (h : NumAt s 0) (hz : s.size = z) (hn : numF 0 ((bI s).drop 0) = some n) (hm : n ≠ -9223372036854775808) : numV (bI s) = (-n, decide ((0 : Int) < (z : Int))) := by
  unfold numV
  rcases h with ⟨h, _⟩ | ⟨_, h⟩
  · omega
  · rw [List.drop_zero] at hn
    rw [if_neg h, hn]
    simp only
    rw [if_neg hm, bI_len, hz]
    simp only [Prod.mk.injEq, true_and]
    rw [decide_eq_decide]
    omega
theorem NumAt.min {s : ByteArray} (h : NumAt s 0) (hn : numF 0 ((bI s).drop 0) = some (-9223372036854775808)) : numV (bI s) = (0, false) := by
  unfold numV
  rcases h with ⟨h, _⟩ | ⟨_, h⟩
  · omega
  · rw [List.drop_zero] at hn
    rw [if_neg h, hn]
    rfl
/-- How far a numeral has been read. -/
def NumRel (s : ByteArray) (i : Nat) (n : Int) (k : Nat) : Prop := numF n ((bI s).drop k) = numF 0 ((bI s).drop i) ∧ -9223372036854775808 ≤ n ∧ n ≤ 0
theorem NumRel.bad {s : ByteArray} {i k : Nat} {n : Int} (h : NumRel s i n k) (hk : k < s.size) (hb : byt s k < 48 ∨ 57 < byt s k) : numF 0 ((bI s).drop i) = none := by
  rw [← h.1, bI_drop s hk, numF, if_pos hb]
theorem NumRel.over {s : ByteArray} {i k : Nat} {n : Int} (h : NumRel s i n k) (hk : k < s.size) (ho : n < Int.tdiv (-9223372036854775808 + (byt s k - 48)) 10) : numF 0 ((bI s).drop i) = none := by
  rw [← h.1, bI_drop s hk, numF]
  split
  · rfl
  · rfl
theorem NumRel.turn {s : ByteArray} {i k : Nat} {n : Int} (h : NumRel s i n k) (hk : k < s.size) (h0 : 48 ≤ byt s k) (h1 : byt s k ≤ 57) (ho : ¬ n < Int.tdiv (-9223372036854775808 + (byt s k - 48)) 10) : NumRel s i (10 * n - (byt s k - 48)) (k + 1) ∧ -9223372036854775808 ≤ 10 * n ∧ 10 * n ≤ 0 := by
  have e : numF n ((bI s).drop k) = numF (10 * n - (byt s k - 48)) ((bI s).drop (k + 1)) := by rw [bI_drop s hk, numF, if_neg (by omega), if_neg ho]
  have ht : Int.tdiv (-9223372036854775808 + (byt s k - 48)) 10 = -((9223372036854775808 - (byt s k - 48)) / 10) := by
    have e2 : (-9223372036854775808 + (byt s k - 48)) = -(9223372036854775808 - (byt s k - 48)) := by omega
    rw [e2, Int.neg_tdiv, Int.tdiv_eq_ediv_of_nonneg (by omega)]
  rw [ht] at ho
  have hn := h.2.2
  exact ⟨⟨e ▸ h.1, by omega, by omega⟩, by omega, by omega⟩
theorem NumRel.done {s : ByteArray} {i k : Nat} {n : Int} (h : NumRel s i n k) (hk : ¬ k < s.size) : numF 0 ((bI s).drop i) = some n := by
  rw [← h.1, List.drop_eq_nil_of_le (by rw [bI_len]; omega), numF]

theorem bI_nil {s : ByteArray} (h : s.size = 0) : bI s = [] := by rw [← List.length_eq_zero_iff, bI_len, h]
def RnumPost (s : ByteArray) (w : World) (e : Ending) (w' : World) : Prop := e = .returned (.tuple #[.int .i64 (numV (bI s)).1, .bool (numV (bI s)).2]) ∧ w = w'
theorem RnumPost.of {s : ByteArray} {w : World} {n : Int} {b : Bool} (h : numV (bI s) = (n, b)) : RnumPost s w (.returned (.tuple #[.int .i64 n, .bool b])) w := by
  unfold RnumPost
  rw [h]
  exact ⟨rfl, rfl⟩
set_option maxRecDepth 100000 in
set_option maxHeartbeats 4000000 in
theorem number_any (s : ByteArray) (hs : s.size ≤ 140737488351232) (w : World) : Calls Tryd.prog 47 #[.string s] w (RnumPost s w) := by
  obtain ⟨z, hz⟩ : ∃ z, s.size = z := ⟨_, rfl⟩
  have IX := Lib.hid (fun k (h : k < z) w => index_at s k (by rw [hz]; exact h) w)
  have HZ := Lib.hid hz
  have hl := len_at s hz
  rw [hz] at hs
  by_cases h45 : (bI s).head? = some 45
  · have HNA : Hid (NumAt s 1) := .inl ⟨rfl, h45⟩
    have h0 := (bI_head s).1 h45
    rw [hz] at h0
    have hix0 := fun w => IX.out 0 h0.1 w
    rw [h0.2, show ((0 : Nat) : Int) = 0 from rfl] at hix0
    have hz1 : 1 ≤ z := h0.1
    clear hz h0 h45
    go_enter Tryd.func47, Tryd.ntmps47
    go_wp2_with fail
    go_loopw [4, 6] (fun nn kk wr => ∃ (n : Int) (k : Nat), nn = .int .i64 n ∧ kk = .int .i64 k ∧ k ≤ z ∧ NumRel s 1 n k ∧ w = wr) (fun _ kk _ => z - (intOf kk).toNat)
    case atStart => exact ⟨0, 1, rfl, rfl, by omega, ⟨rfl, by decide, by decide⟩, rfl⟩
    case round =>
      obtain ⟨n, k, rfl, rfl, hk, hr, rfl⟩ := hrel
      have HR := Lib.hid hr
      clear hr
      by_cases hlt : k < z
      · have hix := fun w => IX.out k hlt w
        have hcb := byt_bd s k
        have HBAD := Lib.hid (HR.out.bad (by rw [HZ.out]; exact hlt))
        have HOV := Lib.hid (HR.out.over (by rw [HZ.out]; exact hlt))
        have HTU := Lib.hid (HR.out.turn (by rw [HZ.out]; exact hlt))
        obtain ⟨c, hc⟩ : ∃ c, byt s k = c := ⟨_, rfl⟩
        rw [hc] at hix hcb HBAD HOV HTU
        clear hc
        by_cases hb : c < 48 ∨ 57 < c
        · have HN := Lib.hid (HNA.out.none (HBAD.out hb))
          by_cases h48 : c < 48
          · clear hb
            go_wp2_with fail
            go_ret2
            exact RnumPost.of HN.out
          · have h57 : 57 < c := by omega
            clear hb
            go_wp2_with fail
            go_ret2
            exact RnumPost.of HN.out
        · have h48 : ¬ c < 48 := by omega
          have h57 : ¬ 57 < c := by omega
          have h48' : 48 ≤ c := by omega
          have h57' : c ≤ 57 := by omega
          have hw8 : IntKind.u8.wrap (c - 48) = c - 48 := by unfold IntKind.wrap; simp [IntKind.signed, IntKind.bits]; omega
          have hw9 : IntKind.i64.wrap (-9223372036854775808 + (c - 48)) = -9223372036854775808 + (c - 48) := by unfold IntKind.wrap; simp [IntKind.signed, IntKind.bits]; omega
          have hw10 : IntKind.i64.wrap (c - 48) = c - 48 := by unfold IntKind.wrap; simp [IntKind.signed, IntKind.bits]; omega
          obtain ⟨d, hd⟩ : ∃ d, c - 48 = d := ⟨_, rfl⟩
          rw [hd] at hw8 hw9 hw10 HOV HTU
          have hd0 : 0 ≤ d := by omega
          have hd9 : d ≤ 9 := by omega
          clear hb
          go_wp2_with fail
          · rename_i ho
            have HN := HNA.out.none (HOV.out (by simpa using ho))
            go_ret2
            exact RnumPost.of HN
          · rename_i ho
            have T := HTU.out h48' h57' (by simpa using ho)
            have hb0 := T.2.1
            have hb1 := T.2.2
            have hb2 := T.1.2.1
            have hb3 := T.1.2.2
            have e1 : wrap64 (10 * n) = 10 * n := by unfold wrap64; omega
            have e2 : wrap64 (10 * n - d) = 10 * n - d := by unfold wrap64; omega
            go_roundw
            case rel => exact ⟨10 * n - d, k + 1, by rw [e1, e2], by go_num, by omega, T.1, by first | trivial | rfl⟩
            case measure => simp [intOf]; omega
      · have HD := Lib.hid (HR.out.done (by rw [HZ.out]; exact hlt))
        have HN := Lib.hid (HNA.out.one HZ.out HD.out)
        go_wp2_with fail
        go_ret2
        exact RnumPost.of HN.out
  · have HNA : Hid (NumAt s 0) := .inr ⟨rfl, h45⟩
    by_cases hz0 : z = 0
    · subst hz0
      clear hz h45
      go_enter Tryd.func47, Tryd.ntmps47
      have HN := Lib.hid (HNA.out.zero HZ.out (n := 0) (by rw [bI_nil HZ.out]; rfl) (by decide))
      go_wp2_with fail
      go_loopw [4, 6] (fun nn kk wr => nn = .int .i64 0 ∧ kk = .int .i64 0 ∧ w = wr) (fun _ kk _ => 0)
      case atStart => exact ⟨rfl, rfl, rfl⟩
      case round =>
        obtain ⟨rfl, rfl, rfl⟩ := hrel
        go_wp2_with fail
        go_ret2
        exact RnumPost.of HN.out
    · have hc0 : byt s 0 ≠ 45 := fun h => h45 ((bI_head s).2 ⟨by omega, h⟩)
      have hix0 := fun w => IX.out 0 (by omega) w
      obtain ⟨c0, hc⟩ : ∃ c0, byt s 0 = c0 := ⟨_, rfl⟩
      rw [hc, show ((0 : Nat) : Int) = 0 from rfl] at hix0
      rw [hc] at hc0
      have b0 : (c0 == 45) = false := by rw [beq_eq_false_iff_ne]; exact hc0
      have hz1 : 0 < z := by omega
      clear hz h45 hc hc0 hz0
      go_enter Tryd.func47, Tryd.ntmps47
      go_wp2_with fail
      go_loopw [4, 6] (fun nn kk wr => ∃ (n : Int) (k : Nat), nn = .int .i64 n ∧ kk = .int .i64 k ∧ k ≤ z ∧ NumRel s 0 n k ∧ w = wr) (fun _ kk _ => z - (intOf kk).toNat)
      case atStart => exact ⟨0, 0, rfl, rfl, by omega, ⟨rfl, by decide, by decide⟩, rfl⟩
      case round =>
        obtain ⟨n, k, rfl, rfl, hk, hr, rfl⟩ := hrel
        have HR := Lib.hid hr
        clear hr
        by_cases hlt : k < z
        · have hix := fun w => IX.out k hlt w
          have hcb := byt_bd s k
          have HBAD := Lib.hid (HR.out.bad (by rw [HZ.out]; exact hlt))
          have HOV := Lib.hid (HR.out.over (by rw [HZ.out]; exact hlt))
          have HTU := Lib.hid (HR.out.turn (by rw [HZ.out]; exact hlt))
          obtain ⟨c, hc⟩ : ∃ c, byt s k = c := ⟨_, rfl⟩
          rw [hc] at hix hcb HBAD HOV HTU
          clear hc
          by_cases hb : c < 48 ∨ 57 < c
          · have HN := Lib.hid (HNA.out.none (HBAD.out hb))
            by_cases h48 : c < 48
            · clear hb
              go_wp2_with fail
              go_ret2
              exact RnumPost.of HN.out
            · have h57 : 57 < c := by omega
              clear hb
              go_wp2_with fail
              go_ret2
              exact RnumPost.of HN.out
          · have h48 : ¬ c < 48 := by omega
            have h57 : ¬ 57 < c := by omega
            have h48' : 48 ≤ c := by omega
            have h57' : c ≤ 57 := by omega
            have hw8 : IntKind.u8.wrap (c - 48) = c - 48 := by unfold IntKind.wrap; simp [IntKind.signed, IntKind.bits]; omega
            have hw9 : IntKind.i64.wrap (-9223372036854775808 + (c - 48)) = -9223372036854775808 + (c - 48) := by unfold IntKind.wrap; simp [IntKind.signed, IntKind.bits]; omega
            have hw10 : IntKind.i64.wrap (c - 48) = c - 48 := by unfold IntKind.wrap; simp [IntKind.signed, IntKind.bits]; omega
            obtain ⟨d, hd⟩ : ∃ d, c - 48 = d := ⟨_, rfl⟩
            rw [hd] at hw8 hw9 hw10 HOV HTU
            have hd0 : 0 ≤ d := by omega
            have hd9 : d ≤ 9 := by omega
            clear hb
            go_wp2_with fail
            · rename_i ho
              have HN := HNA.out.none (HOV.out (by simpa using ho))
              go_ret2
              exact RnumPost.of HN
            · rename_i ho
              have T := HTU.out h48' h57' (by simpa using ho)
              have hb0 := T.2.1
              have hb1 := T.2.2
              have hb2 := T.1.2.1
              have hb3 := T.1.2.2
              have e1 : wrap64 (10 * n) = 10 * n := by unfold wrap64; omega
              have e2 : wrap64 (10 * n - d) = 10 * n - d := by unfold wrap64; omega
              go_roundw
              case rel => exact ⟨10 * n - d, k + 1, by rw [e1, e2], by go_num, by omega, T.1, by first | trivial | rfl⟩
              case measure => simp [intOf]; omega
        · have HD := Lib.hid (HR.out.done (by rw [HZ.out]; exact hlt))
          by_cases hm : n = -9223372036854775808
          · subst hm
            have HN := Lib.hid (HNA.out.min HD.out)
            go_wp2_with fail
            go_ret2
            exact RnumPost.of HN.out
          · have HN : Hid (numV (bI s) = (-n, true)) := by show _ = _; rw [HNA.out.zero HZ.out HD.out hm, decide_eq_true (by omega)]
            have hn0 := HR.out.2.1
            have hn1 := HR.out.2.2
            go_wp2_with fail
            go_ret2
            exact RnumPost.of HN.out

end Go.Proofs.YtmkpbffjgpoplaaDoor

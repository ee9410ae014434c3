/- A number's text: the document's. -/
import Derived.Laws.Runes
import Derived.Laws.Concat
import Derived.Laws.Cover4
import Derived.Test.YthgenobbpaclhaaDoorRows
import Derived.WalkKit
import Derived.WalkSpells
import Derived.WalkLawsBesides
import Derived.Deep.QuietTactic
import Derived.BigQuiet
import Derived.Lib.Hide
import Derived.Lib.ConvBytes
import Derived.Deep.Slices
import Derived.ProofKit
import Derived.SizedLaws
import Derived.Test.YthgenobbpaclhaaDoorShelf
import Derived.Laws.BytesArg
import Derived.Laws.BitsLemmas
import Derived.Deep.RegionHeld3
import Derived.Deep.AppendLies
import Derived.Maps.AppendAt
import Derived.Lib.ItoaLen
import Derived.Test.YthgenobbpaclhaaDoorX5
set_option linter.unusedVariables false
set_option linter.unusedSimpArgs false
set_option linter.unnecessarySimpa false
namespace Go.Proofs.YthgenobbpaclhaaDoor
open Go.RowKit Go.Shelf
attribute [local go_sem] Oper.semAt_some

theorem enc_small (n : Int) (h0 : 0 ≤ n) (h1 : n < 128) : Utf8.encode n = ⟨#[UInt8.ofNat n.toNat]⟩ := by
  have hv : Utf8.valid n = true := by rw [validRune_eq]; unfold validRune; simp; omega
  have hc : n.toNat < 128 := by omega
  unfold Utf8.encode
  simp only [hv, if_true, hc]
/-- How far the text of q has come: u is left, acc stands. -/
def DigRel (q u : Nat) (acc : ByteArray) : Prop := (u = 0 ∧ acc.data.toList = Lib.decDigits q) ∨ (Lib.decDigits u ++ acc.data.toList = Lib.decDigits q ∧ (acc.data.toList ≠ [] → u ≠ 0))
theorem DigRel.step {q u : Nat} {acc : ByteArray} (h : DigRel q u acc) (hg : ¬ (u = 0 ∧ acc.data.toList ≠ [])) : DigRel q (u / 10) (⟨#[UInt8.ofNat (48 + u % 10)]⟩ ++ acc) ∧ (⟨#[UInt8.ofNat (48 + u % 10)]⟩ ++ acc : ByteArray).data.toList ≠ [] := by
  have hd : (⟨#[UInt8.ofNat (48 + u % 10)]⟩ ++ acc : ByteArray).data.toList = UInt8.ofNat (48 + u % 10) :: acc.data.toList := by
    rw [ByteArray.data_append, Array.toList_append]; rfl
  refine ⟨?_, by rw [hd]; simp⟩
  have h2 : Lib.decDigits u ++ acc.data.toList = Lib.decDigits q := by
    rcases h with ⟨rfl, h⟩ | ⟨h, _⟩
    · exfalso
      exact hg ⟨rfl, by rw [h]; exact dec_ne q⟩
    · exact h
  unfold DigRel
  rw [hd]
  rw [Lib.decDigits] at h2
  by_cases hu : u < 10
  · rw [dif_pos hu] at h2
    left
    refine ⟨by omega, ?_⟩
    rw [← h2, Nat.mod_eq_of_lt hu]
    rfl
  · rw [dif_neg hu, List.append_assoc] at h2
    right
    exact ⟨h2, fun _ => by omega⟩
theorem DigRel.done {q u : Nat} {acc : ByteArray} (h : DigRel q u acc) (h0 : u = 0) (hg : acc.data.toList ≠ []) : acc = ⟨(Lib.decDigits q).toArray⟩ := by
  rcases h with ⟨_, h⟩ | ⟨_, h⟩
  · apply ByteArray.ext
    rw [← Array.toList_inj, h]
  · exact absurd h0 (h hg)

theorem dec_len {q : Nat} (h : q ≤ 9223372036854775808) : (Lib.decDigits q).length ≤ 30 := by
  by_cases h0 : q = 0
  · subst h0; rw [Lib.decDigits]; simp
  · have := Lib.itoa_length_le (-(q : Int)) (by omega) (by omega)
    unfold Lib.itoa at this
    rw [if_pos (by omega), List.length_cons, Int.natAbs_neg, Int.natAbs_natCast] at this
    omega
theorem DigRel.len {q u : Nat} {acc : ByteArray} (h : DigRel q u acc) (hq : q ≤ 9223372036854775808) : acc.size ≤ 30 := by
  have h1 := dec_len hq
  have h2 : acc.size = acc.data.toList.length := by rw [Array.length_toList]; rfl
  rcases h with ⟨_, h⟩ | ⟨h, _⟩
  · rw [h2, h]; exact h1
  · rw [← h, List.length_append] at h1; omega
def accI : Value → Nat | .string a => if a.size = 0 then 1 else 0 | _ => 0
theorem accI_ne {a : ByteArray} (h : a.data.toList ≠ []) : accI (.string a) = 0 := by
  show (if a.size = 0 then 1 else 0) = 0
  rw [if_neg]
  intro e
  apply h
  rw [← List.length_eq_zero_iff, Array.length_toList]
  exact e
theorem accI_le (v : Value) : accI v ≤ 1 := by
  unfold accI
  split
  · split <;> omega
  · omega

theorem enc_dig (u : Nat) : Utf8.encode (48 + (u : Int) % 10) = ⟨#[UInt8.ofNat (48 + u % 10)]⟩ := by
  rw [enc_small _ (by omega) (by omega)]
  have : (48 + (u : Int) % 10).toNat = 48 + u % 10 := by omega
  rw [this]
theorem wrap_dig (u : Nat) : IntKind.i32.wrap (48 + (u : Int) % 10) = 48 + (u : Int) % 10 := by unfold IntKind.wrap; simp [IntKind.signed, IntKind.bits]; omega
theorem minus_app (l : List UInt8) : (⟨#[45]⟩ ++ ⟨l.toArray⟩ : ByteArray) = ⟨(45 :: l).toArray⟩ := by
  apply ByteArray.ext
  rw [ByteArray.data_append, ← Array.toList_inj, Array.toList_append]
  rfl
set_option maxRecDepth 100000 in
set_option maxHeartbeats 2000000 in
theorem rdigits_nn (q : Nat) (hq : q ≤ 9223372036854775807) (w : World) : Calls Tryd.prog 76 #[.int .i64 q] w fun e w' => e = .returned (.string ⟨(Lib.decDigits q).toArray⟩) ∧ w = w' := by
  have hq0 : ¬ ((q : Int) < 0) := by omega
  have hq' : (q : Int) ≤ 9223372036854775807 := by omega
  have hw0 : IntKind.u64.wrap (q : Int) = (q : Int) := by unfold IntKind.wrap; simp [IntKind.signed, IntKind.bits]; omega
  have HQ : Hid (q ≤ 9223372036854775808) := Nat.le_trans hq (by decide)
  clear hq
  go_enter Tryd.func76, Tryd.ntmps76
  go_wp2_with fail
  clear hq' hw0
  go_loopw [3, 4] (fun uu ss wr => ∃ (u : Nat) (acc : ByteArray), uu = .int .u64 u ∧ ss = .string acc ∧ u ≤ q ∧ DigRel q u acc ∧ w = wr) (fun uu ss _ => (intOf uu).toNat * 2 + accI ss)
  case atStart => exact ⟨q, ⟨#[]⟩, rfl, rfl, Nat.le_refl _, .inr ⟨by simp, fun h => absurd rfl h⟩, rfl⟩
  case round =>
    obtain ⟨u, acc, rfl, rfl, huq, hd, rfl⟩ := hrel
    have HD := Lib.hid hd
    have hal := hd.len HQ.out
    have HU : Hid (u ≤ 9223372036854775808 ∧ u ≤ q) := ⟨Nat.le_trans huq HQ.out, huq⟩
    clear hd huq
    by_cases hu : u = 0
    · subst hu
      by_cases ha : acc.data.toList = []
      · obtain rfl : acc = ⟨#[]⟩ := by apply ByteArray.ext; rw [← Array.toList_inj, ha]
        have HS := Lib.hid (HD.out.step (by simp))
        go_wp2_with fail
        go_roundw
        case rel => exact ⟨0, _, by go_num, rfl, HU.out.2, HS.out.1, by first | trivial | rfl⟩
        case measure =>
          simp only [intOf]
          first | (show _ < _; decide +kernel) | (simp; decide +kernel)
      · have HE := Lib.hid (HD.out.done rfl ha)
        have f1 : acc.toList.isEmpty = false := by rw [ByteArray.toList_eq]; simpa using ha
        have f2 : (acc.toList == ({ data := #[] } : ByteArray).toList) = false := by rw [ByteArray.toList_eq, ByteArray.toList_eq]; simpa using ha
        have f3 : (acc.toList == []) = false := by rw [ByteArray.toList_eq]; simpa using ha
        clear ha
        go_wp2_with fail
        go_ret
        exact ⟨by rw [HE.out] <;> first | rfl | exact congrArg (fun x => Ending.returned (Value.string x)) (minus_app _), rfl⟩
    · have HS := Lib.hid (HD.out.step (by omega))
      have hu0 : 0 < (u : Int) := by omega
      have hu1 : decide (0 < (u : Int)) = true := decide_eq_true hu0
      clear hu
      go_wp2_with fail
      · exfalso; have := encode_size_le (48 + (u : Int) % 10); omega
      have hwq : IntKind.u64.wrap ((u : Int) / 10) = (u : Int) / 10 := by have := HU.out; unfold IntKind.wrap; simp [IntKind.signed, IntKind.bits]; omega
      go_roundw
      case rel => exact ⟨u / 10, _, by rw [hwq] <;> rfl, rfl, Nat.le_trans (Nat.div_le_self _ _) HU.out.2, by rw [enc_dig]; exact HS.out.1, by first | trivial | rfl⟩
      case measure =>
        have a1 := accI_ne HS.out.2
        have a3 := accI_le (.string acc)
        rw [enc_dig, hwq]
        simp only [intOf]
        rw [a1]
        omega

set_option maxRecDepth 100000 in
set_option maxHeartbeats 2000000 in
theorem rdigits_neg (q : Nat) (h1 : 0 < q) (hq : q ≤ 9223372036854775808) (w : World) : Calls Tryd.prog 76 #[.int .i64 (-(q : Int))] w fun e w' => e = .returned (.string ⟨(45 :: Lib.decDigits q).toArray⟩) ∧ w = w' := by
  have hq0 : -(q : Int) < 0 := by omega
  obtain ⟨n0, hn0⟩ : ∃ n0 : Int, -(q : Int) = n0 := ⟨_, rfl⟩
  rw [hn0] at hq0 ⊢
  obtain ⟨U0, hU0, hU1⟩ : ∃ U0 : Int, IntKind.u64.wrap n0 = U0 ∧ IntKind.u64.wrap (-U0) = (q : Int) := by
    refine ⟨18446744073709551616 - q, ?_, ?_⟩
    · rw [← hn0]; unfold IntKind.wrap; simp [IntKind.signed, IntKind.bits]; omega
    · unfold IntKind.wrap; simp [IntKind.signed, IntKind.bits]; omega
  have HQ : Hid (q ≤ 9223372036854775808) := hq
  have hb : decide (n0 < 0) = true := decide_eq_true hq0
  clear hq h1 hn0
  go_enter Tryd.func76, Tryd.ntmps76
  go_wp2_with fail
  clear hU0 hU1
  go_loopw [3, 4] (fun uu ss wr => ∃ (u : Nat) (acc : ByteArray), uu = .int .u64 u ∧ ss = .string acc ∧ u ≤ q ∧ DigRel q u acc ∧ w = wr) (fun uu ss _ => (intOf uu).toNat * 2 + accI ss)
  case atStart => exact ⟨q, ⟨#[]⟩, rfl, rfl, Nat.le_refl _, .inr ⟨by simp, fun h => absurd rfl h⟩, rfl⟩
  case round =>
    obtain ⟨u, acc, rfl, rfl, huq, hd, rfl⟩ := hrel
    have HD := Lib.hid hd
    have hal := hd.len HQ.out
    have HU : Hid (u ≤ 9223372036854775808 ∧ u ≤ q) := ⟨Nat.le_trans huq HQ.out, huq⟩
    clear hd huq
    by_cases hu : u = 0
    · subst hu
      by_cases ha : acc.data.toList = []
      · obtain rfl : acc = ⟨#[]⟩ := by apply ByteArray.ext; rw [← Array.toList_inj, ha]
        have HS := Lib.hid (HD.out.step (by simp))
        go_wp2_with fail
        go_roundw
        case rel => exact ⟨0, _, by go_num, rfl, HU.out.2, HS.out.1, by first | trivial | rfl⟩
        case measure =>
          simp only [intOf]
          first | (show _ < _; decide +kernel) | (simp; decide +kernel)
      · have HE := Lib.hid (HD.out.done rfl ha)
        have f1 : acc.toList.isEmpty = false := by rw [ByteArray.toList_eq]; simpa using ha
        have f2 : (acc.toList == ({ data := #[] } : ByteArray).toList) = false := by rw [ByteArray.toList_eq, ByteArray.toList_eq]; simpa using ha
        have f3 : (acc.toList == []) = false := by rw [ByteArray.toList_eq]; simpa using ha
        clear ha
        go_wp2_with fail
        go_ret
        exact ⟨by rw [HE.out] <;> first | rfl | exact congrArg (fun x => Ending.returned (Value.string x)) (minus_app _), rfl⟩
    · have HS := Lib.hid (HD.out.step (by omega))
      have hu0 : 0 < (u : Int) := by omega
      have hu1 : decide (0 < (u : Int)) = true := decide_eq_true hu0
      clear hu
      go_wp2_with fail
      · exfalso; have := encode_size_le (48 + (u : Int) % 10); omega
      have hwq : IntKind.u64.wrap ((u : Int) / 10) = (u : Int) / 10 := by have := HU.out; unfold IntKind.wrap; simp [IntKind.signed, IntKind.bits]; omega
      go_roundw
      case rel => exact ⟨u / 10, _, by rw [hwq] <;> rfl, rfl, Nat.le_trans (Nat.div_le_self _ _) HU.out.2, by rw [enc_dig]; exact HS.out.1, by first | trivial | rfl⟩
      case measure =>
        have a1 := accI_ne HS.out.2
        have a3 := accI_le (.string acc)
        rw [enc_dig, hwq]
        simp only [intOf]
        rw [a1]
        omega
/-- A number's text. -/
theorem rdigits (n : Int) (h0 : -9223372036854775808 ≤ n) (h1 : n ≤ 9223372036854775807) (w : World) : Calls Tryd.prog 76 #[.int .i64 n] w fun e w' => e = .returned (.string ⟨(Lib.itoa n).toArray⟩) ∧ w = w' := by
  by_cases hn : n < 0
  · have e : n = -((n.natAbs : Nat) : Int) := by omega
    have h := rdigits_neg n.natAbs (by omega) (by omega) w
    rw [← e] at h
    unfold Lib.itoa
    rw [if_pos hn]
    exact h
  · have e : n = ((n.natAbs : Nat) : Int) := by omega
    have h := rdigits_nn n.natAbs (by omega) w
    rw [← e] at h
    have e2 : n.toNat = n.natAbs := by omega
    unfold Lib.itoa
    rw [if_neg hn]
    first | exact h | (rw [e2]; exact h)

end Go.Proofs.YthgenobbpaclhaaDoor

/- Two hexadecimal digits as a number: the library's ParseUint at base 16. -/
import Derived.Test.YthgenobbpaclhaaDoorRows
import Derived.WalkKit
import Derived.WalkSpells
import Derived.WalkLawsBesides
import Derived.Deep.QuietTactic
import Derived.BigQuiet
import Derived.Lib.Hide
import Derived.Lib.ConvBytes
import Derived.Deep.Slices
import Derived.ProofKit
import Derived.SizedLaws
import Derived.Test.YthgenobbpaclhaaDoorShelf
import Derived.Laws.BytesArg
import Derived.Laws.BitsLemmas
import Derived.Deep.RegionHeld3
import Derived.Deep.AppendLies
import Derived.Maps.AppendAt
import Derived.Test.YthgenobbpaclhaaDoorN6
import Derived.Test.YthgenobbpaclhaaDoorV3
import Derived.Test.YthgenobbpaclhaaDoorX1
set_option linter.unusedVariables false
set_option linter.unusedSimpArgs false
set_option linter.unnecessarySimpa false
namespace Go.Proofs.YthgenobbpaclhaaDoor
open Go.RowKit Go.Shelf
attribute [local go_sem] Oper.semAt_some

def IntPost (w : World) (c1 c2 : Int) (e : Ending) (w' : World) : Prop :=
  ∃ v : Int, 0 ≤ v ∧ v < 256 ∧ Kept [] w w' ∧ ((e = .returned (.tuple #[.int .u64 v, .nilIface])) ∨ (e = .returned (.tuple #[.int .u64 v, .iface 137 (.int .i64 2)]) ∧ ∀ a, 0 ≤ a → a < 16 → (c1 ≠ hexI a ∨ ∀ b, 0 ≤ b → b < 16 → c2 ≠ hexI b))) ∧
    ∀ a b, 0 ≤ a → a < 16 → 0 ≤ b → b < 16 → c1 = hexI a → c2 = hexI b → v = 16 * a + b

theorem lower_all : ∀ c : Fin 256, (0 ≤ Go.bits .or .u8 (c.val : Int) 32 ∧ Go.bits .or .u8 (c.val : Int) 32 < 256) ∧ (97 ≤ c.val → c.val ≤ 102 → Go.bits .or .u8 (c.val : Int) 32 = c.val) := by decide +kernel
theorem lower_bd (c : Int) (h0 : 0 ≤ c) (h1 : c < 256) : 0 ≤ Go.bits .or .u8 c 32 ∧ Go.bits .or .u8 c 32 < 256 := by
  have h := (lower_all ⟨c.toNat, by omega⟩).1
  simp only [Int.toNat_of_nonneg h0] at h
  exact h
theorem lower_low (c : Int) (h0 : 97 ≤ c) (h1 : c ≤ 102) : Go.bits .or .u8 c 32 = c := by
  have h := (lower_all ⟨c.toNat, by omega⟩).2 (by show 97 ≤ c.toNat; omega) (by show c.toNat ≤ 102; omega)
  simp only [Int.toNat_of_nonneg (show 0 ≤ c by omega)] at h
  exact h
/-- A digit and its number. -/
def Dig (c d : Int) : Prop := (48 ≤ c ∧ c ≤ 57 ∧ d = c - 48) ∨ (¬ (48 ≤ c ∧ c ≤ 57) ∧ (97 ≤ c → c ≤ 102 → d = c - 87))
theorem Dig.hex {c d a : Int} (h : Dig c d) (ha : 0 ≤ a) (ha' : a < 16) (hc : c = hexI a) : d = a := by
  unfold hexI at hc
  rcases h with ⟨h1, h2, rfl⟩ | ⟨h1, h2⟩
  · split at hc <;> omega
  · split at hc
    · omega
    · have := h2 (by omega) (by omega); omega
/-- What is known behind k digits. -/
def Acc (c1 c2 : Int) (k : Nat) (n : Int) : Prop := (k = 0 → n = 0) ∧ (k = 1 → Dig c1 n) ∧ (k = 2 → ∃ d1 d2, Dig c1 d1 ∧ Dig c2 d2 ∧ n = 16 * d1 + d2)
theorem Acc.zero (c1 c2 : Int) : Acc c1 c2 0 0 := ⟨fun _ => rfl, (fun h => by cases h), (fun h => by cases h)⟩
theorem Acc.step {t : ByteArray} {k : Nat} {n c d : Int} (h : Acc (byt t 0) (byt t 1) k n) (hk : k < 2) (hc : byt t k = c) (hd : Dig c d) (_ : d < 16) : Acc (byt t 0) (byt t 1) (k + 1) (n * 16 + d) := by
  have : k = 0 ∨ k = 1 := by omega
  rcases this with rfl | rfl
  · have := h.1 rfl
    subst this
    subst hc
    refine ⟨fun h => (by cases h), fun _ => ?_, fun h => (by cases h)⟩
    simpa using hd
  · subst hc
    exact ⟨fun h => (by cases h), fun h => (by cases h), fun _ => ⟨n, d, h.2.1 rfl, hd, by omega⟩⟩
theorem Acc.bad {t : ByteArray} {k : Nat} {c : Int} {c1 c2 : Int} (hk : k < 2) (hc : byt t k = c) (h : ∀ a, 0 ≤ a → a < 16 → c ≠ hexI a) (e1 : c1 = byt t 0) (e2 : c2 = byt t 1) : ∀ a, 0 ≤ a → a < 16 → (c1 ≠ hexI a ∨ ∀ b, 0 ≤ b → b < 16 → c2 ≠ hexI b) := by
  intro a h0 h1
  have : k = 0 ∨ k = 1 := by omega
  rcases this with rfl | rfl
  · left; rw [e1, hc]; exact h a h0 h1
  · right; rw [e2, hc]; exact h
theorem hexI_dig (c : Int) (h : ¬ (48 ≤ c ∧ c ≤ 57)) (h' : ¬ (97 ≤ c ∧ c ≤ 102)) : ∀ a, 0 ≤ a → a < 16 → c ≠ hexI a := by
  intro a h0 h1 e
  unfold hexI at e
  split at e <;> omega

set_option maxRecDepth 100000 in
set_option maxHeartbeats 4000000 in
theorem parse16_int (t : ByteArray) (ht : t.size = 2) (w : World) :
    Calls Tryd.prog 99 #[.string t, .int .i64 16, .int .i64 8] w (IntPost w (byt t 0) (byt t 1)) := by
  have hem := empty_list (s := t) (by omega)
  have cv := conv_bytes t ht
  have HCV : Hid ((convert 9 44 (.string t)).run Tryd.prog w = .ok (.slice (some ⟨w.heap.size, 0, none⟩) 2 (bcap w t)) (bwor w t)) := cv w
  have HKW := Lib.hid (bwor_kept w t)
  have hl := len_at t ht
  have HB : Hid (∀ j, j < 2 → (bwor w t).cell? ⟨w.heap.size, j, none⟩ = some (.int .u8 (byt t j))) := fun j hj => bwor_cell w t j (by omega)
  have cw := HCV.out
  clear cv
  go_enter Tryd.func99, Tryd.ntmps99
  go_wp2_with fail
  go_loopw [12, 13, 101] (fun u v i wr => ∃ k : Nat, k ≤ 2 ∧ i = .int .i64 k ∧ u = .bool false ∧ ∃ n : Int, v = .int .u64 n ∧ 0 ≤ n ∧ n < 16 ^ k ∧ Acc (byt t 0) (byt t 1) k n ∧ wr = bwor w t) (fun _ _ i _ => 2 - (intOf i).toNat)
  case atStart => exact ⟨0, by omega, rfl, rfl, 0, rfl, by omega, by simp, Acc.zero _ _, rfl⟩
  case round =>
    obtain ⟨k, hk, rfl, rfl, n, rfl, hn0, hn1, hacc, rfl⟩ := hrel
    by_cases hlt : k < 2
    · have hcell := HB.out k hlt
      have hcb := byt_bd t k
      have hn16 : n < 16 := by
        have : k = 0 ∨ k = 1 := by omega
        rcases this with rfl | rfl
        · simp at hn1; omega
        · simpa using hn1
      have hpw : ∀ d : Int, 0 ≤ d → d < 16 → n * 16 + d < 16 ^ (k + 1) := by
        intro d h0 h1
        have : k = 0 ∨ k = 1 := by omega
        rcases this with rfl | rfl
        · simp at hn1; simp; omega
        · simp at hn1; simp; omega
      have HPW := Lib.hid hpw
      obtain ⟨c, hc⟩ : ∃ c, byt t k = c := ⟨_, rfl⟩
      rw [hc] at hcell hcb
      have HSTEP := Lib.hid (fun d h0 h1 => hacc.step hlt hc (d := d) h0 h1)
      have HBAD := Lib.hid (fun h => Acc.bad (c1 := byt t 0) (c2 := byt t 1) hlt (c := c) hc h rfl rfl)
      have HKK : Hid (Kept [] w (bwor w t)) := HKW.out
      have HACC := Lib.hid hacc
      obtain ⟨lc, hlc⟩ : ∃ lc, Go.bits .or .u8 c 32 = lc := ⟨_, rfl⟩
      have hlb : 0 ≤ lc ∧ lc < 256 := by rw [← hlc]; exact lower_bd c hcb.1 hcb.2
      have HLF : Hid (97 ≤ c → c ≤ 102 → lc = c) := by intro h1 h2; rw [← hlc]; exact lower_low c h1 h2
      have HLC := Lib.hid hlc
      clear hc hacc hn1 hpw hlc
      have hm : IntKind.u64.wrap (n * 16) = n * 16 := by unfold IntKind.wrap; simp [IntKind.signed, IntKind.bits]; omega
      by_cases h1 : 48 ≤ c ∧ c ≤ 57
      · have b95 : (c == 95) = false := by rw [beq_eq_false_iff_ne]; omega
        have d1 : decide (48 ≤ c) = true := decide_eq_true h1.1
        have d2 : decide (c ≤ 57) = true := decide_eq_true h1.2
        have hd0 : 0 ≤ c - 48 := by omega
        have hd1 : c - 48 < 16 := by omega
        have HN2 := Lib.hid (HPW.out (c - 48) (by omega) (by omega))
        have HP2 := Lib.hid (HSTEP.out (c - 48) (.inl ⟨h1.1, h1.2, rfl⟩) (by omega))
        have hs1 : IntKind.u8.wrap (c - 48) = c - 48 := by unfold IntKind.wrap; simp [IntKind.signed, IntKind.bits]; omega
        have hs2 : IntKind.u64.wrap (n * 16 + (c - 48)) = n * 16 + (c - 48) := by unfold IntKind.wrap; simp [IntKind.signed, IntKind.bits]; omega
        clear h1
        go_wp2_with fail
        go_roundw
        case rel => exact ⟨k + 1, by omega, by go_num, rfl, n * 16 + (c - 48), rfl, by omega, HN2.out, HP2.out, trivial⟩
        case measure => simp [intOf]; omega
      · have hdig : ∀ hb : (∀ a, 0 ≤ a → a < 16 → c ≠ hexI a), ∀ a b, 0 ≤ a → a < 16 → 0 ≤ b → b < 16 → byt t 0 = hexI a → byt t 1 = hexI b → (0 : Int) = 16 * a + b := by
          intro hb a b h0 h1 h2 h3 e1 e2
          rcases HBAD.out hb a h0 h1 with h | h
          · exact absurd e1 h
          · exact absurd e2 (h b h2 h3)
        have HDIG := Lib.hid hdig
        clear hdig
        have dA : (decide (48 ≤ c) = true ∧ decide (c ≤ 57) = false) ∨ decide (48 ≤ c) = false := by
          by_cases h : 48 ≤ c
          · left; exact ⟨decide_eq_true h, decide_eq_false (by omega)⟩
          · right; exact decide_eq_false h
        have bA : (c == 95) = true ∨ (c == 95) = false := by cases c == 95 <;> simp
        have HH1 : Hid (¬ (48 ≤ c ∧ c ≤ 57)) := h1
        clear h1
        have HBDX : Hid (∀ hb : ¬ (97 ≤ c ∧ c ≤ 102), ∀ a, 0 ≤ a → a < 16 → (byt t 0 ≠ hexI a ∨ ∀ b, 0 ≤ b → b < 16 → byt t 1 ≠ hexI b)) := fun hb => HBAD.out (hexI_dig c HH1.out hb)
        have HBZX : Hid (∀ hb : ¬ (97 ≤ c ∧ c ≤ 102), ∀ a b, 0 ≤ a → a < 16 → 0 ≤ b → b < 16 → byt t 0 = hexI a → byt t 1 = hexI b → (0 : Int) = 16 * a + b) := fun hb => HDIG.out (hexI_dig c HH1.out hb)
        by_cases g1 : 97 ≤ lc
        · by_cases g2 : lc ≤ 122
          · have e1 : decide (97 ≤ lc) = true := decide_eq_true g1
            have e2 : decide (lc ≤ 122) = true := decide_eq_true g2
            have hs1 : IntKind.u8.wrap (lc - 97) = lc - 97 := by unfold IntKind.wrap; simp [IntKind.signed, IntKind.bits]; omega
            have hs3 : IntKind.u8.wrap (lc - 97 + 10) = lc - 97 + 10 := by unfold IntKind.wrap; simp [IntKind.signed, IntKind.bits]; omega
            by_cases g3 : lc ≤ 102
            · have hd1 : lc - 97 + 10 < 16 := by omega
              have hd0 : 0 ≤ lc - 97 + 10 := by omega
              have HN2 := Lib.hid (HPW.out (lc - 97 + 10) (by omega) (by omega))
              have HP2 := Lib.hid (HSTEP.out (lc - 97 + 10) (.inr ⟨HH1.out, fun h h' => by have := HLF.out h h'; omega⟩) (by omega))
              have hs2 : IntKind.u64.wrap (n * 16 + (lc - 97 + 10)) = n * 16 + (lc - 97 + 10) := by unfold IntKind.wrap; simp [IntKind.signed, IntKind.bits]; omega
              rcases dA with ⟨d1, d2⟩ | d1
              all_goals
                rcases bA with b1 | b1
                all_goals
                  go_wp2_with fail
                  refine (Tryd.internal_strconv_lower _ _).mono ?_
                  rintro e w2 ⟨rfl, rfl⟩
                  rw [HLC.out]
                  go_wp2_with fail
                  refine (Tryd.internal_strconv_lower _ _).mono ?_
                  rintro e w2 ⟨rfl, rfl⟩
                  rw [HLC.out]
                  go_wp2_with fail
                  refine (Tryd.internal_strconv_lower _ _).mono ?_
                  rintro e w2 ⟨rfl, rfl⟩
                  rw [HLC.out]
                  go_wp2_with fail
                  go_roundw
                  case rel => exact ⟨k + 1, by omega, by go_num, rfl, n * 16 + (lc - 97 + 10), rfl, by omega, HN2.out, HP2.out, trivial⟩
                  case measure => simp [intOf]; omega
            · have hd1 : 16 ≤ lc - 97 + 10 := by omega
              have hcx : ¬ (97 ≤ c ∧ c ≤ 102) := fun h => by have := HLF.out h.1 h.2; omega
              have HBD := Lib.hid (HBDX.out hcx)
              have HBZ := Lib.hid (HBZX.out hcx)
              clear hcx
              rcases dA with ⟨d1, d2⟩ | d1
              all_goals
                rcases bA with b1 | b1
                all_goals
                  go_wp2_with fail
                  refine (Tryd.internal_strconv_lower _ _).mono ?_
                  rintro e w2 ⟨rfl, rfl⟩
                  rw [HLC.out]
                  go_wp2_with fail
                  refine (Tryd.internal_strconv_lower _ _).mono ?_
                  rintro e w2 ⟨rfl, rfl⟩
                  rw [HLC.out]
                  go_wp2_with fail
                  refine (Tryd.internal_strconv_lower _ _).mono ?_
                  rintro e w2 ⟨rfl, rfl⟩
                  rw [HLC.out]
                  go_wp2_with fail
                  go_ret2
                  exact ⟨0, by omega, by omega, HKK.out, .inr ⟨rfl, HBD.out⟩, HBZ.out⟩
          · have e1 : decide (97 ≤ lc) = true := decide_eq_true g1
            have e2 : decide (lc ≤ 122) = false := decide_eq_false g2
            have hcx : ¬ (97 ≤ c ∧ c ≤ 102) := fun h => by have := HLF.out h.1 h.2; omega
            have HBD := Lib.hid (HBDX.out hcx)
            have HBZ := Lib.hid (HBZX.out hcx)
            clear hcx
            rcases dA with ⟨d1, d2⟩ | d1
            all_goals
              rcases bA with b1 | b1
              all_goals
                go_wp2_with fail
                refine (Tryd.internal_strconv_lower _ _).mono ?_
                rintro e w2 ⟨rfl, rfl⟩
                rw [HLC.out]
                go_wp2_with fail
                refine (Tryd.internal_strconv_lower _ _).mono ?_
                rintro e w2 ⟨rfl, rfl⟩
                rw [HLC.out]
                go_wp2_with fail
                go_ret2
                exact ⟨0, by omega, by omega, HKK.out, .inr ⟨rfl, HBD.out⟩, HBZ.out⟩
        · have e1 : decide (97 ≤ lc) = false := decide_eq_false g1
          have hcx : ¬ (97 ≤ c ∧ c ≤ 102) := fun h => by have := HLF.out h.1 h.2; omega
          have HBD := Lib.hid (HBDX.out hcx)
          have HBZ := Lib.hid (HBZX.out hcx)
          clear hcx
          rcases dA with ⟨d1, d2⟩ | d1
          all_goals
            rcases bA with b1 | b1
            all_goals
              go_wp2_with fail
              refine (Tryd.internal_strconv_lower _ _).mono ?_
              rintro e w2 ⟨rfl, rfl⟩
              rw [HLC.out]
              go_wp2_with fail
              go_ret2
              exact ⟨0, by omega, by omega, HKK.out, .inr ⟨rfl, HBD.out⟩, HBZ.out⟩
    · obtain rfl : k = 2 := by omega
      have HACC := Lib.hid hacc
      have hn256 : n < 256 := by simpa using hn1
      clear hacc hn1
      go_wp2_with fail
      go_ret2
      refine ⟨n, hn0, hn256, HKW.out, .inl rfl, fun a b h0 h1 h2 h3 e1 e2 => ?_⟩
      obtain ⟨d1, d2, g1, g2, rfl⟩ := HACC.out.2.2 rfl
      rw [g1.hex h0 h1 e1, g2.hex h2 h3 e2]

end Go.Proofs.YthgenobbpaclhaaDoor

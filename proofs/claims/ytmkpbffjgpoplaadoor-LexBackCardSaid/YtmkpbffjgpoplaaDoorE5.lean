/- Symbols: the program's and the document's. -/
import Derived.Test.YtmkpbffjgpoplaaDoorRows
import Derived.WalkKit
import Derived.WalkSpells
import Derived.WalkLawsBesides
import Derived.Deep.QuietTactic
import Derived.BigQuiet
import Derived.Lib.Hide
import Derived.Lib.ConvBytes
import Derived.Deep.Slices
import Derived.ProofKit
import Derived.SizedLaws
import Derived.Test.YtmkpbffjgpoplaaDoorShelf
import Derived.Laws.BytesArg
import Derived.Laws.BitsLemmas
import Derived.Deep.RegionHeld3
import Derived.Deep.AppendLies
import Derived.Maps.AppendAt
import Derived.Lib.ItoaLen
import Derived.Laws.Runes
import Derived.Laws.Concat
import Derived.Laws.Cover4
import Derived.Lib.SmallJoins
import Derived.Test.YtmkpbffjgpoplaaDoorD3
import Derived.Test.YtmkpbffjgpoplaaDoorE3
import Derived.Test.YtmkpbffjgpoplaaDoorX8
set_option linter.unusedVariables false
set_option linter.unusedSimpArgs false
set_option linter.unnecessarySimpa false
namespace Go.Proofs.YtmkpbffjgpoplaaDoor
open Go.RowKit Go.Shelf
attribute [local go_sem] Oper.semAt_some

def symP : List ByteArray := [⟨#[33, 61]⟩, ⟨#[60, 61]⟩, ⟨#[62, 61]⟩, ⟨#[40]⟩, ⟨#[41]⟩, ⟨#[91]⟩, ⟨#[93]⟩, ⟨#[44]⟩, ⟨#[46]⟩, ⟨#[59]⟩, ⟨#[38]⟩, ⟨#[124]⟩, ⟨#[58]⟩, ⟨#[61]⟩, ⟨#[60]⟩, ⟨#[62]⟩]
def symR : List ByteArray := [⟨#[40]⟩, ⟨#[41]⟩, ⟨#[91]⟩, ⟨#[93]⟩, ⟨#[44]⟩, ⟨#[46]⟩, ⟨#[59]⟩, ⟨#[38]⟩, ⟨#[124]⟩, ⟨#[58]⟩, ⟨#[61]⟩, ⟨#[33, 61]⟩, ⟨#[60]⟩, ⟨#[60, 61]⟩, ⟨#[62]⟩, ⟨#[62, 61]⟩]
/-- A symbol. -/
def symV (s : ByteArray) : Bool := (decide (s.size = 1) && sym1 (byt s 0)) || (decide (s.size = 2) && sym2 (byt s 0) (byt s 1))
theorem byt_one (b : UInt8) : byt ⟨#[b]⟩ 0 = b.toNat := rfl
theorem byt_two (b c : UInt8) : byt ⟨#[b, c]⟩ 0 = b.toNat ∧ byt ⟨#[b, c]⟩ 1 = c.toNat := ⟨rfl, rfl⟩
theorem u8_of {b : UInt8} {c : Int} {n : Nat} (h : (b.toNat : Int) = c) (hc : c = n) (hn : n < 256) : b = UInt8.ofNat n := by
  apply UInt8.toNat_inj.1
  show b.toNat = n % 256
  rw [Nat.mod_eq_of_lt hn]
  omega
theorem size_list (s : ByteArray) : s.size = s.data.toList.length := by rw [Array.length_toList]; rfl
theorem one_of {s : ByteArray} (h : s.size = 1) : ∃ b, s = ⟨#[b]⟩ := by
  rw [size_list] at h
  match hd : s.data.toList, h with
  | [b], _ => exact ⟨b, by apply ByteArray.ext; rw [← Array.toList_inj, hd]⟩
theorem two_of {s : ByteArray} (h : s.size = 2) : ∃ b c, s = ⟨#[b, c]⟩ := by
  rw [size_list] at h
  match hd : s.data.toList, h with
  | [b, c], _ => exact ⟨b, c, by apply ByteArray.ext; rw [← Array.toList_inj, hd]⟩
theorem symV_iff (s : ByteArray) : symV s = true ↔ s ∈ symP := by
  constructor
  · intro h
    unfold symV at h
    rw [Bool.or_eq_true, Bool.and_eq_true, Bool.and_eq_true, decide_eq_true_iff, decide_eq_true_iff] at h
    rcases h with ⟨h1, h2⟩ | ⟨h1, h2⟩
    · obtain ⟨b, rfl⟩ := one_of h1
      rw [byt_one] at h2
      have key : ∀ b : UInt8, sym1 (b.toNat : Int) = true → (⟨#[b]⟩ : ByteArray) ∈ symP := by
        intro b hb
        unfold sym1 at hb
        simp only [List.contains_eq_mem, List.mem_cons, List.not_mem_nil, or_false, decide_eq_true_eq] at hb
        rcases hb with hb | hb | hb | hb | hb | hb | hb | hb | hb | hb | hb | hb | hb
        all_goals
          have e := u8_of rfl hb (by decide)
          rw [e]
          (unfold symP; repeat (first | exact List.mem_cons_self | apply List.mem_cons_of_mem))
      exact key b h2
    · obtain ⟨b, c, rfl⟩ := two_of h1
      rw [(byt_two b c).1, (byt_two b c).2] at h2
      unfold sym2 at h2
      simp only [Bool.and_eq_true, Bool.or_eq_true, decide_eq_true_eq] at h2
      obtain ⟨h3, h4⟩ := h2
      have e2 := u8_of rfl h4 (n := 61) (by decide)
      rw [e2]
      rcases h3 with (h3 | h3) | h3
      · have e := u8_of rfl h3 (n := 33) (by decide); rw [e]; (unfold symP; repeat (first | exact List.mem_cons_self | apply List.mem_cons_of_mem))
      · have e := u8_of rfl h3 (n := 60) (by decide); rw [e]; (unfold symP; repeat (first | exact List.mem_cons_self | apply List.mem_cons_of_mem))
      · have e := u8_of rfl h3 (n := 62) (by decide); rw [e]; (unfold symP; repeat (first | exact List.mem_cons_self | apply List.mem_cons_of_mem))
  · intro h
    unfold symP at h
    simp only [List.mem_cons, List.not_mem_nil, or_false] at h
    rcases h with h | h | h | h | h | h | h | h | h | h | h | h | h | h | h | h <;> (rw [h]; rfl)
theorem symR_iff (s : ByteArray) : s ∈ symR ↔ s ∈ symP := by
  unfold symR symP
  simp only [List.mem_cons, List.not_mem_nil, or_false]
  constructor
  · rintro (h | h | h | h | h | h | h | h | h | h | h | h | h | h | h | h) <;> simp [h]
  · rintro (h | h | h | h | h | h | h | h | h | h | h | h | h | h | h | h) <;> simp [h]

/-- What symbols hands back. -/
def SymsPost (w : World) (e : Ending) (w' : World) : Prop := ∃ A, e = .returned (.slice (some ⟨A, 0, none⟩) 16 16) ∧ w.heap.size ≤ A ∧ Kept [] w w' ∧ ∀ j, j < 16 → w'.cell? ⟨A, j, none⟩ = some (.string (symP.getD j ByteArray.empty))
theorem cells_syms (w : World) (L : List ByteArray) (j : Nat) (hj : j < L.length) : (w.alloc (.cells (L.map Value.string).toArray 9)).cell? ⟨w.heap.size, j, none⟩ = some (.string (L.getD j ByteArray.empty)) := by
  rw [(Blk.new w _ _).cell j]
  simp [List.getD, List.getElem?_eq_getElem hj]
set_option maxRecDepth 100000 in
theorem lsymbols_any (w : World) : Calls Tryd.prog 30 #[] w (SymsPost w) := by
  go_enter Tryd.func30, Tryd.ntmps30
  go_wp2_with fail
  go_ret
  exact ⟨w.heap.size, rfl, Nat.le_refl _, (Kept.refl [] w).alloc _, fun j hj => cells_syms w symP j hj⟩
set_option maxRecDepth 100000 in
theorem lSymbol_any (s : ByteArray) (w : World) : Calls Tryd.prog 17 #[.string s] w fun e w' => e = .returned (.bool (symV s)) ∧ Kept [] w w' := by
  have HCT : Hid (∀ (A : Nat) (W : World), (∀ j, j < 16 → W.cell? ⟨A, j, none⟩ = some (.string (symP.getD j ByteArray.empty))) → Calls Tryd.prog 29 #[.slice (some ⟨A, 0, none⟩) 16 16, .string s] W fun e w' => e = .returned (.bool (symV s)) ∧ w' = W) := fun A W hc => by
    have h := Tryd.slices_Contains_string A 0 16 16 symP s W (by decide) (by decide) (fun j hj => by rw [Nat.zero_add]; exact hc j hj)
    have e : Lib.containsS (symP.take 16) s = symV s := by
      rw [Bool.eq_iff_iff, Lib.containsS_iff, symV_iff]
      exact Iff.rfl
    rw [e] at h
    exact h
  have HSY : Hid (∀ W, Calls Tryd.prog 30 #[] W (SymsPost W)) := lsymbols_any
  go_enter Tryd.func17, Tryd.ntmps17
  go_wp2_with fail
  refine (HSY.out _).mono ?_
  rintro e w1 ⟨A, rfl, hA, hk1, hc⟩
  have HK1 := Lib.hid hk1
  have HC := Lib.hid hc
  clear hk1 hc
  go_wp2_with fail
  refine (HCT.out A _ HC.out).mono ?_
  rintro e w2 ⟨rfl, rfl⟩
  go_wp2_with fail
  go_ret
  exact ⟨rfl, HK1.out⟩

theorem anyR_hit {s : ByteArray} {i : Nat} (hi : i < 16) (h : symR.getD i ByteArray.empty = s) : symV s = true := by
  rw [symV_iff, ← symR_iff, ← h, List.getD, List.getElem?_eq_getElem (show i < symR.length from hi)]
  exact List.getElem_mem _
set_option maxRecDepth 100000 in
set_option maxHeartbeats 2000000 in
theorem rSymbol_any (s : ByteArray) (w : World) : Calls Tryd.prog 18 #[.string s] w fun e w' => e = .returned (.bool (symV s)) ∧ Kept [] w w' := by
  have HK0 := Lib.hid ((Kept.refl [] w).alloc (.cells (symR.map Value.string).toArray 9))
  have HB0 := Lib.hid (fun j (hj : j < 16) => cells_syms w symR j hj)
  obtain ⟨W, hW⟩ : ∃ W, w.alloc (.cells (symR.map Value.string).toArray 9) = W := ⟨_, rfl⟩
  rw [hW] at HK0 HB0
  have HW := Lib.hid hW
  clear hW
  go_enter Tryd.func18, Tryd.ntmps18
  go_wp2_with fail
  go_loopw [4] (fun ii wr => ∃ i : Nat, ii = .int .i64 i ∧ i ≤ 16 ∧ (∀ j, j < i → symR.getD j ByteArray.empty ≠ s) ∧ wr = W) (fun ii _ => 16 - (intOf ii).toNat)
  case atStart => exact ⟨0, rfl, by omega, fun j hj => by omega, HW.out⟩
  case round =>
    obtain ⟨i, rfl, hi, hno, rfl⟩ := hrel
    have HNO := Lib.hid hno
    clear hno
    by_cases hlt : i < 16
    · have hc := HB0.out i hlt
      obtain ⟨x, hx⟩ : ∃ x, symR.getD i ByteArray.empty = x := ⟨_, rfl⟩
      rw [hx] at hc
      have HX := Lib.hid hx
      clear hx
      by_cases he : x = s
      · have HE := Lib.hid (anyR_hit hlt (HX.out.trans he))
        have hqq : (x.toList == s.toList) = true := by rw [he]; exact beq_self_eq_true _
        have hqe : x.toList = s.toList := by rw [he]
        clear he
        go_wp2_with fail
        go_ret
        exact ⟨by rw [HE.out] <;> rfl, HK0.out⟩
      · have HE : Hid (x ≠ s) := he
        have hqq := toList_ne he
        have hqe : ¬ x.toList = s.toList := by simpa using hqq
        clear he
        go_wp2_with fail
        go_roundw
        case rel => exact ⟨i + 1, by go_num, by omega, (fun j hj => by
          by_cases e : j = i
          · rw [e, HX.out]; exact HE.out
          · exact HNO.out j (by omega)), by first | trivial | rfl⟩
        case measure => simp [intOf]; omega
    · have HE : Hid (symV s = false) := by
        show _ = _
        rw [← Bool.not_eq_true, symV_iff, ← symR_iff]
        intro hm
        obtain ⟨j, hj, he⟩ := List.mem_iff_getElem.1 hm
        exact HNO.out j (by have : symR.length = 16 := rfl; omega) (by rw [List.getD, List.getElem?_eq_getElem hj]; exact he)
      go_wp2_with fail
      go_ret
      exact ⟨by rw [HE.out] <;> rfl, HK0.out⟩

end Go.Proofs.YtmkpbffjgpoplaaDoor

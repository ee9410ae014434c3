/- Which symbol a text begins with: the program's. -/
import Derived.Test.YtmkpbffjgpoplaaDoorRows
import Derived.WalkKit
import Derived.WalkSpells
import Derived.WalkLawsBesides
import Derived.Deep.QuietTactic
import Derived.BigQuiet
import Derived.Lib.Hide
import Derived.Lib.ConvBytes
import Derived.Deep.Slices
import Derived.ProofKit
import Derived.SizedLaws
import Derived.Test.YtmkpbffjgpoplaaDoorShelf
import Derived.Laws.BytesArg
import Derived.Laws.BitsLemmas
import Derived.Deep.RegionHeld3
import Derived.Deep.AppendLies
import Derived.Maps.AppendAt
import Derived.Lib.ItoaLen
import Derived.Laws.Runes
import Derived.Laws.Concat
import Derived.Laws.Cover4
import Derived.Lib.SmallJoins
import Derived.Laws.AppendOwnNone
import Derived.Deep.DeepCutAuto
import Derived.Test.YtmkpbffjgpoplaaDoorE5
set_option linter.unusedVariables false
set_option linter.unusedSimpArgs false
set_option linter.unnecessarySimpa false
namespace Go.Proofs.YtmkpbffjgpoplaaDoor
open Go.RowKit Go.Shelf
attribute [local go_sem] Oper.semAt_some

/-- A text begins with another. -/
def preB (s x : ByteArray) : Bool := Lib.hasPrefix s.data.toList x.data.toList
set_option maxRecDepth 100000 in
theorem lpre_any (s x : ByteArray) (B : Nat) (w : World) (hB : w.cell? ⟨B, 0, none⟩ = some (.string s)) : Calls Tryd.prog 57 #[.string x, .pointer (some ⟨B, 0, none⟩)] w fun e w' => e = .returned (.bool (preB s x)) ∧ w = w' := by
  have HP : Hid (∀ W, Calls Tryd.prog 19 #[.string s, .string x] W fun e w' => e = .returned (.bool (preB s x)) ∧ w' = W) := fun W => Tryd.strings_HasPrefix s x W
  go_enter Tryd.func57, Tryd.ntmps57
  go_wp2_with fail
  refine (HP.out _).mono ?_
  rintro e w1 ⟨rfl, rfl⟩
  go_wp2_with fail
  go_ret
  exact ⟨rfl, rfl⟩
def IdxPost (w : World) (s : ByteArray) (e : Ending) (w' : World) : Prop := ∃ r : Int, e = .returned (.int .i64 r) ∧ ((r = -1 ∧ ∀ j, j < 16 → preB s (symP.getD j ByteArray.empty) = false) ∨ (∃ i : Nat, r = i ∧ i < 16 ∧ preB s (symP.getD i ByteArray.empty) = true ∧ ∀ j, j < i → preB s (symP.getD j ByteArray.empty) = false)) ∧ w = w'
set_option maxRecDepth 100000 in
set_option maxHeartbeats 4000000 in
theorem lindex_any (s : ByteArray) (A B : Nat) (w : World) (hB : w.cell? ⟨B, 0, none⟩ = some (.string s)) (hc : ∀ j, j < 16 → w.cell? ⟨A, j, none⟩ = some (.string (symP.getD j ByteArray.empty))) :
    Calls Tryd.prog 56 #[.slice (some ⟨A, 0, none⟩) 16 16, .func (.func 57) #[] #[.pointer (some ⟨B, 0, none⟩)]] w (IdxPost w s) := by
  have HC := Lib.hid hc
  have HP : Hid (∀ (x : ByteArray), Calls Tryd.prog 57 #[.string x, .pointer (some ⟨B, 0, none⟩)] w fun e w' => e = .returned (.bool (preB s x)) ∧ w = w') := fun x => lpre_any s x B w hB
  have eg : ∀ args w, (callFunc 57 args).run Tryd.prog w = .ok (.enter 57 args) w := fun _ _ => rfl
  clear hc hB
  go_enter Tryd.func56, Tryd.ntmps56
  go_wp2_with fail
  go_loopw [8] (fun i wr => ∃ (k : Nat), k ≤ 16 ∧ i = .int .i64 k ∧ (∀ j, j < k → preB s (symP.getD j ByteArray.empty) = false) ∧ w = wr) (fun i _ => 16 - (intOf i).toNat)
  case atStart => exact ⟨0, by omega, rfl, fun j hj => by omega, rfl⟩
  case round =>
    obtain ⟨k, hk, rfl, hg, rfl⟩ := hrel
    have HG := Lib.hid hg
    clear hg
    by_cases hlt : k < 16
    · have h0 := HC.out k hlt
      obtain ⟨x, hx⟩ : ∃ x, symP.getD k ByteArray.empty = x := ⟨_, rfl⟩
      rw [hx] at h0
      have HX := Lib.hid hx
      clear hx
      go_wp2_with fail
      refine (HP.out x).mono ?_
      rintro e w1 ⟨rfl, rfl⟩
      cases hp : preB s x with
      | true =>
        have HPX := Lib.hid hp
        clear hp
        go_wp2_with fail
        go_ret
        exact ⟨_, rfl, .inr ⟨k, rfl, hlt, by rw [HX.out]; exact HPX.out, HG.out⟩, rfl⟩
      | false =>
        have HPX := Lib.hid hp
        clear hp
        go_wp2_with fail
        go_roundw
        case rel => exact ⟨k + 1, by omega, by go_num, (fun j hj => by
          by_cases e : j = k
          · rw [e, HX.out]; exact HPX.out
          · exact HG.out j (by omega)), by first | trivial | rfl⟩
        case measure => simp [intOf]; omega
    · go_wp2_with fail
      go_ret
      exact ⟨-1, rfl, .inl ⟨rfl, fun j hj => HG.out j (by omega)⟩, rfl⟩

end Go.Proofs.YtmkpbffjgpoplaaDoor

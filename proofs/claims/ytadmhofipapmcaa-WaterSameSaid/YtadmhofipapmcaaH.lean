/- The look at both marks. -/
import Derived.Test.YtadmhofipapmcaaG
import Derived.Deep.RegionWith
import Derived.Deep.DeepMust
set_option linter.unusedVariables false
set_option linter.unusedSimpArgs false
namespace Go.Proofs.Ytadmhofipapmcaa
open Go.RowKit

theorem dec_self (l : List Int) : decide (l = l) = true := by simp

set_option maxRecDepth 100000 in
set_option maxHeartbeats 4000000 in
theorem look_any (b b' g n : Nat) (l : List Int) (win fin : Int) (w : World) (h : WaterAt w b n l) (hn : 1 ≤ n) (hr : InRange l) (h' : RefAt w b' g (l.take n)) :
    Calls Try.prog 21 #[.pointer (some ⟨b, 0, none⟩), .pointer (some ⟨b', 0, none⟩), .int .i64 win, .int .i64 fin] w fun e w' => e = .returned (.bool true) ∧ Kept [] w w' := by
  have hn12 := h.1
  have hlen := len_le_of_take l n h.2.1 h.1
  have hr' : InRange (l.take n) := fun x hx => hr x (List.mem_of_mem_take hx)
  obtain ⟨hbg, hne, hle, cc, hB, hRL⟩ := id h'
  have h0 := hB.cell 0
  rw [hlen] at h0 hRL
  have h0 : w.cell? ⟨b', 0, none⟩ = some (.slice (some ⟨g, 0, none⟩) n cc) := h0
  clear hB
  have HAT : Hid (∀ i : Int, atF n l i = ratF (l.take n) i) := fun i => at_same n l i h.2.1 h.1
  have HL := Lib.hid hlen
  clear hlen
  go_enter Try.func21, Try.ntmps21
  go_wp2_with fail
  go_loop [9] (fun i => ∃ k : Nat, k ≤ n + 2 ∧ i = .int .i64 ((k : Int) - 1)) (fun i => (n + 2) - (intOf i + 1).toNat)
  case atStart => exact ⟨0, by omega, rfl⟩
  case round =>
    obtain ⟨k, hk, rfl⟩ := hrel
    by_cases hlt : k < n + 2
    · have h1 : (k : Int) - 1 ≤ (n : Int) := by omega
      go_wp2_with (first | (go_at_call 22; refine (at_any b n l _ _ h hn).mono ?_; rintro e w' ⟨rfl, rfl⟩; rw [HAT.out]) | (go_at_call 32; refine (refat_any b' g (l.take n) _ _ h').mono ?_; rintro e w' ⟨rfl, rfl⟩) | (go_at_call 11; refine (late_any b n l _ _ _ h hn).mono ?_; rintro e w' ⟨rfl, rfl⟩; rw [HAT.out]))
      go_round
      case rel => exact ⟨k + 1, by omega, by congr 1; omega⟩
      case measure => simp [intOf]; omega
    · have h1 : ¬ (k : Int) - 1 ≤ (n : Int) := by omega
      go_wp2_with fail
      have HRL := Lib.hid hRL
      clear hRL
      go_region_with (first | (go_at_call 14; refine (merged_any b n l _ (by first | exact h | exact hA1) hn).mono ?_; rintro e w' ⟨rfl, q, rfl⟩) | (go_at_call 31; refine (refmerged_any b' g (l.take n) _ (by first | exact h' | exact hB1) hr').mono ?_; rintro e w' ⟨rfl, rfl⟩) | (go_at_call 13; refine (marks_any b n l _ (by exact h) hn).mono ?_; rintro e w1 ⟨v1, rfl, ho1, hk1⟩; have hA1 : WaterAt w1 b n l := WaterAt.kept (by exact h) hk1 (by simp); have hB1 : RefAt w1 b' g (l.take n) := RefAt.keep (by exact h') hk1; have hR1 : RdI w1 .i64 (.slice (some ⟨g, 0, none⟩) n cc) (l.take n) := RdI.keep (by exact HRL.out) hk1; have hx0 : w1.cell? ⟨b', 0, none⟩ = some (.slice (some ⟨g, 0, none⟩) n cc) := hk1.cell (by simp) (by exact h0)) | (go_at_call 24; go_must (refine (equal_any .i64 v1 (.slice (some ⟨g, 0, none⟩) n cc) (l.take n) (l.take n) _ (by exact (RdI.of_own ho1).1) (by exact hR1)).mono ?_); rintro e w2 ⟨rfl, q2, rfl⟩; rw [dec_self]) | (go_at_call 10; refine (horizon_any b n l win _ (by first | exact h | exact hA1) hn hr).mono ?_; rintro e w' ⟨rfl, q3, rfl⟩) | (go_at_call 33; refine (refhorizon_any b' g (l.take n) win _ (by first | exact h' | exact hB1) hr').mono ?_; rintro e w' ⟨rfl, rfl⟩) | (go_at_call 12; refine (done_any b n l _ (by first | exact h | exact hA1) hn).mono ?_; rintro e w' ⟨rfl, q4, rfl⟩))
      all_goals
        go_wp2
        go_ret
        exact ⟨rfl, (Kept.trans (by exact Kept.drewN (Kept.refl [] w) _) hk1).drewN _⟩

end Go.Proofs.Ytadmhofipapmcaa

/- The reference's Depth, Below. -/
import Derived.Test.YtikpnlmimhnmmaaT29
set_option linter.unusedVariables false
set_option linter.unusedSimpArgs false
set_option linter.unnecessarySimpa false
namespace Go.Proofs.Ytikpnlmimhnmmaa
open Go.RowKit Tr

/-- up, of a tree: the way to the root. -/
theorem up_tree (v : Value) (P : List Int) (i : Int) (w : World) (hx : RdI w .i64 v P) (hT : Tree P) (hi : inB P.length i) :
    Calls Try.prog 51 #[v, .int .i64 i] w fun e w' => Kept [] w w' ∧ ∃ v, e = .returned (.tuple #[v, .bool true]) ∧ w'.ownsRow w.heap.size 3 1 v (rise P i).length ((rise P i).map (.int .i64)) := by
  refine (up_any v P i w hx hT.le hT.rng hi).mono ?_
  rintro e w' ⟨hk, ⟨h1, _⟩ | ⟨h1, v', rfl, ho⟩⟩
  · rw [climbs_plus hT.rng hi, depth_spec hT hi] at h1; cases h1
  · refine ⟨hk, v', rfl, ?_⟩
    have hd := depth_lt hT hi
    have e : up P (P.length + 1) i = rise P i := up_same hT _ i _ _ hi rfl (by omega) hd
    rw [e] at ho
    exact ho

set_option maxHeartbeats 2000000 in
theorem rdepth_any (r : Nat) (v : Value) (P : List Int) (i : Int) (w : World) (h : RT w r v P) (hT : Tree P) : Calls Try.prog 39 #[.pointer (some ⟨r, 0, none⟩), .int .i64 i] w fun e w' => e = .returned (.int .i64 (depthG P i)) ∧ Kept [] w w' := by
  have hc0 := h.1
  have HI := Lib.hid (is_ref r v P i w h)
  cases hin : inBb P.length i with
  | false =>
    have e : depthG P i = 0 := by unfold depthG; rw [if_neg (fun c => by rw [(inBb_iff _ _).2 c] at hin; cases hin)]
    rw [e]
    rw [hin] at HI
    clear e hin h
    go_enter Try.func39, Try.ntmps39
    go_wp2_with fail
    refine HI.out.mono ?_
    rintro e w' ⟨rfl, rfl⟩
    go_wp2_with fail
    go_ret
    exact ⟨rfl, Kept.refl _ _⟩
  | true =>
    have hib := (inBb_iff _ _).1 hin
    have e : depthG P i = ((rise P i).length : Int) - 1 := by
      unfold depthG; rw [if_pos hib, rise_len hT hib]; omega
    have hl := rise_len hT hib
    have hdl := depth_lt hT hib
    have h16 := hT.le
    rw [e]
    rw [hin] at HI
    have UP := up_tree v P i w h.2 hT hib
    obtain ⟨R, hR⟩ : ∃ R, rise P i = R := ⟨_, rfl⟩
    rw [hR] at UP hl ⊢
    have hl1 : 1 ≤ R.length := by omega
    have hl2 : R.length ≤ 16 := by omega
    have HUP := Lib.hid UP
    clear e hin hib hl hdl UP hR h hT
    go_enter Try.func39, Try.ntmps39
    go_wp2_with fail
    refine HI.out.mono ?_
    rintro e w' ⟨rfl, rfl⟩
    go_wp2_with fail
    refine HUP.out.mono ?_
    rintro e w' ⟨hk, v', rfl, ho⟩
    obtain ⟨AA, cc, rfl, -⟩ := own_len ho
    go_wp2_with fail
    go_ret
    exact ⟨rfl, hk⟩

end Go.Proofs.Ytikpnlmimhnmmaa

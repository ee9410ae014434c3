/- Dist, Wide, Meet. -/
import Derived.Test.YtikpnlmimhnmmaaT5
import Derived.Deep.RegionWith
import Derived.Deep.DeepMust
import Derived.Deep.RegionHeld3
set_option linter.unusedVariables false
set_option linter.unusedSimpArgs false
namespace Go.Proofs.Ytikpnlmimhnmmaa
open Go.RowKit Tr

theorem pathG_in {P : List Int} {x y : Int} (hx : inB P.length x) (hy : inB P.length y) : pathG P x y = path P x y := by unfold pathG; rw [if_pos ⟨hx, hy⟩]
set_option maxRecDepth 100000 in
set_option maxHeartbeats 4000000 in
theorem path_any (b : Nat) (P : List Int) (x y : Int) (w : World) (h : TreeAt w b P) (hT : Tree P) :
    Calls Try.prog 14 #[.pointer (some ⟨b, 0, none⟩), .int .i64 x, .int .i64 y] w (RisePost w (pathG P x y)) := by
  by_cases hx : inB P.length x
  · by_cases hy : inB P.length y
    · rw [pathG_in hx hy]
      exact path_in b P x y w h hT hx hy
    · have e : pathG P x y = [] := by unfold pathG; rw [if_neg (fun c => hy c.2)]
      rw [e]
      have hbx : (decide ((0:Int) ≤ x) && decide (x < (P.length:Int))) = true := by unfold inB at hx; simp; omega
      have hby : (decide ((0:Int) ≤ y) && decide (y < (P.length:Int))) = false := by unfold inB at hy; simp; omega
      have HBX := Lib.hid hbx
      have HBY := Lib.hid hby
      clear hbx hby e hx hy
      go_enter Try.func14, Try.ntmps14
      go_wp2_with fail
      refine (is_some b P.length _ x _ h).mono ?_
      rintro e w' ⟨rfl, rfl⟩
      rw [HBX.out]
      go_wp2_with fail
      refine (is_some b P.length _ y _ h).mono ?_
      rintro e w' ⟨rfl, rfl⟩
      rw [HBY.out]
      go_wp2_with fail
      go_ret
      exact ⟨_, rfl, ⟨rfl, .inl ⟨rfl, rfl⟩⟩, Kept.refl _ _⟩
  · have e : pathG P x y = [] := by unfold pathG; rw [if_neg (fun c => hx c.1)]
    rw [e]
    have hbx : (decide ((0:Int) ≤ x) && decide (x < (P.length:Int))) = false := by unfold inB at hx; simp; omega
    have HBX := Lib.hid hbx
    clear hbx e hx
    go_enter Try.func14, Try.ntmps14
    go_wp2_with fail
    refine (is_some b P.length _ x _ h).mono ?_
    rintro e w' ⟨rfl, rfl⟩
    rw [HBX.out]
    go_wp2_with fail
    go_ret
    exact ⟨_, rfl, ⟨rfl, .inl ⟨rfl, rfl⟩⟩, Kept.refl _ _⟩

theorem path_nil (x y : Int) (w : World) :
    Calls Try.prog 14 #[.pointer none, .int .i64 x, .int .i64 y] w fun e w' => e = .returned (.slice none 0 0) ∧ w = w' := by
  go_enter Try.func14, Try.ntmps14
  go_wp2_with fail
  refine (is_nil x _).mono ?_
  rintro e w' ⟨rfl, rfl⟩
  go_wp2_with fail
  go_ret
  exact ⟨rfl, rfl⟩

namespace Tr
theorem path_len {P : List Int} (h : Tree P) {a b : Int} (ha : inB P.length a) (hb : inB P.length b) :
    (path P a b).length + 2 * com P a b = (rise P a).length + (rise P b).length + 1 := by
  have h1 := com_le_l P a b
  have h2 := com_le_r P a b
  have h3 := com_pos h ha hb
  unfold path
  rw [List.length_append, List.length_take, List.length_tail, List.length_reverse, List.length_take]
  omega
theorem path_le {P : List Int} (h : Tree P) (a b : Int) : (pathG P a b).length ≤ 31 := by
  unfold pathG
  split
  · rename_i hh
    have h1 := path_len h hh.1 hh.2
    have h2 := riseG_le h a
    have h3 := riseG_le h b
    have h4 := com_pos h hh.1 hh.2
    unfold riseG at h2 h3
    rw [if_pos hh.1] at h2
    rw [if_pos hh.2] at h3
    omega
  · simp
end Tr
def distG (P : List Int) (a b : Int) : Int := max 0 (((pathG P a b).length : Int) - 1)

set_option maxHeartbeats 1000000 in
theorem dist_any (b : Nat) (P : List Int) (x y : Int) (w : World) (h : TreeAt w b P) (hT : Tree P) :
    Calls Try.prog 11 #[.pointer (some ⟨b, 0, none⟩), .int .i64 x, .int .i64 y] w fun e w' => e = .returned (.int .i64 (distG P x y)) ∧ Kept [] w w' := by
  have hl := path_le hT x y
  unfold distG
  go_enter Try.func11, Try.ntmps11
  go_wp2_with fail
  refine (path_any b P x y _ h hT).mono ?_
  rintro e w1 ⟨v, rfl, hown, hK⟩
  obtain ⟨A, c, rfl, -⟩ := own_len hown
  go_wp2_with fail
  go_ret
  exact ⟨rfl, hK⟩

theorem depthG_bd {P : List Int} (h : Tree P) (i : Int) : 0 ≤ depthG P i ∧ depthG P i ≤ 15 := by
  rw [depthG_len h]
  have := riseG_le h i
  omega

set_option maxHeartbeats 2000000 in
theorem cmp_any (b bx : Nat) (P : List Int) (x y : Int) (w : World) (h : TreeAt w b P) (hT : Tree P) (hb : w.cell? ⟨bx, 0, none⟩ = some (.pointer (some ⟨b, 0, none⟩))) :
    Calls Try.prog 44 #[.int .i64 x, .int .i64 y, .pointer (some ⟨bx, 0, none⟩)] w fun e w' => e = .returned (.int .i64 (depthG P x - depthG P y)) ∧ Kept [] w w' := by
  have hx := depthG_bd hT x
  have hy := depthG_bd hT y
  go_enter Try.func44, Try.ntmps44
  go_wp2_with fail
  have hK := Kept.refl [] w
  have hw : IntKind.i64.wrap (depthG P x - depthG P y) = depthG P x - depthG P y := by unfold IntKind.wrap; simp [IntKind.signed, IntKind.bits]; omega
  have HW := Lib.hid hw
  clear hw
  go_region_with (first | (go_at_call_of 12 (Value.int .i64 x); refine (depth_any b P x _ (RawAt.keep h (by first | exact hk2 | exact hk2.drewN _ | exact hK.drewN _ | exact hK)) hT).mono ?_; rintro e w1 ⟨rfl, hk1⟩; have hk2 : Kept [] w w1 := Kept.trans (by first | exact hk2 | exact hk2.drewN _ | exact hK.drewN _ | exact hK) hk1; have hb2 : w1.cell? ⟨bx, 0, none⟩ = some (.pointer (some ⟨b, 0, none⟩)) := hk2.cell (by simp) hb) | (go_at_call_of 12 (Value.int .i64 y); refine (depth_any b P y _ (RawAt.keep h (by first | exact hk2 | exact hk2.drewN _ | exact hK.drewN _ | exact hK)) hT).mono ?_; rintro e w1 ⟨rfl, hk1⟩; have hk2 : Kept [] w w1 := Kept.trans (by first | exact hk2 | exact hk2.drewN _ | exact hK.drewN _ | exact hK) hk1; have hb2 : w1.cell? ⟨bx, 0, none⟩ = some (.pointer (some ⟨b, 0, none⟩)) := hk2.cell (by simp) hb))
  all_goals
    go_wp2
    go_ret
    exact ⟨congrArg (fun t => Ending.returned (Value.int .i64 t)) HW.out, by first | exact hk2 | exact hk2.drewN _⟩

end Go.Proofs.Ytikpnlmimhnmmaa

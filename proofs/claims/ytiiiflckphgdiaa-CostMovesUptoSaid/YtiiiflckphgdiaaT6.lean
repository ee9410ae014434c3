/- Dist, Wide, Meet. -/
import Derived.Test.YtiiiflckphgdiaaT5
import Derived.Deep.RegionWith
import Derived.Deep.DeepMust
import Derived.Deep.RegionHeld3
set_option linter.unusedVariables false
set_option linter.unusedSimpArgs false
namespace Go.Proofs.Ytiiiflckphgdiaa
open Go.RowKit Tr

theorem pathG_in {P : List Int} {x y : Int} (hx : inB P.length x) (hy : inB P.length y) : pathG P x y = path P x y := by unfold pathG; rw [if_pos ⟨hx, hy⟩]
set_option maxRecDepth 100000 in
set_option maxHeartbeats 4000000 in
theorem path_any (b : Nat) (P : List Int) (x y : Int) (w : World) (h : TreeAt w b P) (hT : Tree P) :
    Calls Try.prog 92 #[.pointer (some ⟨b, 0, none⟩), .int .i64 x, .int .i64 y] w (RisePost w (pathG P x y)) := by
  by_cases hx : inB P.length x
  · by_cases hy : inB P.length y
    · rw [pathG_in hx hy]
      exact path_in b P x y w h hT hx hy
    · have e : pathG P x y = [] := by unfold pathG; rw [if_neg (fun c => hy c.2)]
      rw [e]
      have hbx : (decide ((0:Int) ≤ x) && decide (x < (P.length:Int))) = true := by unfold inB at hx; simp; omega
      have hby : (decide ((0:Int) ≤ y) && decide (y < (P.length:Int))) = false := by unfold inB at hy; simp; omega
      have HBX := Lib.hid hbx
      have HBY := Lib.hid hby
      clear hbx hby e hx hy
      go_enter Try.func92, Try.ntmps92
      go_wp2_with fail
      refine (is_some b P.length _ x _ h).mono ?_
      rintro e w' ⟨rfl, rfl⟩
      rw [HBX.out]
      go_wp2_with fail
      refine (is_some b P.length _ y _ h).mono ?_
      rintro e w' ⟨rfl, rfl⟩
      rw [HBY.out]
      go_wp2_with fail
      go_ret
      exact ⟨_, rfl, ⟨rfl, .inl ⟨rfl, rfl⟩⟩, Kept.refl _ _⟩
  · have e : pathG P x y = [] := by unfold pathG; rw [if_neg (fun c => hx c.1)]
    rw [e]
    have hbx : (decide ((0:Int) ≤ x) && decide (x < (P.length:Int))) = false := by unfold inB at hx; simp; omega
    have HBX := Lib.hid hbx
    clear hbx e hx
    go_enter Try.func92, Try.ntmps92
    go_wp2_with fail
    refine (is_some b P.length _ x _ h).mono ?_
    rintro e w' ⟨rfl, rfl⟩
    rw [HBX.out]
    go_wp2_with fail
    go_ret
    exact ⟨_, rfl, ⟨rfl, .inl ⟨rfl, rfl⟩⟩, Kept.refl _ _⟩

theorem path_nil (x y : Int) (w : World) :
    Calls Try.prog 92 #[.pointer none, .int .i64 x, .int .i64 y] w fun e w' => e = .returned (.slice none 0 0) ∧ w = w' := by
  go_enter Try.func92, Try.ntmps92
  go_wp2_with fail
  refine (is_nil x _).mono ?_
  rintro e w' ⟨rfl, rfl⟩
  go_wp2_with fail
  go_ret
  exact ⟨rfl, rfl⟩

namespace Tr
theorem path_len {P : List Int} (h : Tree P) {a b : Int} (ha : inB P.length a) (hb : inB P.length b) :
    (path P a b).length + 2 * com P a b = (rise P a).length + (rise P b).length + 1 := by
  have h1 := com_le_l P a b
  have h2 := com_le_r P a b
  have h3 := com_pos h ha hb
  unfold path
  rw [List.length_append, List.length_take, List.length_tail, List.length_reverse, List.length_take]
  omega
theorem path_le {P : List Int} (h : Tree P) (a b : Int) : (pathG P a b).length ≤ 31 := by
  unfold pathG
  split
  · rename_i hh
    have h1 := path_len h hh.1 hh.2
    have h2 := riseG_le h a
    have h3 := riseG_le h b
    have h4 := com_pos h hh.1 hh.2
    unfold riseG at h2 h3
    rw [if_pos hh.1] at h2
    rw [if_pos hh.2] at h3
    omega
  · simp
end Tr
def distG (P : List Int) (a b : Int) : Int := max 0 (((pathG P a b).length : Int) - 1)

set_option maxHeartbeats 1000000 in
theorem dist_any (b : Nat) (P : List Int) (x y : Int) (w : World) (h : TreeAt w b P) (hT : Tree P) :
    Calls Try.prog 74 #[.pointer (some ⟨b, 0, none⟩), .int .i64 x, .int .i64 y] w fun e w' => e = .returned (.int .i64 (distG P x y)) ∧ Kept [] w w' := by
  have hl := path_le hT x y
  unfold distG
  go_enter Try.func74, Try.ntmps74
  go_wp2_with fail
  refine (path_any b P x y _ h hT).mono ?_
  rintro e w1 ⟨v, rfl, hown, hK⟩
  obtain ⟨A, c, rfl, -⟩ := own_lenT hown
  go_wp2_with fail
  go_ret
  exact ⟨rfl, hK⟩

end Go.Proofs.Ytiiiflckphgdiaa

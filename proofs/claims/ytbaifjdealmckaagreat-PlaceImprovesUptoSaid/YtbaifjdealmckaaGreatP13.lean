/- What comes of one of each input, and of all: the program's product and sum. -/
import Derived.Test.YtbaifjdealmckaaGreatRows
import Derived.WalkKit
import Derived.WalkSpells
import Derived.WalkLawsBesides
import Derived.Deep.QuietTactic
import Derived.BigQuiet
import Derived.Lib.Hide
import Derived.BigRegion
import Derived.Shelf.Abstract
import Derived.Lib.ConvBytes
import Derived.StillTailTactics
import Derived.Laws.AppendOwnNone
import Derived.Deep.AppendLies
import Derived.Deep.Slices
import Derived.ProofKit
import Derived.SizedLaws
import Derived.Test.YtbaifjdealmckaaGreatC3
import Derived.Test.YtbaifjdealmckaaGreatP2
set_option linter.unusedVariables false
set_option linter.unusedSimpArgs false
set_option linter.unnecessarySimpa false
namespace Go.Proofs.YtbaifjdealmckaaGreat
open Go.RowKit Go.Shelf

theorem mulGo_bd : ∀ (l : List Int) (p : Int), 1 ≤ p → p ≤ 9223372036854775807 → (∀ x ∈ l, 1 ≤ x) → 1 ≤ mulGo p l ∧ mulGo p l ≤ 9223372036854775807
  | [], p, h1, h2, _ => ⟨h1, h2⟩
  | x :: l, p, h1, h2, h => by
    unfold mulGo
    split
    · exact ⟨by decide, by decide⟩
    · rename_i hd
      have hx := h x (by simp)
      obtain ⟨a, b⟩ := mul_step h1 h2 hx hd
      exact mulGo_bd l (p * x) a b (fun y hy => h y (by simp [hy]))
theorem mulV_bd (l : List Int) : 0 ≤ mulV l ∧ mulV l ≤ 9223372036854775807 := by
  unfold mulV
  split
  · exact ⟨by decide, by decide⟩
  · rename_i h
    have := mulGo_bd l 1 (by decide) (by decide) (fun x hx => by
      by_cases q : 1 ≤ x
      · exact q
      · exfalso; apply h; rw [List.any_eq_true]; exact ⟨x, hx, by simp; omega⟩)
    omega
theorem addGo_bd : ∀ (l : List Int) (a : Int), 0 ≤ a → a ≤ 9223372036854775807 → 0 ≤ addGo a l ∧ addGo a l ≤ 9223372036854775807
  | [], a, h1, h2 => ⟨h1, h2⟩
  | x :: l, a, h1, h2 => by
    unfold addGo
    split
    · exact ⟨by decide, by decide⟩
    · exact addGo_bd l _ (by omega) (by omega)
/-- A part of the whole. -/
def byV (a b : Int) : Int := Int.tdiv (mulV [a, b]) 1024
def prodGo (n : Int) : List Int → Int
  | [] => n
  | x :: l => prodGo (byV n x) l
def prodV (l : List Int) : Int := prodGo (l.getD 0 0) (l.drop 1)

set_option maxRecDepth 100000 in
set_option maxHeartbeats 2000000 in
theorem sum_any (v : Value) (l : List Int) (w : World) (hx : RdI w .i64 v l) : Calls Tryz.prog 94 #[v] w fun e w' => e = .returned (.int .i64 (addV l)) ∧ w = w' := by
  have CX := Lib.hid (add_any v l w hx)
  obtain ⟨A, c, rfl, hmx, hx⟩ := hx
  clear hx
  obtain ⟨n, hn⟩ : ∃ n, l.length = n := ⟨_, rfl⟩
  rw [hn] at CX ⊢
  obtain ⟨g, hg⟩ : ∃ g, addV l = g := ⟨_, rfl⟩
  rw [hg] at CX ⊢
  clear hn hg
  go_enter Tryz.func94, Tryz.ntmps94
  go_wp2_with fail
  refine CX.out.mono ?_
  rintro e w' ⟨rfl, rfl⟩
  go_wp2_with fail
  go_ret
  exact ⟨rfl, rfl⟩

theorem byV_bd (a b : Int) : 0 ≤ byV a b ∧ byV a b ≤ 9223372036854775807 := by
  unfold byV
  obtain ⟨h1, h2⟩ := mulV_bd [a, b]
  rw [Int.tdiv_eq_ediv_of_nonneg h1]
  omega
theorem two_built {w : World} {a b : Int} {t : TypeId} : RdI (w.alloc (.cells #[.int .i64 a, .int .i64 b] t)) .i64 (.slice (some ⟨w.heap.size, 0, none⟩) 2 2) [a, b] := by
  refine ⟨_, _, rfl, by show 2 ≤ 9223372036854775807; omega, fun _ => ⟨_, _, rfl, fun i x hx => ?_⟩⟩
  rw [Nat.zero_add, (Blk.new w #[.int .i64 a, .int .i64 b] t).cell i]
  match i, hx with
  | 0, hx => injection hx with hx; subst hx; rfl
  | 1, hx => injection hx with hx; subst hx; rfl
  | i + 2, hx => simp at hx
theorem one_built {w : World} {a : Int} {t : TypeId} : RdI (w.alloc (.cells #[.int .i64 a] t)) .i64 (.slice (some ⟨w.heap.size, 0, none⟩) 1 1) [a] := by
  refine ⟨_, _, rfl, by show 1 ≤ 9223372036854775807; omega, fun _ => ⟨_, _, rfl, fun i x hx => ?_⟩⟩
  rw [Nat.zero_add, (Blk.new w #[.int .i64 a] t).cell i]
  match i, hx with
  | 0, hx => injection hx with hx; subst hx; rfl
  | i + 1, hx => simp at hx

set_option maxRecDepth 100000 in
set_option maxHeartbeats 4000000 in
theorem product_any (b off c : Nat) (l : List Int) (w : World) (hx : RdI w .i64 (.slice (some ⟨b, off, none⟩) l.length c) l) (h0 : 0 < l.length) (hlc : l.length ≤ c) (hcm : c ≤ 9223372036854775807) : Calls Tryz.prog 95 #[.slice (some ⟨b, off, none⟩) l.length c] w fun e w' => e = .returned (.int .i64 (prodV l)) ∧ Kept [] w w' := by
  obtain ⟨b0, off0, c0, x0, he, hx0, hc0⟩ := hx.at h0
  injection he with he1 he2 he3
  injection he1 with he1
  injection he1 with he1 he1b
  subst he1 he1b he3
  have HX := Lib.hid hx
  obtain ⟨G, hG⟩ : ∃ G, prodV l = G := ⟨_, rfl⟩
  rw [hG]
  have HG : Hid (prodGo x0 (l.drop 1) = G) := by
    show _ = _
    rw [← hG, prodV, List.getD, hx0]
    rfl
  obtain ⟨n, hn⟩ : ∃ n, l.length = n := ⟨_, rfl⟩
  rw [hn] at h0 hlc HX ⊢
  have HN := Lib.hid hn
  rw [Nat.add_zero] at hc0
  clear hn hx hG he2 hx0
  obtain ⟨m, rfl⟩ : ∃ m, n = m + 1 := ⟨n - 1, by omega⟩
  by_cases hm0 : m = 0
  · subst hm0
    by_cases hc1 : c = 1
    · subst hc1
      go_enter Tryz.func95, Tryz.ntmps95
      go_wp2_with fail
      go_loopw [3, 12] (fun s jj wr => jj = .int .i64 0 ∧ s = .int .i64 x0 ∧ w = wr) (fun _ _ _ => 0)
      case atStart => exact ⟨rfl, rfl, rfl⟩
      case round =>
        obtain ⟨rfl, rfl, rfl⟩ := hrel
        go_wp2_with fail
        go_ret
        refine ⟨ret_int ?_, Kept.refl _ _⟩
        have := HG.out
        rwa [List.drop_eq_nil_of_le (by rw [HN.out]; omega), prodGo] at this
    · skip
      go_enter Tryz.func95, Tryz.ntmps95
      go_wp2_with fail
      go_loopw [3, 12] (fun s jj wr => jj = .int .i64 0 ∧ s = .int .i64 x0 ∧ w = wr) (fun _ _ _ => 0)
      case atStart => exact ⟨rfl, rfl, rfl⟩
      case round =>
        obtain ⟨rfl, rfl, rfl⟩ := hrel
        go_wp2_with fail
        go_ret
        refine ⟨ret_int ?_, Kept.refl _ _⟩
        have := HG.out
        rwa [List.drop_eq_nil_of_le (by rw [HN.out]; omega), prodGo] at this
  · have hc1 : ¬ c = 1 := by omega
    go_enter Tryz.func95, Tryz.ntmps95
    go_wp2_with fail
    go_loopw [3, 12] (fun s jj wr => ∃ (j : Nat) (y : Int), j ≤ m ∧ jj = .int .i64 j ∧ s = .int .i64 y ∧ prodGo y (l.drop (1 + j)) = G ∧ Kept [] w wr) (fun _ jj _ => m - (intOf jj).toNat)
    case atStart => exact ⟨0, x0, by omega, rfl, rfl, HG.out, Kept.refl _ _⟩
    case round =>
      obtain ⟨j, y, hj, rfl, rfl, hg, hK⟩ := hrel
      have HGO := Lib.hid hg
      have HK := Lib.hid hK
      clear hg
      by_cases hlt : j < m
      · obtain ⟨bl, ol, c', f, he, hy, hcf0⟩ := RdI.at HX.out (i := 1 + j) (by rw [HN.out]; omega)
        injection he with he1 he2 he3
        injection he1 with he1
        injection he1 with he1 he1b
        subst he1 he1b he3
        have hcf := hK.cell (by simp) hcf0
        rw [← Nat.add_assoc] at hcf
        have HD := Lib.hid (drop_at hy)
        obtain ⟨g, hg⟩ : ∃ g, mulV [y, f] = g := ⟨_, rfl⟩
        have HM : Hid (Calls Tryz.prog 68 #[.slice (some ⟨wr.heap.size, 0, none⟩) 2 2] (wr.alloc (.cells #[.int .i64 y, .int .i64 f] 2)) fun e w' => e = .returned (.int .i64 g) ∧ wr.alloc (.cells #[.int .i64 y, .int .i64 f] 2) = w') := by
          rw [← hg]
          exact mul_any _ _ _ two_built
        obtain ⟨h1, h2⟩ : 0 ≤ g ∧ g ≤ 9223372036854775807 := by rw [← hg]; exact mulV_bd _
        have hq2 : Int.tdiv g 1024 = g / 1024 := Int.tdiv_eq_ediv_of_nonneg h1
        have HGN : Hid (prodGo (Int.tdiv g 1024) (l.drop (1 + (j + 1))) = G) := by
          show _ = _
          rw [← HGO.out, HD.out, prodGo, byV, hg]
          rfl
        clear hy he2 hcf0 hg hK
        go_wp2_with fail
        refine HM.out.mono ?_
        rintro e w' ⟨rfl, rfl⟩
        go_wp2_with fail
        go_roundw
        case rel => exact ⟨j + 1, Int.tdiv g 1024, by omega, by go_num, by go_num, HGN.out, HK.out.alloc _⟩
        case measure => simp [intOf]; omega
      · have HLG : Hid (y = G) := by
          show _ = _
          have := HGO.out
          rwa [List.drop_eq_nil_of_le (by rw [HN.out]; omega), prodGo] at this
        go_wp2_with fail
        go_ret
        exact ⟨ret_int HLG.out, HK.out⟩

end Go.Proofs.YtbaifjdealmckaaGreat

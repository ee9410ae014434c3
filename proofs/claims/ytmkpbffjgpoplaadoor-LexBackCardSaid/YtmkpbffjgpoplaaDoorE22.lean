/- Whether two lists of words are the same: the document's, of one list read twice. -/
import Derived.Test.YtmkpbffjgpoplaaDoorRows
import Derived.WalkKit
import Derived.WalkSpells
import Derived.WalkLawsBesides
import Derived.Deep.QuietTactic
import Derived.BigQuiet
import Derived.Lib.Hide
import Derived.Lib.ConvBytes
import Derived.Deep.Slices
import Derived.ProofKit
import Derived.SizedLaws
import Derived.Test.YtmkpbffjgpoplaaDoorShelf
import Derived.Laws.BytesArg
import Derived.Laws.BitsLemmas
import Derived.Deep.RegionHeld3
import Derived.Deep.AppendLies
import Derived.Maps.AppendAt
import Derived.Lib.ItoaLen
import Derived.Laws.Runes
import Derived.Laws.Concat
import Derived.Laws.Cover4
import Derived.Lib.SmallJoins
import Derived.Laws.AppendOwnNone
import Derived.Deep.DeepCutAuto
import Derived.Test.YtmkpbffjgpoplaaDoorE21
set_option linter.unusedVariables false
set_option linter.unusedSimpArgs false
set_option linter.unnecessarySimpa false
namespace Go.Proofs.YtmkpbffjgpoplaaDoor
open Go.RowKit Go.Shelf
attribute [local go_sem] Oper.semAt_some

set_option maxRecDepth 100000 in
set_option maxHeartbeats 4000000 in
theorem rSame_one (v u : Value) (L : List TokD) (w : World) (hx : RdT w v L) (hy : RdT w u L) : Calls Tryd.prog 11 #[v, u] w fun e w' => e = .returned (.bool true) ∧ Kept [] w w' := by
  obtain ⟨A, c, rfl, hm, hA⟩ := hx
  obtain ⟨B, d, rfl, _, hB⟩ := hy
  obtain ⟨n, hn⟩ : ∃ n, L.length = n := ⟨_, rfl⟩
  have HN := Lib.hid hn
  have HA := Lib.hid hA
  have HB := Lib.hid hB
  rw [hn] at hm ⊢
  clear hn hA hB
  go_enter Tryd.func11, Tryd.ntmps11
  go_wp2_with fail
  go_loopw [5] (fun ii wr => ∃ i : Nat, ii = .int .i64 i ∧ i ≤ n ∧ Kept [] w wr) (fun ii _ => n - (intOf ii).toNat)
  case atStart => exact ⟨0, rfl, Nat.zero_le _, Kept.refl _ _⟩
  case round =>
    obtain ⟨i, rfl, hi, hK⟩ := hrel
    have HK := Lib.hid hK
    clear hK
    by_cases hlt : i < n
    · have hne : L ≠ [] := by intro e; have := HN.out; rw [e] at this; simp at this; omega
      obtain ⟨a, rfl, ha⟩ := HA.out hne
      obtain ⟨b, rfl, hb⟩ := HB.out hne
      have hi2 : i < L.length := by rw [HN.out]; exact hlt
      obtain ⟨⟨K, T, ⟨v1, v2, v3⟩, p⟩, hT⟩ : ∃ t, L[i] = t := ⟨_, rfl⟩
      have hg : L[i]? = some ⟨K, T, (v1, v2, v3), p⟩ := by rw [List.getElem?_eq_getElem hi2, hT]
      have x0 : ∀ s : SW (Kept [] wr), s.to.cell? ⟨a, i * 6, none⟩ = some (.int .i64 K) := fun s => (HK.out.trans s.ok).cell (by simp) (ha i _ hg 0 _ rfl)
      have x1 : ∀ s : SW (Kept [] wr), s.to.cell? ⟨a, i * 6 + 1, none⟩ = some (.string T) := fun s => (HK.out.trans s.ok).cell (by simp) (ha i _ hg 1 _ rfl)
      have x2 : ∀ s : SW (Kept [] wr), s.to.cell? ⟨a, i * 6 + 2, none⟩ = some (.int .i64 v1) := fun s => (HK.out.trans s.ok).cell (by simp) (ha i _ hg 2 _ rfl)
      have x3 : ∀ s : SW (Kept [] wr), s.to.cell? ⟨a, i * 6 + 3, none⟩ = some (.int .i64 v2) := fun s => (HK.out.trans s.ok).cell (by simp) (ha i _ hg 3 _ rfl)
      have x4 : ∀ s : SW (Kept [] wr), s.to.cell? ⟨a, i * 6 + 4, none⟩ = some (.string v3) := fun s => (HK.out.trans s.ok).cell (by simp) (ha i _ hg 4 _ rfl)
      have x5 : ∀ s : SW (Kept [] wr), s.to.cell? ⟨a, i * 6 + 5, none⟩ = some (.int .i64 p) := fun s => (HK.out.trans s.ok).cell (by simp) (ha i _ hg 5 _ rfl)
      have y0 : ∀ s : SW (Kept [] wr), s.to.cell? ⟨b, i * 6, none⟩ = some (.int .i64 K) := fun s => (HK.out.trans s.ok).cell (by simp) (hb i _ hg 0 _ rfl)
      have y1 : ∀ s : SW (Kept [] wr), s.to.cell? ⟨b, i * 6 + 1, none⟩ = some (.string T) := fun s => (HK.out.trans s.ok).cell (by simp) (hb i _ hg 1 _ rfl)
      have y2 : ∀ s : SW (Kept [] wr), s.to.cell? ⟨b, i * 6 + 2, none⟩ = some (.int .i64 v1) := fun s => (HK.out.trans s.ok).cell (by simp) (hb i _ hg 2 _ rfl)
      have y3 : ∀ s : SW (Kept [] wr), s.to.cell? ⟨b, i * 6 + 3, none⟩ = some (.int .i64 v2) := fun s => (HK.out.trans s.ok).cell (by simp) (hb i _ hg 3 _ rfl)
      have y4 : ∀ s : SW (Kept [] wr), s.to.cell? ⟨b, i * 6 + 4, none⟩ = some (.string v3) := fun s => (HK.out.trans s.ok).cell (by simp) (hb i _ hg 4 _ rfl)
      have y5 : ∀ s : SW (Kept [] wr), s.to.cell? ⟨b, i * 6 + 5, none⟩ = some (.int .i64 p) := fun s => (HK.out.trans s.ok).cell (by simp) (hb i _ hg 5 _ rfl)
      clear ha hb hg hT
      go_wp2_with fail
      refine wp_region_sw (Kept [] wr) (stays_kept wr) (Kept.refl _ _) (by kernel_rfl) (by kernel_rfl) (fun hne => ?_)
      repeat (go_big_quiet_step (fail))
      refine wpQuiet_nil ?_
      intro w7 hs7
      have HK7 := Lib.hid (HK.out.trans hs7)
      clear hs7 x0 x1 x2 x3 x4 x5 y0 y1 y2 y3 y4 y5
      go_wp2_with fail
      go_roundw
      case rel => exact ⟨i + 1, by go_num, by omega, HK7.out⟩
      case measure => simp [intOf]; omega
    · go_wp2_with fail
      go_ret
      exact ⟨rfl, HK.out⟩

end Go.Proofs.YtmkpbffjgpoplaaDoor

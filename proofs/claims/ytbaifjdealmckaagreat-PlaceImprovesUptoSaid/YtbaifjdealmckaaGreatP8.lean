/- Who takes what comes out of an operator: the document's uses. -/
import Derived.Test.YtbaifjdealmckaaGreatRows
import Derived.WalkKit
import Derived.WalkSpells
import Derived.WalkLawsBesides
import Derived.Deep.QuietTactic
import Derived.BigQuiet
import Derived.Lib.Hide
import Derived.BigRegion
import Derived.Shelf.Abstract
import Derived.Lib.ConvBytes
import Derived.StillTailTactics
import Derived.Laws.AppendOwnNone
import Derived.Deep.AppendLies
import Derived.Deep.Slices
import Derived.ProofKit
import Derived.SizedLaws
import Derived.Test.YtbaifjdealmckaaGreatP7
set_option linter.unusedVariables false
set_option linter.unusedSimpArgs false
set_option linter.unnecessarySimpa false
namespace Go.Proofs.YtbaifjdealmckaaGreat
open Go.RowKit Go.Shelf

set_option maxRecDepth 100000 in
set_option maxHeartbeats 4000000 in
theorem ruses_any (ov fv : Value) (F : List (List Int)) (i : Int) (w : World) (hx : Rds intsR w fv F) (hF : fromLen F ≤ 1048576) :
    Calls Tryz.prog 100 #[.agg #[ov, fv], .int .i64 i] w (UsesPost w (usesGo i 0 F)) := by
  obtain ⟨i0, hi0, hz0, hz1, hz2⟩ := info_parts infoUse
  have hgl := Nat.le_trans (usesGo_le i F 0) hF
  have HX := Lib.hid hx
  obtain ⟨A, c, rfl, hmx⟩ := hx.form
  obtain ⟨G, hG⟩ : ∃ G, usesGo i 0 F = G := ⟨_, rfl⟩
  rw [hG] at hgl ⊢
  obtain ⟨n, hn⟩ : ∃ n, F.length = n := ⟨_, rfl⟩
  rw [hn] at hmx HX ⊢
  have HN := Lib.hid hn
  have HG := Lib.hid hG
  have HGL := Lib.hid hgl
  have HK0 := Lib.hid ((Kept.refl [] w).alloc (.cells #[ov, .slice A n c] 26))
  have HB0 := Lib.hid ((Blk.new w #[ov, .slice A n c] 26).cell 1)
  have HX0 : Hid (Rds intsR (w.alloc (.cells #[ov, .slice A n c] 26)) (.slice A n c) F) := HX.out.keep HK0.out
  clear hn hx hG hgl HX hF
  go_enter Tryz.func100, Tryz.ntmps100
  go_wp2_with fail
  go_loopw [5, 6] (fun o ii wr => ∃ (k : Nat) (L : List UseD), k ≤ n ∧ ii = .int .i64 k ∧ L ++ usesGo i k (F.drop k) = G ∧ wr.ownsRow (w.heap.size + 1) 100 2 o L.length (cellsU L) ∧ Kept [] (w.alloc (.cells #[ov, .slice A n c] 26)) wr) (fun _ ii _ => n - (intOf ii).toNat)
  case atStart => exact ⟨0, [], by omega, rfl, by rw [List.drop_zero]; exact HG.out, World.ownsRow_nil _ _ _ _, Kept.refl _ _⟩
  case round =>
    obtain ⟨k, L, hk, rfl, hg, hown, hK⟩ := hrel
    have cb := hK.cell (by simp) HB0.out
    have HGO := Lib.hid hg
    obtain ⟨AA, cc, rfl⟩ := own_len hown
    have HOWN := Lib.hid hown
    have HGB : Hid (∀ x, (Value.slice AA L.length cc).ownBlock = some x → w.heap.size + 1 ≤ x) := fun x hx => (hown.lt x hx).1
    clear hg hown
    by_cases hlt : k < n
    · obtain ⟨b, off, c', row, cs', he, hx, hE, hc⟩ := HX0.out.at (k := k) (by rw [HN.out]; exact hlt)
      injection he with he1 he2 he3
      subst he1 he3
      obtain ⟨rv, rfl, hrow⟩ := intsR_cells hE
      have e00 := hc 0 (by decide)
      simp only [show intsR.sz = 1 from rfl, Nat.mul_one, Nat.add_zero, List.getElem?_cons_zero] at e00
      have HD := Lib.hid (drop_at hx)
      have HROW := Lib.hid hrow.ints
      obtain ⟨RA, rc, rfl, hrm⟩ := hrow.form
      obtain ⟨m, hm⟩ : ∃ m, row.length = m := ⟨_, rfl⟩
      rw [hm] at hrm HROW e00
      have E00 := Lib.hid e00
      have HM := Lib.hid hm
      have HK := Lib.hid hK
      have HGL2 : Hid ((L ++ (usesRow k i 0 row ++ usesGo i (k + 1) (F.drop (k + 1)))) = G) := by
        show _ = _
        rw [← HGO.out, HD.out, usesGo]
      obtain ⟨wm, rfl⟩ : ∃ x, x = wr := ⟨_, rfl⟩
      clear hx he2 hc hE hrow hm hK e00
      go_wp2_with fail
      go_loopw [5, 7] (fun o jj wr => ∃ (j : Nat) (M : List UseD), j ≤ m ∧ jj = .int .i64 j ∧ M ++ (usesRow k i j (row.drop j) ++ usesGo i (k + 1) (F.drop (k + 1))) = G ∧ wr.ownsRow (w.heap.size + 1) 100 2 o M.length (cellsU M) ∧ Kept [] (w.alloc (.cells #[ov, .slice (some ⟨b, off, none⟩) n c] 26)) wr) (fun _ jj _ => m - (intOf jj).toNat)
      case atStart => exact ⟨0, L, by omega, rfl, by rw [List.drop_zero]; exact HGL2.out, HOWN.out, HK.out⟩
      case round =>
        obtain ⟨j, M, hj, rfl, hg4, hown4, hK4⟩ := hrel
        have cb4 := hK4.cell (by simp) HB0.out
        have e04 := hK4.cell (by simp) E00.out
        have HGO4 := Lib.hid hg4
        obtain ⟨A4, c4, rfl⟩ := own_len hown4
        have HGB4 : Hid (∀ x, (Value.slice A4 M.length c4).ownBlock = some x → w.heap.size + 1 ≤ x) := fun x hx => (hown4.lt x hx).1
        have HOWN4 := Lib.hid hown4
        have HK4 := Lib.hid hK4
        have hsz4 := hK4.size
        simp only [World.size_alloc] at hsz4
        by_cases hlt4 : j < m
        · obtain ⟨bl, ol, c', f, he, hy, hcf0⟩ := RdI.at HROW.out (i := j) (by rw [HM.out]; exact hlt4)
          injection he with he1 he2 he3
          subst he1 he3
          have hcf := hK4.cell (by simp) hcf0
          obtain ⟨ML, hML⟩ : ∃ ML, M.length = ML := ⟨_, rfl⟩
          rw [hML] at HOWN4 HGB4 ⊢
          have HMLL := Lib.hid hML
          by_cases hfi : f = i
          · have HU := Lib.hid (usesRow_hit (k := k) hy hfi)
            have bfi : (f == i) = true := by rw [hfi]; exact beq_self_eq_true i
            have hML3 : ML < 1048576 := by
              have h1 := HGL.out
              rw [← HGO4.out, HU.out] at h1
              simp at h1
              omega
            have HFI := Lib.hid hfi
            clear hfi hML hy he2 hg4 hown4 hK4 hcf0
            go_wp2_with (at_builtin; refine wpList_append_own_at _ rfl _ _ 97 rfl (w.heap.size + 1) 100 i0 (.agg #[.int .i64 0, .int .i64 0]) 2 16 Tryz.underlying97 hi0 hz0 hz1 hz2 rfl (by decide) _ ML (cellsU M) rfl (World.ownsRow.alloc HOWN4.out _) ⟨wr.heap.size, 0, none⟩ 1 1 [.int .i64 k, .int .i64 j] rfl rfl (cell_two_new _ _ _ _) (by simp [Value.oneCell']) (by unfold maxLen; omega) (by omega) (by simp; omega) ?_)
            intro v' w5 hown5 hgrow5 _ hat5
            have HK5 : Hid (Kept [] (w.alloc (.cells #[ov, .slice (some ⟨b, off, none⟩) n c] 26)) w5) := (HK4.out.alloc _).grown hgrow5 (fun x hx => .inr (by have := HGB4.out x hx; simpa using this))
            have HOWN5 := Lib.hid hown5
            clear hown5 hgrow5 hat5
            go_wp2_with fail
            go_roundw
            case rel =>
              refine ⟨j + 1, M ++ [(k, j)], by omega, by go_num, ?_, ?_, HK5.out⟩
              · rw [← HGO4.out, HU.out]; simp
              · rw [cellsU_app, List.length_append, HMLL.out]; exact HOWN5.out
            case measure => simp [intOf]; omega
          · have HU := Lib.hid (usesRow_miss (k := k) hy hfi)
            have bfi : (f == i) = false := by rw [beq_eq_false_iff_ne]; exact hfi
            clear hfi hML hy he2 hg4 hown4 hK4 hcf0
            go_wp2_with fail
            go_roundw
            case rel =>
              refine ⟨j + 1, M, by omega, by go_num, ?_, ?_, HK4.out⟩
              · rw [← HGO4.out, HU.out]
              · rw [HMLL.out]; exact HOWN4.out
            case measure => simp [intOf]; omega
        · have hjm : j = m := by omega
          subst hjm
          have HG5 : Hid (M ++ usesGo i (k + 1) (F.drop (k + 1)) = G) := by
            show _ = _
            have e1 : row.drop j = [] := List.drop_eq_nil_of_le (by rw [HM.out]; omega)
            rw [← HGO4.out, e1]
            rfl
          clear hg4 hown4 hK4
          go_wp2_with fail
          go_roundw
          case rel => exact ⟨k + 1, M, by omega, by go_num, HG5.out, HOWN4.out, HK4.out⟩
          case measure => simp [intOf]; omega
    · have HLG : Hid (L = G) := by
        show _ = _
        have := HGO.out
        rw [List.drop_eq_nil_of_le (by rw [HN.out]; omega)] at this
        simpa [usesGo] using this
      have HK := Lib.hid hK
      go_wp2_with fail
      go_ret
      refine ⟨_, rfl, ?_, HK0.out.trans HK.out⟩
      rw [← HLG.out]
      exact rowBase HOWN.out (by omega)

end Go.Proofs.YtbaifjdealmckaaGreat

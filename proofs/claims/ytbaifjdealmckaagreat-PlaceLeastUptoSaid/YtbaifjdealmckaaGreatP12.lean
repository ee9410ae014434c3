/- What comes on an operator's inputs: the program's ins. -/
import Derived.Test.YtbaifjdealmckaaGreatRows
import Derived.WalkKit
import Derived.WalkSpells
import Derived.WalkLawsBesides
import Derived.Deep.QuietTactic
import Derived.BigQuiet
import Derived.Lib.Hide
import Derived.BigRegion
import Derived.Shelf.Abstract
import Derived.Lib.ConvBytes
import Derived.StillTailTactics
import Derived.Laws.AppendOwnNone
import Derived.Deep.AppendLies
import Derived.Deep.Slices
import Derived.ProofKit
import Derived.SizedLaws
import Derived.Test.YtbaifjdealmckaaGreatP7
set_option linter.unusedVariables false
set_option linter.unusedSimpArgs false
set_option linter.unnecessarySimpa false
namespace Go.Proofs.YtbaifjdealmckaaGreat
open Go.RowKit Go.Shelf

theorem info64 : (Tryz.prog.info? 2).map (fun i => (i.zero, i.size, i.bytes)) = some (some (.int .i64 0), 1, 8) := by kernel_rfl

def insV (out : List Int) : List Int → List Int
  | [] => []
  | f :: l => if 0 ≤ f then out.getD f.toNat 0 :: insV out l else insV out l
theorem insV_le (out : List Int) : ∀ (l : List Int), (insV out l).length ≤ l.length
  | [] => Nat.le_refl _
  | f :: l => by
    have := insV_le out l
    unfold insV
    split <;> simp <;> omega

def IntsPost (w : World) (l : List Int) : Ending → World → Prop := fun e w' => ∃ v, e = .returned v ∧ w'.ownsRow w.heap.size 2 1 v l.length (l.map (.int .i64)) ∧ Kept [] w w'

set_option maxRecDepth 100000 in
set_option maxHeartbeats 4000000 in
theorem ins_any (ov fv uv : Value) (F : List (List Int)) (out row : List Int) (i : Nat) (w : World) (hx : Rds intsR w fv F) (hu : RdI w .i64 uv out) (hi : F[i]? = some row) (hl : row.length ≤ 1048576) (hf : ∀ f ∈ row, f < (out.length : Int)) :
    Calls Tryz.prog 96 #[.agg #[ov, fv], uv, .int .i64 i] w (IntsPost w (insV out row)) := by
  obtain ⟨i0, hi0, hz0, hz1, hz2⟩ := info_parts info64
  have hil : i < F.length := (List.getElem?_eq_some_iff.1 hi).1
  obtain ⟨b, off, c, row', cs, he, hx', hE, hc⟩ := hx.at hil
  rw [hi] at hx'
  injection hx' with hx'
  subst hx'
  subst he
  obtain ⟨rv, rfl, hrow⟩ := intsR_cells hE
  have e00 := hc 0 (by decide)
  simp only [show intsR.sz = 1 from rfl, Nat.mul_one, Nat.add_zero, List.getElem?_cons_zero] at e00
  have HROW := Lib.hid hrow.ints
  obtain ⟨RA, rc, rfl, hrm⟩ := hrow.form
  have HU := Lib.hid hu
  obtain ⟨UA, uc, rfl, hmu, _⟩ := hu
  obtain ⟨G, hG⟩ : ∃ G, insV out row = G := ⟨_, rfl⟩
  have hgl := insV_le out row
  rw [hG] at hgl ⊢
  obtain ⟨n, hn⟩ : ∃ n, F.length = n := ⟨_, rfl⟩
  obtain ⟨m, hm⟩ : ∃ m, row.length = m := ⟨_, rfl⟩
  obtain ⟨nu, hnu⟩ : ∃ nu, out.length = nu := ⟨_, rfl⟩
  rw [hn] at hil ⊢
  rw [hm] at hrm HROW hl hgl e00
  rw [hnu] at hmu HU hf ⊢
  unfold maxLen at hmu
  have HN := Lib.hid hn
  have HM := Lib.hid hm
  have HNU := Lib.hid hnu
  have HG := Lib.hid hG
  have HGL : Hid (G.length ≤ 1048576) := by show G.length ≤ 1048576; omega
  have HF := Lib.hid hf
  have hi0' : (0 : Int) ≤ (i : Int) := by omega
  have hin : (i : Int) < (n : Int) := by omega
  obtain ⟨W0, hW0⟩ : ∃ W0, w.alloc (.cells #[ov, .slice (some ⟨b, off, none⟩) n c] 26) = W0 := ⟨_, rfl⟩
  have HK0 : Hid (Kept [] w W0) := by show Kept [] w W0; rw [← hW0]; exact (Kept.refl [] w).alloc _
  have HB0 : Hid (Blk W0 w.heap.size #[ov, .slice (some ⟨b, off, none⟩) n c] 26) := by show Blk _ _ _ _; rw [← hW0]; exact Blk.new w _ _
  have hsz : W0.heap.size = w.heap.size + 1 := by rw [← hW0]; simp
  have HW0 := Lib.hid hW0
  have hltb : b < w.heap.size := by
    by_cases h : b < w.heap.size
    · exact h
    · exfalso
      simp [World.cell?, Array.getElem?_eq_none (by omega : w.heap.size ≤ b)] at e00
  clear hx hE hc hrow hi hG hn hm hnu hf hW0 hgl
  go_enter Tryz.func96, Tryz.ntmps96
  go_wp2_with fail
  go_loopw [7, 16] (fun o jj wr => ∃ (j : Nat) (L : List Int), j ≤ m ∧ jj = .int .i64 j ∧ L ++ insV out (row.drop j) = G ∧ wr.ownsRow (w.heap.size + 1) 2 1 o L.length (L.map (.int .i64)) ∧ Kept [] W0 wr) (fun _ jj _ => m - (intOf jj).toNat)
  case atStart => exact ⟨0, [], by omega, rfl, by rw [List.drop_zero]; exact HG.out, World.ownsRow_nil _ _ _ _, by rw [HW0.out]; exact Kept.refl _ _⟩
  case round =>
    obtain ⟨j, L, hj, rfl, hg, hown, hK⟩ := hrel
    have HGO := Lib.hid hg
    obtain ⟨AA, cc, rfl⟩ := own_len hown
    have HOWN := Lib.hid hown
    have HGB : Hid (∀ x, (Value.slice AA L.length cc).ownBlock = some x → w.heap.size + 1 ≤ x) := fun x hx => (hown.lt x hx).1
    have HK := Lib.hid hK
    have hsz2 := hK.size
    clear hg hown hK
    by_cases hlt : j < m
    · obtain ⟨bl, ol, c', f, he, hy, hcf0⟩ := RdI.at HROW.out (i := j) (by rw [HM.out]; exact hlt)
      injection he with he1 he2 he3
      subst he1 he3
      have hcf := (HK0.out.trans HK.out).cell (by simp) hcf0
      have HD := Lib.hid (drop_at hy)
      have hfm := HF.out f (List.mem_of_getElem? hy)
      obtain ⟨ML, hML⟩ : ∃ ML, L.length = ML := ⟨_, rfl⟩
      rw [hML] at HOWN HGB ⊢
      have HMLL := Lib.hid hML
      by_cases hf0 : 0 ≤ f
      · obtain ⟨q, rfl⟩ := Int.eq_ofNat_of_zero_le hf0
        have hqn : q < nu := by omega
        obtain ⟨bu, ou, cu, y, he, hyu, hcu0⟩ := RdI.at HU.out (i := q) (by rw [HNU.out]; exact hqn)
        injection he with he1 he2' he3
        subst he1 he3
        have hcu := (HK0.out.trans HK.out).cell (by simp) hcu0
        have HGN : Hid (L ++ y :: insV out (row.drop (j + 1)) = G) := by
          show _ = _
          rw [← HGO.out, HD.out, insV, if_pos (by omega), Int.toNat_natCast, List.getD, hyu]
          rfl
        have hML3 : ML < 1048576 := by
          have h1 := HGL.out
          rw [← HGN.out, List.length_append, List.length_cons, HMLL.out] at h1
          omega
        clear hy hyu he2 he2' hcf0 hcu0 hML
        go_wp2_with (at_builtin; refine wpList_append_own_at _ rfl _ _ 27 rfl (w.heap.size + 1) 2 i0 (.int .i64 0) 1 8 Tryz.underlying27 hi0 hz0 hz1 hz2 rfl (by decide) _ ML (L.map (.int .i64)) rfl (World.ownsRow.alloc HOWN.out _) ⟨wr.heap.size, 0, none⟩ 1 1 [.int .i64 y] rfl rfl (cell_one_new _ _ _) (by simp [Value.oneCell']) (by unfold maxLen; omega) (by omega) (by simp; omega) ?_)
        intro v' w5 hown5 hgrow5 _ hat5
        have HK5 : Hid (Kept [] W0 w5) := (HK.out.alloc _).grown hgrow5 (fun x hx => .inr (by have := HGB.out x hx; rw [hsz]; exact this))
        have HOWN5 := Lib.hid hown5
        clear hown5 hgrow5 hat5
        go_wp2_with fail
        go_roundw
        case rel => exact ⟨j + 1, L ++ [y], by omega, by go_num, by rw [← HGN.out]; simp, by rw [List.map_append, List.length_append, HMLL.out]; exact HOWN5.out, HK5.out⟩
        case measure => simp [intOf]; omega
      · have HGN : Hid (L ++ insV out (row.drop (j + 1)) = G) := by
          show _ = _
          rw [← HGO.out, HD.out, insV, if_neg hf0]
        clear hy he2 hcf0 hML
        go_wp2_with fail
        go_roundw
        case rel => exact ⟨j + 1, L, by omega, by go_num, HGN.out, by rw [HMLL.out]; exact HOWN.out, HK.out⟩
        case measure => simp [intOf]; omega
    · have HLG : Hid (L = G) := by
        show _ = _
        have := HGO.out
        rw [List.drop_eq_nil_of_le (by rw [HM.out]; omega)] at this
        simpa [insV] using this
      go_wp2_with fail
      go_ret
      refine ⟨_, rfl, ?_, HK0.out.trans HK.out⟩
      rw [← HLG.out]
      exact rowBase HOWN.out (by omega)

end Go.Proofs.YtbaifjdealmckaaGreat

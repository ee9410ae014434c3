/- A value's text: the document's. -/
import Derived.Test.YthgenobbpaclhaaDoorRows
import Derived.WalkKit
import Derived.WalkSpells
import Derived.WalkLawsBesides
import Derived.Deep.QuietTactic
import Derived.BigQuiet
import Derived.Lib.Hide
import Derived.Laws.Runes
import Derived.Laws.Concat
import Derived.Laws.Cover4
import Derived.Lib.ConvBytes
import Derived.Deep.Slices
import Derived.ProofKit
import Derived.SizedLaws
import Derived.Test.YthgenobbpaclhaaDoorShelf
import Derived.Laws.BytesArg
import Derived.Laws.BitsLemmas
import Derived.Deep.RegionHeld3
import Derived.Deep.AppendLies
import Derived.Maps.AppendAt
import Derived.Lib.ItoaLen
import Derived.Lib.SmallJoins
import Derived.Test.YthgenobbpaclhaaDoorD3
import Derived.Test.YthgenobbpaclhaaDoorX8
set_option linter.unusedVariables false
set_option linter.unusedSimpArgs false
set_option linter.unnecessarySimpa false
namespace Go.Proofs.YthgenobbpaclhaaDoor
open Go.RowKit Go.Shelf
attribute [local go_sem] Oper.semAt_some

set_option maxRecDepth 100000 in
set_option maxHeartbeats 8000000 in
theorem rtext_str (k n0 : Int) (s : ByteArray) (hk2 : k = 2) (hs : 4 * s.size + 2 ≤ 140737488355328) (w : World) :
    Calls Tryd.prog 60 #[.agg #[.int .i64 k, .int .i64 n0, .string s]] w fun e w' => e = .returned (.string (strOfNums (quoteI s))) ∧ Kept [] w w' := by
  subst hk2
  obtain ⟨i0, hi0, hz0, hz1, hz2⟩ := info_parts infoU8
  obtain ⟨n, hn⟩ : ∃ n, s.size = n := ⟨_, rfl⟩
  have HN := Lib.hid hn
  obtain ⟨G, hG⟩ : ∃ G, escGo s n 0 = G := ⟨_, rfl⟩
  have HGL : Hid (G.length ≤ 4 * n) := by show _ ≤ _; rw [← hG]; exact escGo_le s n 0
  have HR : Hid (quoteI s = 34 :: (G ++ [34])) := by show _ = _; rw [← hG, ← hn]; rfl
  have HG := Lib.hid hG
  rw [hn] at hs
  obtain ⟨W1, hW1⟩ : ∃ W1, (w.alloc (.cells #[.int .i64 2, .int .i64 n0, .string s] 59)).alloc (.cells #[.int .u8 34] 5) = W1 := ⟨_, rfl⟩
  have HK0 : Hid (Kept [] w W1) := by show Kept [] w W1; rw [← hW1]; exact ((Kept.refl [] w).alloc _).alloc _
  have HS1 : Hid (W1.heap.size = w.heap.size + 1 + 1) := by show _ = _; rw [← hW1]; simp
  have HO0 : Hid (W1.ownsRow (w.heap.size + 1) 5 1 (.slice (some ⟨w.heap.size + 1, 0, none⟩) 1 1) 1 (cB [34])) := by
    have h := own_new (w.alloc (.cells #[.int .i64 2, .int .i64 n0, .string s] 59)) (w.heap.size + 1) 5 (cB [34]) (by simp) (by simp [cB, maxLen]) (by simp [cB])
    show W1.ownsRow _ _ _ _ _ _
    rw [← hW1]
    simpa [cB] using h
  have HAW : Hid (Blk W1 w.heap.size #[.int .i64 2, .int .i64 n0, .string s] 59) := by
    show Blk W1 _ _ _
    rw [← hW1]
    exact (Blk.new w _ _).alloc _
  have IX := Lib.hid (fun k (h : k < n) w => index_at s k (by rw [← hn] at h; exact h) w)
  have hl := len_at s hn
  have HW1 := Lib.hid hW1
  clear hn hG hW1
  go_enter Tryd.func60, Tryd.ntmps60
  go_wp2_with fail
  go_loopw [3, 4] (fun o ii wr => ∃ (j : Nat) (L : List Int), j ≤ n ∧ ii = .int .i64 j ∧ L ++ escGo s (n - j) j = 34 :: G ∧ wr.ownsRow (w.heap.size + 1) 5 1 o L.length (cB L) ∧ OwnAt (w.heap.size + 1) o ∧ Kept [w.heap.size + 1] W1 wr) (fun _ ii _ => n - (intOf ii).toNat)
  case atStart =>
    refine ⟨0, [34], by omega, rfl, by rw [Nat.sub_zero, HG.out]; rfl, ?_, OwnAt.first _ _ _, ?_⟩
    · rw [HW1.out]
      exact HO0.out
    · rw [HW1.out]; exact Kept.refl _ _
  case round =>
    obtain ⟨j, L, hj, rfl, hg, hown, hat, hK⟩ := hrel
    have HGO := Lib.hid hg
    obtain ⟨AA, cc, rfl⟩ := own_len hown
    have HOWN := Lib.hid hown
    have HAT := Lib.hid hat
    have HK := Lib.hid hK
    have hsz := hK.size
    obtain ⟨a0, a1, a2, fa0, fa1, fa2⟩ := (HAW.out.kept hK (by simp)).three
    rw [HS1.out] at hsz
    by_cases hlt : j < n
    · have hix := fun W => IX.out j hlt W
      have HD := Lib.hid (escGo_at s n j hlt)
      have hcb := byt_bd s j
      obtain ⟨c, hc⟩ : ∃ c, byt s j = c := ⟨_, rfl⟩
      rw [hc] at hix hcb HD
      have hll : L.length + (escI c).length ≤ 4 * n + 1 := by
        have h1 := congrArg List.length (HGO.out.symm)
        rw [HD.out, List.length_append, List.length_append, List.length_cons] at h1
        have := HGL.out
        omega
      have HLL := Lib.hid hll
      obtain ⟨ML, hML⟩ : ∃ ML, L.length = ML := ⟨_, rfl⟩
      rw [hML] at HOWN HAT hll
      rw [hML]
      have HML := Lib.hid hML
      clear hg hown hat hK hc hML
      by_cases h1 : c = 34 ∨ c = 92
      · have HE : Hid (escI c = [92, c]) := by show _ = _; unfold escI; rw [if_pos h1]
        have hl2 : ML + 2 ≤ 4 * n + 1 := by rw [HE.out] at hll; simpa using hll
        have HC1 : Hid (c = 34 ∨ c = 92) := h1
        have HARM : Hid (∀ (x : World), wr = x → True) := fun _ _ => trivial
        clear hll
        by_cases h34 : c = 34
        · have b1 : (c == 34) = true := by rw [h34]; rfl
          clear h1 h34
          go_wp2_with (at_builtin; refine wpList_append_own_at _ rfl _ _ 44 rfl (w.heap.size + 1) 5 i0 (.int .u8 0) 1 1 Tryd.underlying44 hi0 hz0 hz1 hz2 rfl (by decide) _ ML (cB L) rfl (World.ownsRow.alloc HOWN.out _) ⟨wr.heap.size, 0, none⟩ 2 2 [.int .u8 92, .int .u8 c] rfl rfl (cell_two_new _ _ _ _) (by simp [Value.oneCell']) (by unfold maxLen; omega) (by omega) (by simp; omega) ?_)
          intro v' w5 hown5 hgrow5 _ hat5
          have HK5 : Hid (Kept [w.heap.size + 1] W1 w5) := (HK.out.alloc _).grown hgrow5 (fun x hx => by have := HAT.out x hx; rw [HS1.out]; simp; omega)
          have HOWN5 := Lib.hid hown5
          have HAT5 : Hid (OwnAt (w.heap.size + 1) v') := HAT.out.next hat5 (by simp; omega)
          clear hown5 hgrow5 hat5
          go_wp2_with fail
          go_roundw
          case rel =>
            refine ⟨j + 1, L ++ [92, c], by omega, by go_num, ?_, ?_, HAT5.out, HK5.out⟩
            · rw [← HGO.out, HD.out, HE.out]; simp
            · rw [cB_app, List.length_append, HML.out]; exact HOWN5.out
          case measure => simp [intOf]; omega
        · have b1 : (c == 34) = false := by rw [beq_eq_false_iff_ne]; exact h34
          have b2 : (c == 92) = true := by rw [beq_iff_eq]; omega
          clear h1 h34
          go_wp2_with (at_builtin; refine wpList_append_own_at _ rfl _ _ 44 rfl (w.heap.size + 1) 5 i0 (.int .u8 0) 1 1 Tryd.underlying44 hi0 hz0 hz1 hz2 rfl (by decide) _ ML (cB L) rfl (World.ownsRow.alloc HOWN.out _) ⟨wr.heap.size, 0, none⟩ 2 2 [.int .u8 92, .int .u8 c] rfl rfl (cell_two_new _ _ _ _) (by simp [Value.oneCell']) (by unfold maxLen; omega) (by omega) (by simp; omega) ?_)
          intro v' w5 hown5 hgrow5 _ hat5
          have HK5 : Hid (Kept [w.heap.size + 1] W1 w5) := (HK.out.alloc _).grown hgrow5 (fun x hx => by have := HAT.out x hx; rw [HS1.out]; simp; omega)
          have HOWN5 := Lib.hid hown5
          have HAT5 : Hid (OwnAt (w.heap.size + 1) v') := HAT.out.next hat5 (by simp; omega)
          clear hown5 hgrow5 hat5
          go_wp2_with fail
          go_roundw
          case rel =>
            refine ⟨j + 1, L ++ [92, c], by omega, by go_num, ?_, ?_, HAT5.out, HK5.out⟩
            · rw [← HGO.out, HD.out, HE.out]; simp
            · rw [cB_app, List.length_append, HML.out]; exact HOWN5.out
          case measure => simp [intOf]; omega
      · have b1 : (c == 34) = false := by rw [beq_eq_false_iff_ne]; omega
        have b2 : (c == 92) = false := by rw [beq_eq_false_iff_ne]; omega
        by_cases h2 : c < 32 ∨ 126 < c
        · have HE : Hid (escI c = [92, 120, hexI (c / 16), hexI (c % 16)]) := by show _ = _; unfold escI; rw [if_neg h1, if_pos h2]
          have hl2 : ML + 4 ≤ 4 * n + 1 := by rw [HE.out] at hll; simpa using hll
          have hx1 : ∀ W : World, (Instr.index 9 (.string { data := #[48, 49, 50, 51, 52, 53, 54, 55, 56, 57, 97, 98, 99, 100, 101, 102] }) (.int .u8 (c / 16))).run Tryd.prog W = .ok (.int .u8 (hexI (c / 16))) W := fun W => hex_at (c / 16) (by omega) (by omega) W
          have hx2 : ∀ W : World, (Instr.index 9 (.string { data := #[48, 49, 50, 51, 52, 53, 54, 55, 56, 57, 97, 98, 99, 100, 101, 102] }) (.int .u8 (c % 16))).run Tryd.prog W = .ok (.int .u8 (hexI (c % 16))) W := fun W => hex_at (c % 16) (by omega) (by omega) W
          have q1 : Int.tdiv c 16 = c / 16 := Int.tdiv_eq_ediv_of_nonneg hcb.1
          have q2 : Int.tmod c 16 = c % 16 := Int.tmod_eq_emod_of_nonneg hcb.1
          have q3 : IntKind.u8.wrap (c / 16) = c / 16 := by unfold IntKind.wrap; simp [IntKind.signed, IntKind.bits]; omega
          have q4 : IntKind.u8.wrap (c % 16) = c % 16 := by unfold IntKind.wrap; simp [IntKind.signed, IntKind.bits]; omega
          have ea : (0 : Int) ≤ c % 16 := by omega
          clear hll h1
          by_cases h3 : c < 32
          · have d1 : decide (c < 32) = true := decide_eq_true h3
            clear h2 h3
            go_wp2_with fail
            go_region_held3 (fun _ => True) (trivial) ((refine step_append_lies _ (by rfl) _ _ 44 (by rfl) (w.heap.size + 1) 5 i0 (.int .u8 0) 1 1 Tryd.underlying44 hi0 hz0 hz1 hz2 (by rfl) (by decide) (.slice AA ML cc) ML (cB L) (by rfl) (ownsRow_of_kept HOWN.out (by first | exact (Kept.refl [] wr).drew.alloc _ | exact ((Kept.refl [] wr).alloc _).drew | exact ((Kept.refl [] wr).drewN _).alloc _ | exact (Kept.refl [] wr).alloc _) (by simp)) ⟨wr.heap.size, 0, none⟩ 4 4 [.int .u8 92, .int .u8 120, .int .u8 (hexI (c / 16)), .int .u8 (hexI (c % 16))] (by rfl) (by rfl) (cell_four_new _ _ _ _ _ _) (by simp [Value.oneCell']) (by decide) (by unfold maxLen; omega) (by omega) (by simp; omega) (wr.heap.size + 1) (by simp) ?_; intro g cap w5 hown5 hgrow5 hat5 hlt5))
            all_goals
              have HK5 : Hid (Kept [w.heap.size + 1] W1 w5) := Kept.grown (by first | exact HK.out.drew.alloc _ | exact (HK.out.alloc _).drew | exact (HK.out.drewN _).alloc _ | exact HK.out.alloc _) hgrow5 (fun x hx => by have := HAT.out x hx; rw [HS1.out]; simp; omega)
              have HOWN5 := Lib.hid hown5
              have HAT5 := Lib.hid (HAT.out.lies (n := ML + 4) (c := cap) hat5 (by omega))
              clear hown5 hgrow5 hat5 hlt5 hx1 hx2 ea
              go_wp2_with fail
              go_roundw
              case rel =>
                refine ⟨j + 1, L ++ [92, 120, hexI (c / 16), hexI (c % 16)], by omega, by go_num, ?_, ?_, ?_, HK5.out⟩
                · rw [← HGO.out, HD.out, HE.out]; simp
                · rw [cB_app, List.length_append, HML.out]; exact HOWN5.out
                · exact HAT5.out
              case measure => simp [intOf]; omega
          · have d1 : decide (c < 32) = false := decide_eq_false h3
            have d2 : decide (126 < c) = true := decide_eq_true (by omega)
            clear h2 h3
            go_wp2_with fail
            go_region_held3 (fun _ => True) (trivial) ((refine step_append_lies _ (by rfl) _ _ 44 (by rfl) (w.heap.size + 1) 5 i0 (.int .u8 0) 1 1 Tryd.underlying44 hi0 hz0 hz1 hz2 (by rfl) (by decide) (.slice AA ML cc) ML (cB L) (by rfl) (ownsRow_of_kept HOWN.out (by first | exact (Kept.refl [] wr).drew.alloc _ | exact ((Kept.refl [] wr).alloc _).drew | exact ((Kept.refl [] wr).drewN _).alloc _ | exact (Kept.refl [] wr).alloc _) (by simp)) ⟨wr.heap.size, 0, none⟩ 4 4 [.int .u8 92, .int .u8 120, .int .u8 (hexI (c / 16)), .int .u8 (hexI (c % 16))] (by rfl) (by rfl) (cell_four_new _ _ _ _ _ _) (by simp [Value.oneCell']) (by decide) (by unfold maxLen; omega) (by omega) (by simp; omega) (wr.heap.size + 1) (by simp) ?_; intro g cap w5 hown5 hgrow5 hat5 hlt5))
            all_goals
              have HK5 : Hid (Kept [w.heap.size + 1] W1 w5) := Kept.grown (by first | exact HK.out.drew.alloc _ | exact (HK.out.alloc _).drew | exact (HK.out.drewN _).alloc _ | exact HK.out.alloc _) hgrow5 (fun x hx => by have := HAT.out x hx; rw [HS1.out]; simp; omega)
              have HOWN5 := Lib.hid hown5
              have HAT5 := Lib.hid (HAT.out.lies (n := ML + 4) (c := cap) hat5 (by omega))
              clear hown5 hgrow5 hat5 hlt5 hx1 hx2 ea
              go_wp2_with fail
              go_roundw
              case rel =>
                refine ⟨j + 1, L ++ [92, 120, hexI (c / 16), hexI (c % 16)], by omega, by go_num, ?_, ?_, ?_, HK5.out⟩
                · rw [← HGO.out, HD.out, HE.out]; simp
                · rw [cB_app, List.length_append, HML.out]; exact HOWN5.out
                · exact HAT5.out
              case measure => simp [intOf]; omega
        · have d1 : decide (c < 32) = false := decide_eq_false (by omega)
          have d2 : decide (126 < c) = false := decide_eq_false (by omega)
          have HE : Hid (escI c = [c]) := by show _ = _; unfold escI; rw [if_neg h1, if_neg h2]
          have hl2 : ML + 1 ≤ 4 * n + 1 := by rw [HE.out] at hll; simpa using hll
          clear hll h1 h2
          go_wp2_with (at_builtin; refine wpList_append_own_at _ rfl _ _ 44 rfl (w.heap.size + 1) 5 i0 (.int .u8 0) 1 1 Tryd.underlying44 hi0 hz0 hz1 hz2 rfl (by decide) _ ML (cB L) rfl (World.ownsRow.alloc HOWN.out _) ⟨wr.heap.size, 0, none⟩ 1 1 [.int .u8 c] rfl rfl (cell_one_new _ _ _) (by simp [Value.oneCell']) (by unfold maxLen; omega) (by omega) (by simp; omega) ?_)
          intro v' w5 hown5 hgrow5 _ hat5
          have HK5 : Hid (Kept [w.heap.size + 1] W1 w5) := (HK.out.alloc _).grown hgrow5 (fun x hx => by have := HAT.out x hx; rw [HS1.out]; simp; omega)
          have HOWN5 := Lib.hid hown5
          have HAT5 : Hid (OwnAt (w.heap.size + 1) v') := HAT.out.next hat5 (by simp; omega)
          clear hown5 hgrow5 hat5
          go_wp2_with fail
          go_roundw
          case rel =>
            refine ⟨j + 1, L ++ [c], by omega, by go_num, ?_, ?_, HAT5.out, HK5.out⟩
            · rw [← HGO.out, HD.out, HE.out]; simp
            · rw [cB_app, List.length_append, HML.out]; exact HOWN5.out
          case measure => simp [intOf]; omega
    · have HL : Hid (L = 34 :: G) := by
        show _ = _
        have h := HGO.out
        rw [show n - j = 0 by omega] at h
        simpa [escGo] using h
      have hl2 : L.length + 1 ≤ 4 * n + 2 := by have := HGL.out; rw [HL.out, List.length_cons]; omega
      obtain ⟨ML, hML⟩ : ∃ ML, L.length = ML := ⟨_, rfl⟩
      rw [hML] at HOWN HAT hl2
      rw [hML]
      have HML := Lib.hid hML
      clear hg hown hat hK hML
      go_wp2_with (at_builtin; refine wpList_append_own_at _ rfl _ _ 44 rfl (w.heap.size + 1) 5 i0 (.int .u8 0) 1 1 Tryd.underlying44 hi0 hz0 hz1 hz2 rfl (by decide) _ ML (cB L) rfl (World.ownsRow.alloc HOWN.out _) ⟨wr.heap.size, 0, none⟩ 1 1 [.int .u8 34] rfl rfl (cell_one_new _ _ _) (by simp [Value.oneCell']) (by unfold maxLen; omega) (by omega) (by simp; omega) ?_)
      intro v' w5 hown5 hgrow5 _ hat5
      have HK5 : Hid (Kept [w.heap.size + 1] W1 w5) := (HK.out.alloc _).grown hgrow5 (fun x hx => by have := HAT.out x hx; rw [HS1.out]; simp; omega)
      have hown6 : w5.ownsRow (w.heap.size + 1) 5 1 v' (L ++ [34]).length (cB (L ++ [34])) := by
        rw [cB_app, List.length_append, HML.out]; exact hown5
      have hcs := own_str hown6
      clear hown5 hgrow5 hat5 hown6
      go_wp2_with fail
      go_ret
      refine ⟨strRet ?_, ?_⟩
      · rw [HR.out, HL.out]; rfl
      · exact Kept.after HK0.out HK5.out (by simp)

set_option maxRecDepth 100000 in
set_option maxHeartbeats 1000000 in
theorem rtext_int (n : Int) (s : ByteArray) (h0 : -9223372036854775808 ≤ n) (h1 : n ≤ 9223372036854775807) (w : World) :
    Calls Tryd.prog 60 #[.agg #[.int .i64 1, .int .i64 n, .string s]] w fun e w' => e = .returned (.string ⟨(Lib.itoa n).toArray⟩) ∧ Kept [] w w' := by
  have HK0 := Lib.hid ((Kept.refl [] w).alloc (.cells #[.int .i64 1, .int .i64 n, .string s] 59))
  have HD : Hid (∀ W, Calls Tryd.prog 76 #[.int .i64 n] W fun e w' => e = .returned (.string ⟨(Lib.itoa n).toArray⟩) ∧ W = w') := fun W => rdigits n h0 h1 W
  clear h0 h1
  go_enter Tryd.func60, Tryd.ntmps60
  go_wp2_with fail
  refine (HD.out _).mono ?_
  rintro e w1 ⟨rfl, rfl⟩
  go_wp2_with fail
  go_ret
  exact ⟨rfl, HK0.out⟩
set_option maxRecDepth 100000 in
theorem rtext_other (k n : Int) (s : ByteArray) (h1 : k ≠ 1) (h2 : k ≠ 2) (w : World) :
    Calls Tryd.prog 60 #[.agg #[.int .i64 k, .int .i64 n, .string s]] w fun e w' => e = .returned (.string { data := #[63] }) ∧ Kept [] w w' := by
  have HK0 := Lib.hid ((Kept.refl [] w).alloc (.cells #[.int .i64 k, .int .i64 n, .string s] 59))
  have b1 : (k == 1) = false := by rw [beq_eq_false_iff_ne]; exact h1
  have b2 : (k == 2) = false := by rw [beq_eq_false_iff_ne]; exact h2
  clear h1 h2
  go_enter Tryd.func60, Tryd.ntmps60
  go_wp2_with fail
  go_ret
  exact ⟨rfl, HK0.out⟩
theorem rtext_any (k n : Int) (s : ByteArray) (hf : Fits (k, n, s)) (w : World) :
    Calls Tryd.prog 60 #[.agg #[.int .i64 k, .int .i64 n, .string s]] w fun e w' => e = .returned (.string (textV (k, n, s))) ∧ Kept [] w w' := by
  by_cases h1 : k = 1
  · subst h1
    exact rtext_int n s hf.1 hf.2.1 w
  · by_cases h2 : k = 2
    · subst h2
      exact rtext_str 2 n s rfl hf.2.2 w
    · have e : textV (k, n, s) = { data := #[63] } := by unfold textV; rw [if_neg h1, if_neg h2]
      rw [e]
      exact rtext_other k n s h1 h2 w

end Go.Proofs.YthgenobbpaclhaaDoor

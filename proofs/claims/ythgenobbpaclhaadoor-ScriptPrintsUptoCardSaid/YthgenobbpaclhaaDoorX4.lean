/- A text taken out of its quotes: the program's. -/
import Derived.Test.YthgenobbpaclhaaDoorRows
import Derived.WalkKit
import Derived.WalkSpells
import Derived.WalkLawsBesides
import Derived.Deep.QuietTactic
import Derived.BigQuiet
import Derived.Lib.Hide
import Derived.Lib.ConvBytes
import Derived.Deep.Slices
import Derived.ProofKit
import Derived.SizedLaws
import Derived.Test.YthgenobbpaclhaaDoorShelf
import Derived.Laws.BytesArg
import Derived.Laws.BitsLemmas
import Derived.Deep.RegionHeld3
import Derived.Deep.AppendLies
import Derived.Maps.AppendAt
import Derived.Test.YthgenobbpaclhaaDoorX3
set_option linter.unusedVariables false
set_option linter.unusedSimpArgs false
set_option linter.unnecessarySimpa false
namespace Go.Proofs.YthgenobbpaclhaaDoor
open Go.RowKit Go.Shelf
attribute [local go_sem] Oper.semAt_some

set_option maxRecDepth 100000 in
set_option maxHeartbeats 4000000 in
theorem inner_any (s : ByteArray) (hs : s.size ≤ 140737488351232) (w : World) (hv : ErrVar w) : Calls Tryd.prog 96 #[.string s] w (InnerPost w s) := by
  obtain ⟨i0, hi0, hz0, hz1, hz2⟩ := info_parts infoU8
  have HV := Lib.hid hv
  obtain ⟨n, hn⟩ : ∃ n, s.size = n := ⟨_, rfl⟩
  have IX := Lib.hid (fun k (h : k < n) w => index_at s k (by rw [hn]; exact h) w)
  have HN := Lib.hid hn
  have hl := len_at s hn
  rw [hn] at hs
  clear hn hv
  go_enter Tryd.func96, Tryd.ntmps96
  go_wp2_with fail
  go_loopw [3, 4] (fun o ii wr => ∃ (k : Nat) (L : List Int), ii = .int .i64 k ∧ k ≤ n + 1 ∧ L.length + 1 ≤ k ∧ Got s k L ∧ wr.ownsRow w.heap.size 5 1 o L.length (cB L) ∧ Kept [] w wr) (fun _ ii _ => n + 1 - (intOf ii).toNat)
  case atStart => exact ⟨1, [], rfl, by omega, by simp, Got.start s, World.ownsRow_nil _ _ _ _, Kept.refl _ _⟩
  case round =>
    obtain ⟨k, L, rfl, hk, hL, hgot, hown, hK⟩ := hrel
    have HGOT := Lib.hid hgot
    obtain ⟨AA, cc, rfl⟩ := own_len hown
    have HOWN := Lib.hid hown
    have HAT : Hid (∀ x, (Value.slice AA L.length cc).ownBlock = some x → w.heap.size ≤ x) := fun x hx => (hown.lt x hx).1
    have HK := Lib.hid hK
    have hsz := hK.size
    obtain ⟨ML, hML⟩ : ∃ ML, L.length = ML := ⟨_, rfl⟩
    rw [hML] at HOWN HAT hL
    rw [hML]
    have HML := Lib.hid hML
    clear hgot hown hK hML
    by_cases hlt : k + 1 < n
    · have hix := fun w => IX.out k (by omega) w
      have hlt2 : (k : Int) < (n : Int) - 1 := by omega
      have hcb := byt_bd s k
      obtain ⟨c, hc⟩ : ∃ c, byt s k = c := ⟨_, rfl⟩
      rw [hc] at hix hcb
      have HC := Lib.hid hc
      clear hc
      by_cases h92 : c = 92
      · subst h92
        have hix1 := fun w => IX.out (k + 1) (by omega) w
        have hcb1 := byt_bd s (k + 1)
        obtain ⟨d, hd⟩ : ∃ d, byt s (k + 1) = d := ⟨_, rfl⟩
        rw [hd] at hix1 hcb1
        have HD := Lib.hid hd
        clear hd
        have e1 : ((k + 1 : Nat) : Int) = (k : Int) + 1 := by omega
        rw [e1] at hix1
        clear e1
        by_cases h120 : d = 120
        · subst h120
          by_cases h3 : k + 3 < n
          · have t3 : decide ((k : Int) + 1 + 2 < (n : Int)) = true := decide_eq_true (by omega)
            have hsz3 : (k : Int) + 1 + 3 ≤ (s.size : Int) := by rw [HN.out]; omega
            have HE2 : Hid ((s.extract (k + 1 + 1) (k + 1 + 3)).size = 2) := by show _ = _; rw [size_extract s _ _ (by omega) (by rw [HN.out]; omega)]; omega
            have HB0 : Hid (byt (s.extract (k + 1 + 1) (k + 1 + 3)) 0 = byt s (k + 2)) := byt_extract s _ _ 0 (by omega) (by rw [HN.out]; omega)
            have HB1 : Hid (byt (s.extract (k + 1 + 1) (k + 1 + 3)) 1 = byt s (k + 3)) := byt_extract s _ _ 1 (by omega) (by rw [HN.out]; omega)
            have HXG := Lib.hid (fun v h => HGOT.out.hex HN.out h3 HC.out HD.out rfl rfl (v := v) h)
            have HXB := Lib.hid (fun h => HGOT.out.bad HN.out h3 HC.out HD.out rfl rfl h)
            go_wp2_with fail
            refine (parse16_any _ HE2.out _ (HV.out.keep HK.out)).mono ?_
            rintro e w2 ⟨v, hv0, hv1, hk2, he, hx⟩
            rw [HB0.out, HB1.out] at he hx
            have HK2 := Lib.hid (HK.out.trans hk2)
            have hsz2 := hk2.size
            have HOWN2 : Hid (w2.ownsRow w.heap.size 5 1 (.slice AA ML cc) ML (cB L)) := ownsRow_of_kept HOWN.out hk2 (by simp)
            have HG2 := Lib.hid (HXG.out v hx)
            clear hk2 hx
            rcases he with rfl | ⟨⟨p, rfl⟩, hb⟩
            · have hvm : IntKind.u8.wrap v = v := by unfold IntKind.wrap; simp [IntKind.signed, IntKind.bits]; omega
              go_wp2_with (at_builtin; refine wpList_append_own_at _ rfl _ _ 44 rfl w.heap.size 5 i0 (.int .u8 0) 1 1 Tryd.underlying44 hi0 hz0 hz1 hz2 rfl (by decide) _ ML (cB L) rfl (World.ownsRow.alloc HOWN2.out _) ⟨w2.heap.size, 0, none⟩ 1 1 [.int .u8 v] rfl rfl (cell_one_new _ _ _) (by simp [Value.oneCell']) (by unfold maxLen; omega) (by omega) (by simp; omega) ?_)
              intro v' w5 hown5 hgrow5 _ hat5
              have HK5 : Hid (Kept [] w w5) := (HK2.out.alloc _).grown hgrow5 (fun x hx => .inr (by have := HAT.out x hx; omega))
              have HOWN5 := Lib.hid hown5
              clear hown5 hgrow5 hat5
              go_wp2_with fail
              go_roundw
              case rel => exact ⟨k + 4, L ++ [v], by simp; omega, by omega, by rw [List.length_append, HML.out]; simp; omega, HG2.out, by rw [cB_app, List.length_append, HML.out]; exact HOWN5.out, HK5.out⟩
              case measure => simp [intOf]; omega
            · have HXB2 := Lib.hid (HXB.out hb)
              clear hb
              go_wp2_with fail
              go_ret
              exact ⟨{ data := #[] }, rfl, Nat.zero_le _, HK2.out, fun x hx => HXB2.out _ x hx⟩
          · have t3 : decide ((k : Int) + 1 + 2 < (n : Int)) = false := decide_eq_false (by omega)
            have HG2 := Lib.hid (HGOT.out.back HN.out hlt HC.out HD.out (.inr (by omega)))
            go_wp2_with (at_builtin; refine wpList_append_own_at _ rfl _ _ 44 rfl w.heap.size 5 i0 (.int .u8 0) 1 1 Tryd.underlying44 hi0 hz0 hz1 hz2 rfl (by decide) _ ML (cB L) rfl (World.ownsRow.alloc HOWN.out _) ⟨wr.heap.size, 0, none⟩ 1 1 [.int .u8 120] rfl rfl (cell_one_new _ _ _) (by simp [Value.oneCell']) (by unfold maxLen; omega) (by omega) (by simp; omega) ?_)
            intro v' w5 hown5 hgrow5 _ hat5
            have HK5 : Hid (Kept [] w w5) := (HK.out.alloc _).grown hgrow5 (fun x hx => .inr (by have := HAT.out x hx; omega))
            have HOWN5 := Lib.hid hown5
            clear hown5 hgrow5 hat5
            go_wp2_with fail
            go_roundw
            case rel => exact ⟨k + 2, L ++ [120], by simp; omega, by omega, by rw [List.length_append, HML.out]; simp; omega, HG2.out, by rw [cB_app, List.length_append, HML.out]; exact HOWN5.out, HK5.out⟩
            case measure => simp [intOf]; omega
        · have b120 : (d == 120) = false := by rw [beq_eq_false_iff_ne]; exact h120
          have HG2 := Lib.hid (HGOT.out.back HN.out hlt HC.out HD.out (.inl h120))
          clear h120
          go_wp2_with (at_builtin; refine wpList_append_own_at _ rfl _ _ 44 rfl w.heap.size 5 i0 (.int .u8 0) 1 1 Tryd.underlying44 hi0 hz0 hz1 hz2 rfl (by decide) _ ML (cB L) rfl (World.ownsRow.alloc HOWN.out _) ⟨wr.heap.size, 0, none⟩ 1 1 [.int .u8 d] rfl rfl (cell_one_new _ _ _) (by simp [Value.oneCell']) (by unfold maxLen; omega) (by omega) (by simp; omega) ?_)
          intro v' w5 hown5 hgrow5 _ hat5
          have HK5 : Hid (Kept [] w w5) := (HK.out.alloc _).grown hgrow5 (fun x hx => .inr (by have := HAT.out x hx; omega))
          have HOWN5 := Lib.hid hown5
          clear hown5 hgrow5 hat5
          go_wp2_with fail
          go_roundw
          case rel => exact ⟨k + 2, L ++ [d], by simp; omega, by omega, by rw [List.length_append, HML.out]; simp; omega, HG2.out, by rw [cB_app, List.length_append, HML.out]; exact HOWN5.out, HK5.out⟩
          case measure => simp [intOf]; omega
      · have b92 : (c == 92) = false := by rw [beq_eq_false_iff_ne]; exact h92
        have HG2 := Lib.hid (HGOT.out.plain HN.out hlt HC.out h92)
        clear h92
        go_wp2_with (at_builtin; refine wpList_append_own_at _ rfl _ _ 44 rfl w.heap.size 5 i0 (.int .u8 0) 1 1 Tryd.underlying44 hi0 hz0 hz1 hz2 rfl (by decide) _ ML (cB L) rfl (World.ownsRow.alloc HOWN.out _) ⟨wr.heap.size, 0, none⟩ 1 1 [.int .u8 c] rfl rfl (cell_one_new _ _ _) (by simp [Value.oneCell']) (by unfold maxLen; omega) (by omega) (by simp; omega) ?_)
        intro v' w5 hown5 hgrow5 _ hat5
        have HK5 : Hid (Kept [] w w5) := (HK.out.alloc _).grown hgrow5 (fun x hx => .inr (by have := HAT.out x hx; omega))
        have HOWN5 := Lib.hid hown5
        clear hown5 hgrow5 hat5
        go_wp2_with fail
        go_roundw
        case rel => exact ⟨k + 1, L ++ [c], by go_num, by omega, by rw [List.length_append, HML.out]; simp; omega, HG2.out, by rw [cB_app, List.length_append, HML.out]; exact HOWN5.out, HK5.out⟩
        case measure => simp [intOf]; omega
    · have hlt2 : ¬ (k : Int) < (n : Int) - 1 := by omega
      have HDN := Lib.hid (HGOT.out.done HN.out (by omega))
      have hcs := own_str (by rw [HML.out]; exact HOWN.out)
      go_wp2_with fail
      go_ret
      exact ⟨_, rfl, by rw [strOfNums_size, HML.out, HN.out]; omega, HK.out, HDN.out⟩

end Go.Proofs.YthgenobbpaclhaaDoor

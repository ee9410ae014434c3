/- A text taken out of its quotes: the document's. -/
import Derived.Test.YtmkpbffjgpoplaaDoorRows
import Derived.WalkKit
import Derived.WalkSpells
import Derived.WalkLawsBesides
import Derived.Deep.QuietTactic
import Derived.BigQuiet
import Derived.Lib.Hide
import Derived.Laws.Runes
import Derived.Laws.Concat
import Derived.Laws.Cover4
import Derived.Lib.ConvBytes
import Derived.Deep.Slices
import Derived.ProofKit
import Derived.SizedLaws
import Derived.Test.YtmkpbffjgpoplaaDoorShelf
import Derived.Laws.BytesArg
import Derived.Laws.BitsLemmas
import Derived.Deep.RegionHeld3
import Derived.Deep.AppendLies
import Derived.Maps.AppendAt
import Derived.Lib.ItoaLen
import Derived.Test.YtmkpbffjgpoplaaDoorD3
import Derived.Test.YtmkpbffjgpoplaaDoorKq
set_option linter.unusedVariables false
set_option linter.unusedSimpArgs false
set_option linter.unnecessarySimpa false
namespace Go.Proofs.YtmkpbffjgpoplaaDoor
open Go.RowKit Go.Shelf
attribute [local go_sem] Oper.semAt_some

def rhexV (c : Int) : Int := if 48 ≤ c ∧ c ≤ 57 then c - 48 else if 97 ≤ c ∧ c ≤ 102 then c - 87 else 16
theorem rhexV_bd (c : Int) : 0 ≤ rhexV c ∧ rhexV c ≤ 16 := by
  unfold rhexV
  split
  · omega
  · split <;> omega
theorem rhexV_hex {a : Int} (h0 : 0 ≤ a) (h1 : a < 16) : rhexV (hexI a) = a := by
  unfold rhexV hexI
  by_cases h : a < 10
  · rw [if_pos h, if_pos (by omega)]; omega
  · rw [if_neg h, if_neg (by omega), if_pos (by omega)]; omega
theorem Left.lone {S X : List Int} {k j n : Nat} (h : Left S X k j) (hn : S.length = n) (hk : k + 1 < n) (hc : S[k]? = some 92) :
    (k + 2 < n ∧ (S[k + 1]? = some 34 ∨ S[k + 1]? = some 92)) ∨ (k + 4 < n ∧ S[k + 1]? = some 120) := by
  obtain ⟨d, hd, he⟩ := h.next hn hk
  have e0 := drop_get he 0
  have e1 := drop_get he 1
  rw [Nat.add_zero, hc] at e0
  have hlen := congrArg List.length he
  rw [List.length_drop, hn] at hlen
  unfold escI at he e0 e1 hlen
  split at he
  · rename_i f1
    rw [if_pos f1] at e1 hlen
    simp at e1 hlen
    left
    refine ⟨by omega, ?_⟩
    rcases f1 with rfl | rfl
    · exact .inl e1
    · exact .inr e1
  · rename_i f1
    rw [if_neg f1] at e0 e1 hlen
    split at he
    · rename_i f2
      rw [if_pos f2] at e1 hlen
      simp at e1 hlen
      right
      exact ⟨by omega, e1⟩
    · rename_i f2
      rw [if_neg f2] at e0
      simp at e0
      omega
theorem Got.lone {s : ByteArray} {k n : Nat} {L : List Int} (h : Got s k L) (hn : s.size = n) (hk : k + 1 < n) (h92 : byt s k = 92) (ha : ¬ (k + 2 < n ∧ (byt s (k + 1) = 34 ∨ byt s (k + 1) = 92))) (hb : ¬ (k + 4 < n ∧ byt s (k + 1) = 120)) : ∀ L', Got s (k + 1) L' := by
  intro L' x hx
  obtain ⟨j, rfl, hl⟩ := h x hx
  have h1 : (bI s)[k + 1]? = some (byt s (k + 1)) := bI_get s (k + 1) (by omega)
  rcases hl.lone (by rw [bI_len]; exact hn) hk (by rw [bI_get s k (by omega), h92]) with ⟨a, b⟩ | ⟨a, b⟩
  · rw [h1] at b
    exact absurd ⟨a, by simpa using b⟩ ha
  · rw [h1] at b
    exact absurd ⟨a, by simpa using b⟩ hb

set_option maxRecDepth 100000 in
set_option maxHeartbeats 2000000 in
theorem rhex_any (c : Int) (w : World) : Calls Tryd.prog 62 #[.int .u8 c] w fun e w' => e = .returned (.int .u8 (rhexV c)) ∧ w = w' := by
  by_cases h1 : 48 ≤ c ∧ c ≤ 57
  · have hE : Hid (rhexV c = c - 48) := by show _ = _; unfold rhexV; rw [if_pos h1]
    have a1 := h1.1
    have a2 := h1.2
    have hw8 : IntKind.u8.wrap (c - 48) = c - 48 := by unfold IntKind.wrap; simp [IntKind.signed, IntKind.bits]; omega
    clear h1
    go_enter Tryd.func62, Tryd.ntmps62
    go_wp2_with fail
    go_ret
    exact ⟨by rw [hE.out] <;> rfl, rfl⟩
  · by_cases h2 : 97 ≤ c ∧ c ≤ 102
    · have hE : Hid (rhexV c = c - 87) := by show _ = _; unfold rhexV; rw [if_neg h1, if_pos h2]
      have a1 := h2.1
      have a2 := h2.2
      have a3 : decide (c ≤ 57) = false := decide_eq_false (by omega)
      have a4 : decide (48 ≤ c) = true := decide_eq_true (by omega)
      have hw8 : IntKind.u8.wrap (c - 97) = c - 97 := by unfold IntKind.wrap; simp [IntKind.signed, IntKind.bits]; omega
      have hw9 : IntKind.u8.wrap (c - 97 + 10) = c - 87 := by unfold IntKind.wrap; simp [IntKind.signed, IntKind.bits]; omega
      clear h1 h2
      go_enter Tryd.func62, Tryd.ntmps62
      go_wp2_with fail
      go_ret
      exact ⟨by rw [hE.out] <;> rfl, rfl⟩
    · have hE : Hid (rhexV c = 16) := by show _ = _; unfold rhexV; rw [if_neg h1, if_neg h2]
      rw [hE.out]
      have h3 : c < 48 ∨ (57 < c ∧ c < 97) ∨ 102 < c := by omega
      clear h1 h2 hE
      rcases h3 with h3 | ⟨h3, h4⟩ | h3
      · have b1 : decide (48 ≤ c) = false := decide_eq_false (by omega)
        have b2 : decide (97 ≤ c) = false := decide_eq_false (by omega)
        clear h3
        go_enter Tryd.func62, Tryd.ntmps62
        go_wp2_with fail
        go_ret
        exact ⟨rfl, rfl⟩
      · have b1 : decide (48 ≤ c) = true := decide_eq_true (by omega)
        have b2 : decide (c ≤ 57) = false := decide_eq_false (by omega)
        have b3 : decide (97 ≤ c) = false := decide_eq_false (by omega)
        clear h3 h4
        go_enter Tryd.func62, Tryd.ntmps62
        go_wp2_with fail
        go_ret
        exact ⟨rfl, rfl⟩
      · have b1 : decide (48 ≤ c) = true := decide_eq_true (by omega)
        have b2 : decide (c ≤ 57) = false := decide_eq_false (by omega)
        have b3 : decide (97 ≤ c) = true := decide_eq_true (by omega)
        have b4 : decide (c ≤ 102) = false := decide_eq_false (by omega)
        clear h3
        go_enter Tryd.func62, Tryd.ntmps62
        go_wp2_with fail
        go_ret
        exact ⟨rfl, rfl⟩

set_option maxRecDepth 100000 in
set_option maxHeartbeats 4000000 in
theorem quoted_any (s : ByteArray) (hs : s.size ≤ 140737488351232) (w : World) : Calls Tryd.prog 46 #[.string s] w (InnerPost w s) := by
  obtain ⟨i0, hi0, hz0, hz1, hz2⟩ := info_parts infoU8
  obtain ⟨n, hn⟩ : ∃ n, s.size = n := ⟨_, rfl⟩
  have IX := Lib.hid (fun k (h : k < n) w => index_at s k (by rw [hn]; exact h) w)
  have HN := Lib.hid hn
  have hl := len_at s hn
  obtain ⟨g, hgx⟩ : ∃ g, rhexV = g := ⟨_, rfl⟩
  have HGX := Lib.hid hgx
  have HX : Hid (∀ (z : Int) (W : World), Calls Tryd.prog 62 #[.int .u8 z] W fun e w' => e = .returned (.int .u8 (g z)) ∧ W = w') := fun z W => by rw [← HGX.out]; exact rhex_any z W
  rw [hn] at hs
  clear hn hgx
  go_enter Tryd.func46, Tryd.ntmps46
  go_wp2_with fail
  go_loopw [3, 4] (fun o ii wr => ∃ (k : Nat) (L : List Int), ii = .int .i64 k ∧ k ≤ n + 1 ∧ L.length + 1 ≤ k ∧ Got s k L ∧ wr.ownsRow w.heap.size 5 1 o L.length (cB L) ∧ Kept [] w wr) (fun _ ii _ => n + 1 - (intOf ii).toNat)
  case atStart => exact ⟨1, [], rfl, by omega, by simp, Got.start s, World.ownsRow_nil _ _ _ _, Kept.refl _ _⟩
  case round =>
    obtain ⟨k, L, rfl, hk, hL, hgot, hown, hK⟩ := hrel
    have HGOT := Lib.hid hgot
    obtain ⟨AA, cc, rfl⟩ := own_len hown
    have HOWN := Lib.hid hown
    have HAT : Hid (∀ x, (Value.slice AA L.length cc).ownBlock = some x → w.heap.size ≤ x) := fun x hx => (hown.lt x hx).1
    have HK := Lib.hid hK
    have hsz := hK.size
    obtain ⟨ML, hML⟩ : ∃ ML, L.length = ML := ⟨_, rfl⟩
    rw [hML] at HOWN HAT hL
    rw [hML]
    have HML := Lib.hid hML
    clear hgot hown hK hML
    by_cases hlt : k + 1 < n
    · have hix := fun w => IX.out k (by omega) w
      have hlt2 : (k : Int) < (n : Int) - 1 := by omega
      have hcb := byt_bd s k
      obtain ⟨c, hc⟩ : ∃ c, byt s k = c := ⟨_, rfl⟩
      rw [hc] at hix hcb
      have HC := Lib.hid hc
      clear hc
      by_cases h92 : c = 92
      · subst h92
        by_cases hk2 : k + 2 < n
        · have hix1 := fun w => IX.out (k + 1) (by omega) w
          have hcb1 := byt_bd s (k + 1)
          obtain ⟨d, hd⟩ : ∃ d, byt s (k + 1) = d := ⟨_, rfl⟩
          rw [hd] at hix1 hcb1
          have HD := Lib.hid hd
          clear hd
          have e1 : ((k + 1 : Nat) : Int) = (k : Int) + 1 := by omega
          rw [e1] at hix1
          clear e1
          have t2 : decide ((k : Int) + 1 < (n : Int) - 1) = true := decide_eq_true (by omega)
          by_cases h34 : d = 34
          · subst h34
            have HG2 := Lib.hid (HGOT.out.back HN.out hlt HC.out HD.out (.inl (by decide)))
            go_wp2_with (at_builtin; refine wpList_append_own_at _ rfl _ _ 59 rfl w.heap.size 5 i0 (.int .u8 0) 1 1 Tryd.underlying59 hi0 hz0 hz1 hz2 rfl (by decide) _ ML (cB L) rfl (World.ownsRow.alloc HOWN.out _) ⟨wr.heap.size, 0, none⟩ 1 1 [.int .u8 34] rfl rfl (cell_one_new _ _ _) (by simp [Value.oneCell']) (by unfold maxLen; omega) (by omega) (by simp; omega) ?_)
            intro v' w5 hown5 hgrow5 _ hat5
            have HK5 : Hid (Kept [] w w5) := (HK.out.alloc _).grown hgrow5 (fun x hx => .inr (by have := HAT.out x hx; omega))
            have HOWN5 := Lib.hid hown5
            clear hown5 hgrow5 hat5
            go_wp2_with fail
            go_roundw
            case rel => exact ⟨k + 2, L ++ [34], by first | (go_num; done) | (simp; omega), by omega, by rw [List.length_append, HML.out]; simp; omega, HG2.out, by rw [cB_app, List.length_append, HML.out]; exact HOWN5.out, HK5.out⟩
            case measure => simp [intOf]; omega
          · have b34 : (d == 34) = false := by rw [beq_eq_false_iff_ne]; exact h34
            by_cases hd92 : d = 92
            · subst hd92
              have HG2 := Lib.hid (HGOT.out.back HN.out hlt HC.out HD.out (.inl (by decide)))
              clear h34
              go_wp2_with (at_builtin; refine wpList_append_own_at _ rfl _ _ 59 rfl w.heap.size 5 i0 (.int .u8 0) 1 1 Tryd.underlying59 hi0 hz0 hz1 hz2 rfl (by decide) _ ML (cB L) rfl (World.ownsRow.alloc HOWN.out _) ⟨wr.heap.size, 0, none⟩ 1 1 [.int .u8 92] rfl rfl (cell_one_new _ _ _) (by simp [Value.oneCell']) (by unfold maxLen; omega) (by omega) (by simp; omega) ?_)
              intro v' w5 hown5 hgrow5 _ hat5
              have HK5 : Hid (Kept [] w w5) := (HK.out.alloc _).grown hgrow5 (fun x hx => .inr (by have := HAT.out x hx; omega))
              have HOWN5 := Lib.hid hown5
              clear hown5 hgrow5 hat5
              go_wp2_with fail
              go_roundw
              case rel => exact ⟨k + 2, L ++ [92], by first | (go_num; done) | (simp; omega), by omega, by rw [List.length_append, HML.out]; simp; omega, HG2.out, by rw [cB_app, List.length_append, HML.out]; exact HOWN5.out, HK5.out⟩
              case measure => simp [intOf]; omega
            · have b92 : (d == 92) = false := by rw [beq_eq_false_iff_ne]; exact hd92
              by_cases hk4 : k + 4 < n
              · have t4 : decide ((k : Int) + 3 < (n : Int) - 1) = true := decide_eq_true (by omega)
                by_cases h120 : d = 120
                · subst h120
                  have hix2 := fun w => IX.out (k + 2) (by omega) w
                  have hix3 := fun w => IX.out (k + 3) (by omega) w
                  have e2 : ((k + 2 : Nat) : Int) = (k : Int) + 2 := by omega
                  have e3 : ((k + 3 : Nat) : Int) = (k : Int) + 3 := by omega
                  rw [e2] at hix2
                  rw [e3] at hix3
                  clear e2 e3
                  obtain ⟨c1, hc1⟩ : ∃ c1, byt s (k + 2) = c1 := ⟨_, rfl⟩
                  obtain ⟨c2, hc2⟩ : ∃ c2, byt s (k + 3) = c2 := ⟨_, rfl⟩
                  rw [hc1] at hix2
                  rw [hc2] at hix3
                  obtain ⟨M, hM⟩ : ∃ M, IntKind.u8.wrap (16 * g c1) = M := ⟨_, rfl⟩
                  obtain ⟨V, hV⟩ : ∃ V, IntKind.u8.wrap (M + g c2) = V := ⟨_, rfl⟩
                  have HG2 : Hid (Got s (k + 4) (L ++ [V])) := by
                    refine HGOT.out.hex HN.out (by omega) HC.out HD.out hc1 hc2 ?_
                    intro a b a0 a1 b0 b1 ea eb
                    rw [← hV, ← hM, ← HGX.out, ea, eb, rhexV_hex a0 a1, rhexV_hex b0 b1]
                    unfold IntKind.wrap
                    simp [IntKind.signed, IntKind.bits]
                    omega
                  have hVb : 0 ≤ V ∧ V < 256 := by
                    rw [← hV]
                    unfold IntKind.wrap
                    simp [IntKind.signed, IntKind.bits]
                    omega
                  have hall : ∀ x : SW (Kept [] wr), Kept [] wr x.to := fun x => x.ok
                  clear hc1 hc2 h34 hd92
                  go_wp2_with fail
                  refine wp_region_sw (Kept [] wr) (stays_kept wr) (Kept.refl _ _) (by kernel_rfl) (by kernel_rfl) (fun hne => ?_)
                  repeat (go_big_quiet_step (first
                    | (go_at_call 62; exact SW.calls_same (HX.out _ _))))
                  refine wpQuiet_nil ?_
                  intro w7 hs7
                  have HK7 := Lib.hid (HK.out.trans hs7)
                  have hsz7 := hs7.size
                  have HOWN7 : Hid (w7.ownsRow w.heap.size 5 1 (.slice AA ML cc) ML (cB L)) := ownsRow_of_kept HOWN.out hs7 (by simp)
                  clear hs7 hall hM hV hix2 hix3
                  go_wp2_with (at_builtin; refine wpList_append_own_at _ rfl _ _ 59 rfl w.heap.size 5 i0 (.int .u8 0) 1 1 Tryd.underlying59 hi0 hz0 hz1 hz2 rfl (by decide) _ ML (cB L) rfl (World.ownsRow.alloc HOWN7.out _) ⟨w7.heap.size, 0, none⟩ 1 1 [.int .u8 V] rfl rfl (cell_one_new _ _ _) (by simp [Value.oneCell']) (by unfold maxLen; omega) (by omega) (by simp; omega) ?_)
                  intro v' w5 hown5 hgrow5 _ hat5
                  have HK5 : Hid (Kept [] w w5) := (HK7.out.alloc _).grown hgrow5 (fun x hx => .inr (by have := HAT.out x hx; omega))
                  have HOWN5 := Lib.hid hown5
                  clear hown5 hgrow5 hat5
                  go_wp2_with fail
                  go_roundw
                  case rel => exact ⟨k + 4, L ++ [V], by first | (go_num; done) | (simp; omega), by omega, by rw [List.length_append, HML.out]; simp; omega, HG2.out, by rw [cB_app, List.length_append, HML.out]; exact HOWN5.out, HK5.out⟩
                  case measure => simp [intOf]; omega
                · have b120 : (d == 120) = false := by rw [beq_eq_false_iff_ne]; exact h120
                  have HG2 := Lib.hid (HGOT.out.lone HN.out hlt HC.out (by rw [HD.out]; omega) (by rw [HD.out]; omega) (L ++ [92]))
                  clear h34 hd92 h120
                  go_wp2_with (at_builtin; refine wpList_append_own_at _ rfl _ _ 59 rfl w.heap.size 5 i0 (.int .u8 0) 1 1 Tryd.underlying59 hi0 hz0 hz1 hz2 rfl (by decide) _ ML (cB L) rfl (World.ownsRow.alloc HOWN.out _) ⟨wr.heap.size, 0, none⟩ 1 1 [.int .u8 92] rfl rfl (cell_one_new _ _ _) (by simp [Value.oneCell']) (by unfold maxLen; omega) (by omega) (by simp; omega) ?_)
                  intro v' w5 hown5 hgrow5 _ hat5
                  have HK5 : Hid (Kept [] w w5) := (HK.out.alloc _).grown hgrow5 (fun x hx => .inr (by have := HAT.out x hx; omega))
                  have HOWN5 := Lib.hid hown5
                  clear hown5 hgrow5 hat5
                  go_wp2_with fail
                  go_roundw
                  case rel => exact ⟨k + 1, L ++ [92], by first | (go_num; done) | (simp; omega), by omega, by rw [List.length_append, HML.out]; simp; omega, HG2.out, by rw [cB_app, List.length_append, HML.out]; exact HOWN5.out, HK5.out⟩
                  case measure => simp [intOf]; omega
              · have t4 : decide ((k : Int) + 3 < (n : Int) - 1) = false := decide_eq_false (by omega)
                have HG2 := Lib.hid (HGOT.out.lone HN.out hlt HC.out (by rw [HD.out]; omega) (by omega) (L ++ [92]))
                clear h34 hd92
                go_wp2_with (at_builtin; refine wpList_append_own_at _ rfl _ _ 59 rfl w.heap.size 5 i0 (.int .u8 0) 1 1 Tryd.underlying59 hi0 hz0 hz1 hz2 rfl (by decide) _ ML (cB L) rfl (World.ownsRow.alloc HOWN.out _) ⟨wr.heap.size, 0, none⟩ 1 1 [.int .u8 92] rfl rfl (cell_one_new _ _ _) (by simp [Value.oneCell']) (by unfold maxLen; omega) (by omega) (by simp; omega) ?_)
                intro v' w5 hown5 hgrow5 _ hat5
                have HK5 : Hid (Kept [] w w5) := (HK.out.alloc _).grown hgrow5 (fun x hx => .inr (by have := HAT.out x hx; omega))
                have HOWN5 := Lib.hid hown5
                clear hown5 hgrow5 hat5
                go_wp2_with fail
                go_roundw
                case rel => exact ⟨k + 1, L ++ [92], by first | (go_num; done) | (simp; omega), by omega, by rw [List.length_append, HML.out]; simp; omega, HG2.out, by rw [cB_app, List.length_append, HML.out]; exact HOWN5.out, HK5.out⟩
                case measure => simp [intOf]; omega
        · have t2 : decide ((k : Int) + 1 < (n : Int) - 1) = false := decide_eq_false (by omega)
          have t4 : decide ((k : Int) + 3 < (n : Int) - 1) = false := decide_eq_false (by omega)
          have HG2 := Lib.hid (HGOT.out.lone HN.out hlt HC.out (by omega) (by omega) (L ++ [92]))
          go_wp2_with (at_builtin; refine wpList_append_own_at _ rfl _ _ 59 rfl w.heap.size 5 i0 (.int .u8 0) 1 1 Tryd.underlying59 hi0 hz0 hz1 hz2 rfl (by decide) _ ML (cB L) rfl (World.ownsRow.alloc HOWN.out _) ⟨wr.heap.size, 0, none⟩ 1 1 [.int .u8 92] rfl rfl (cell_one_new _ _ _) (by simp [Value.oneCell']) (by unfold maxLen; omega) (by omega) (by simp; omega) ?_)
          intro v' w5 hown5 hgrow5 _ hat5
          have HK5 : Hid (Kept [] w w5) := (HK.out.alloc _).grown hgrow5 (fun x hx => .inr (by have := HAT.out x hx; omega))
          have HOWN5 := Lib.hid hown5
          clear hown5 hgrow5 hat5
          go_wp2_with fail
          go_roundw
          case rel => exact ⟨k + 1, L ++ [92], by first | (go_num; done) | (simp; omega), by omega, by rw [List.length_append, HML.out]; simp; omega, HG2.out, by rw [cB_app, List.length_append, HML.out]; exact HOWN5.out, HK5.out⟩
          case measure => simp [intOf]; omega
      · have b92 : (c == 92) = false := by rw [beq_eq_false_iff_ne]; exact h92
        have HG2 := Lib.hid (HGOT.out.plain HN.out hlt HC.out h92)
        clear h92
        go_wp2_with (at_builtin; refine wpList_append_own_at _ rfl _ _ 59 rfl w.heap.size 5 i0 (.int .u8 0) 1 1 Tryd.underlying59 hi0 hz0 hz1 hz2 rfl (by decide) _ ML (cB L) rfl (World.ownsRow.alloc HOWN.out _) ⟨wr.heap.size, 0, none⟩ 1 1 [.int .u8 c] rfl rfl (cell_one_new _ _ _) (by simp [Value.oneCell']) (by unfold maxLen; omega) (by omega) (by simp; omega) ?_)
        intro v' w5 hown5 hgrow5 _ hat5
        have HK5 : Hid (Kept [] w w5) := (HK.out.alloc _).grown hgrow5 (fun x hx => .inr (by have := HAT.out x hx; omega))
        have HOWN5 := Lib.hid hown5
        clear hown5 hgrow5 hat5
        go_wp2_with fail
        go_roundw
        case rel => exact ⟨k + 1, L ++ [c], by first | (go_num; done) | (simp; omega), by omega, by rw [List.length_append, HML.out]; simp; omega, HG2.out, by rw [cB_app, List.length_append, HML.out]; exact HOWN5.out, HK5.out⟩
        case measure => simp [intOf]; omega
    · have hlt2 : ¬ (k : Int) < (n : Int) - 1 := by omega
      have HDN := Lib.hid (HGOT.out.done HN.out (by omega))
      have hcs := own_str (by rw [HML.out]; exact HOWN.out)
      go_wp2_with fail
      go_ret
      exact ⟨_, rfl, by rw [strOfNums_size, HML.out, HN.out]; omega, HK.out, HDN.out⟩

end Go.Proofs.YtmkpbffjgpoplaaDoor

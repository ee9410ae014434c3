/- Wide, live. -/
import Derived.Test.YtikpnlmimhnmmaaT7
set_option linter.unusedVariables false
set_option linter.unusedSimpArgs false
namespace Go.Proofs.Ytikpnlmimhnmmaa
open Go.RowKit Tr

def wideRow (P : List Int) (a : Nat) : Int → List Nat → Int
  | m, [] => m
  | m, b :: bs => wideRow P a (max m (distG P a b)) bs
def wideAll (P : List Int) (n : Nat) : Int → List Nat → Int
  | m, [] => m
  | m, a :: rest => wideAll P n (wideRow P a m (List.range n)) rest
def wideG (P : List Int) : Int := wideAll P P.length 0 (List.range P.length)
theorem distG_bd {P : List Int} (h : Tree P) (a b : Int) : 0 ≤ distG P a b ∧ distG P a b ≤ 30 := by
  unfold distG
  have := path_le h a b
  omega
theorem range_drop {n k : Nat} (h : k < n) : (List.range n).drop k = k :: (List.range n).drop (k + 1) := by
  rw [List.drop_eq_getElem_cons (by simpa using h)]
  simp

set_option maxRecDepth 100000 in
set_option maxHeartbeats 4000000 in
theorem wide_any (b : Nat) (P : List Int) (w : World) (h : TreeAt w b P) (hT : Tree P) :
    Calls Try.prog 24 #[.pointer (some ⟨b, 0, none⟩)] w fun e w' => e = .returned (.int .i64 (wideG P)) ∧ Kept [] w w' := by
  have hn16 := h.1
  obtain ⟨R, hR⟩ : ∃ R, wideG P = R := ⟨_, rfl⟩
  rw [hR]
  unfold wideG at hR
  obtain ⟨n, hn⟩ : ∃ n, P.length = n := ⟨_, rfl⟩
  rw [hn] at hR hn16
  have HR := Lib.hid hR
  have HN := Lib.hid hn
  have HB := Lib.hid (distG_bd hT)
  clear hR hn
  go_enter Try.func24, Try.ntmps24
  go_wp2_with fail
  refine (len_some b P.length _ _ h).mono ?_
  rintro e w' ⟨rfl, rfl⟩
  rw [HN.out]
  go_wp2_with fail
  go_loopw [3, 8] (fun p i wr => ∃ (m : Int) (k : Nat), k ≤ n ∧ 0 ≤ m ∧ m ≤ 30 ∧ p = .int .i64 m ∧ i = .int .i64 k ∧ wideAll P n m ((List.range n).drop k) = R ∧ Kept [] w wr) (fun _ i _ => n - (intOf i).toNat)
  case atStart => exact ⟨0, 0, by omega, by omega, by omega, rfl, rfl, by rw [List.drop_zero]; exact HR.out, Kept.refl _ _⟩
  case round =>
    obtain ⟨m, k, hkn, hm0, hm30, rfl, rfl, hm, hK⟩ := hrel
    have HM := Lib.hid hm
    clear hm
    by_cases hlt : k < n
    · go_wp2_with fail
      refine (len_some b P.length _ _ (RawAt.keep h hK)).mono ?_
      rintro e w' ⟨rfl, rfl⟩
      rw [HN.out]
      go_wp2_with fail
      go_loopw [3, 13] (fun p i wr => ∃ (m' : Int) (j : Nat), j ≤ n ∧ 0 ≤ m' ∧ m' ≤ 30 ∧ p = .int .i64 m' ∧ i = .int .i64 j ∧ wideRow P k m' ((List.range n).drop j) = wideRow P k m (List.range n) ∧ Kept [] w wr) (fun _ i _ => n - (intOf i).toNat)
      case atStart => exact ⟨m, 0, by omega, by omega, by omega, rfl, rfl, by rw [List.drop_zero], hK⟩
      case round =>
        obtain ⟨m', j, hjn, hm0', hm30', rfl, rfl, hm', hK'⟩ := hrel
        have HM' := Lib.hid hm'
        clear hm'
        by_cases hlt' : j < n
        · go_wp2_with fail
          refine (dist_any b P k j _ (RawAt.keep h hK') hT).mono ?_
          rintro e w1 ⟨rfl, hk⟩
          have hbd := HB.out k j
          go_wp2_with fail
          go_roundw
          case rel =>
            refine ⟨max m' (distG P k j), j + 1, by omega, by omega, by omega, by go_num, by go_num, ?_, hK'.trans hk⟩
            rw [← HM'.out, range_drop hlt', wideRow]
          case measure => simp [intOf]; omega
        · go_wp2_with fail
          go_roundw
          case rel =>
            refine ⟨m', k + 1, by omega, by omega, by omega, rfl, by go_num, ?_, hK'⟩
            have := HM'.out
            rw [List.drop_eq_nil_of_le (by simp; omega), wideRow] at this
            rw [← HM.out, range_drop hlt, wideAll, this]
          case measure => simp [intOf]; omega
    · go_wp2_with fail
      go_ret
      refine ⟨ret_int ?_, hK⟩
      have := HM.out
      rw [List.drop_eq_nil_of_le (by simp; omega), wideAll] at this
      exact this

theorem rd_built (w : World) (l : List Int) (t : TypeId) (hm : l.length ≤ maxLen) : RdI (w.alloc (.cells (l.map (Value.int .i64)).toArray t)) .i64 (.slice (some ⟨w.heap.size, 0, none⟩) l.length l.length) l := by
  refine ⟨_, _, rfl, hm, fun _ => ⟨_, 0, rfl, fun i x hx => ?_⟩⟩
  rw [(Blk.new w _ t).cell]
  simp [hx]
theorem live_p : pathG [-1, 0, 0, 1] 3 2 = [3, 1, 0, 2] := by decide
theorem live_w : wideG [-1, 0, 0, 1] = 3 := by decide
theorem live_e : treeErr [-1, 0, 0, 1] = 0 := by decide
theorem live_f : treeErr [1, 0] = 170 := by decide
theorem Kept.built {w : World} (o : Obj) : Kept [] w (w.alloc o) := (Kept.refl [] w).alloc o

set_option maxRecDepth 100000 in
set_option maxHeartbeats 4000000 in
theorem live_any (w : World) : Calls Try.prog 9 #[] w fun e w' => e = .returned (.bool true) ∧ Kept [] w w' := by
  have HT := Lib.hid (tree_of live_e)
  go_enter Try.func9, Try.ntmps9
  go_wp2_with fail
  refine (new_any _ [-1, 0, 0, 1] _ (rd_built w [-1, 0, 0, 1] 3 (by unfold maxLen; simp))).mono ?_
  rintro e w1 ⟨hk1, ⟨hne, -⟩ | ⟨-, rfl, hT1⟩⟩
  · exact absurd live_e hne
  have hK1 := (Kept.built (w := w) _).trans hk1
  clear hk1
  obtain ⟨t, ht⟩ : ∃ t, (w.alloc (.cells #[.int .i64 (-1), .int .i64 0, .int .i64 0, .int .i64 1] 3)).heap.size = t := ⟨_, rfl⟩
  rw [show (w.alloc (.cells ([-1, 0, 0, 1].map (Value.int .i64)).toArray 3)).heap.size = t from ht] at hT1 ⊢
  clear ht
  go_wp2_with fail
  refine (new_any _ [1, 0] _ (rd_built w1 [1, 0] 3 (by unfold maxLen; simp))).mono ?_
  rintro e w2 ⟨hk2, ⟨-, rfl⟩ | ⟨he, -⟩⟩
  rotate_left
  · rw [live_f] at he; exact absurd he (by decide)
  have hK2 := (hK1.trans (Kept.built (w := w1) _)).trans hk2
  have hT2 := RawAt.keep hT1 ((Kept.built (w := w1) _).trans hk2)
  rw [live_f]
  go_wp2_with fail
  refine (path_any t [-1, 0, 0, 1] 3 2 _ hT2 HT.out).mono ?_
  rintro e w3 ⟨v, rfl, hown, hK3⟩
  rw [live_p] at hown
  have hT3 := RawAt.keep hT2 hK3
  have hK3' := hK2.trans hK3
  go_wp2_with fail
  refine (equal_any .i64 _ _ [3, 1, 0, 2] [3, 1, 0, 2] _ (RdI.keep (RdI.of_own hown).1 (Kept.built _)) (rd_built w3 [3, 1, 0, 2] 3 (by unfold maxLen; simp))).mono ?_
  rintro e w4 ⟨rfl, q, rfl⟩
  rw [dec_self]
  go_wp2_with fail
  refine (wide_any t [-1, 0, 0, 1] _ ((RawAt.keep hT3 (Kept.built _)).drewN q) HT.out).mono ?_
  rintro e w5 ⟨rfl, hK5⟩
  rw [live_w]
  go_wp2_with fail
  go_ret
  exact ⟨rfl, ((hK3'.trans (Kept.built _)).drewN q).trans hK5⟩

end Go.Proofs.Ytikpnlmimhnmmaa

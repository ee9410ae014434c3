/- The reference's Below. -/
import Derived.Test.YtikpnlmimhnmmaaT30
set_option linter.unusedVariables false
set_option linter.unusedSimpArgs false
set_option linter.unnecessarySimpa false
namespace Go.Proofs.Ytikpnlmimhnmmaa
open Go.RowKit Tr

theorem contains_out {P : List Int} (h : Tree P) {i : Int} {k : Nat} (hk : k < P.length) (hi : inBb P.length i = false) : (rise P k).contains i = false := by
  cases hc : (rise P k).contains i with
  | false => rfl
  | true =>
    exfalso
    have hm : i ∈ rise P k := by simpa using hc
    obtain ⟨j, hj⟩ := List.mem_iff_getElem?.1 hm
    have := (rise_drop h j k i (by unfold inB; omega) hj).1
    rw [(inBb_iff _ _).2 this] at hi
    cases hi
theorem belowB_eq {P : List Int} (h : Tree P) (i : Int) {k : Nat} (hk : k < P.length) : belowB P i k = (rise P k).contains i := by
  unfold belowB
  cases hin : inBb P.length i with
  | true => rfl
  | false => rw [contains_out h hk hin]; rfl

set_option maxRecDepth 100000 in
set_option maxHeartbeats 4000000 in
theorem rbelow_any (r : Nat) (v : Value) (P : List Int) (i : Int) (w : World) (h : RT w r v P) (hT : Tree P) : Calls Try.prog 38 #[.pointer (some ⟨r, 0, none⟩), .int .i64 i] w (RisePost w (sel (belowB P i) P.length)) := by
  obtain ⟨i0, hi0, hz0, hz1, hz2⟩ := info_parts infoInt
  have h16 := hT.le
  have HT := Lib.hid hT
  have HRT := Lib.hid h
  have hc0 := h.1
  obtain ⟨A, c, rfl, _, _⟩ := h.2
  have HUP := Lib.hid (fun (k : Nat) (w' : World) (hx : RdI w' .i64 (.slice A P.length c) P) (hk : k < P.length) => up_tree _ P k w' hx hT (by unfold inB; omega))
  have HBB := Lib.hid (fun (k : Nat) (hk : k < P.length) => belowB_eq hT i hk)
  have HRL := Lib.hid (fun (k : Nat) (hk : k < P.length) => Nat.le_trans (Nat.le_of_eq (rise_len hT (show inB P.length k by unfold inB; omega))) (depth_lt hT (show inB P.length k by unfold inB; omega)))
  obtain ⟨n, hn⟩ : ∃ n, P.length = n := ⟨_, rfl⟩
  rw [hn] at h16 hc0 HUP HBB HRL HRT ⊢
  have HN := Lib.hid hn
  clear hn h hT
  go_enter Try.func38, Try.ntmps38
  go_wp2_with fail
  go_loopw [5, 6] (fun o kk wr => ∃ (k : Nat), k ≤ n ∧ kk = .int .i64 k ∧ wr.ownsRow w.heap.size 3 1 o (sel (belowB P i) k).length ((sel (belowB P i) k).map (.int .i64)) ∧ Kept [] w wr) (fun _ kk _ => n - (intOf kk).toNat)
  case atStart => exact ⟨0, by omega, rfl, World.ownsRow_nil _ _ _ _, Kept.refl _ _⟩
  case round =>
    obtain ⟨k, hk, rfl, hown, hK⟩ := hrel
    have hc1 := hK.cell (by simp) hc0
    have hRT1 := RT.keep HRT.out hK
    obtain ⟨AA, cc, rfl, -⟩ := own_len hown
    have hsl := sel_le (belowB P i) k
    have hgb : ∀ x, (Value.slice AA (sel (belowB P i) k).length cc).ownBlock = some x → w.heap.size ≤ x := fun x hx => (hown.lt x hx).1
    have HGB := Lib.hid hgb
    have HHIT := Lib.hid (sel_hit (belowB P i) k)
    have HMISS := Lib.hid (sel_miss (belowB P i) k)
    obtain ⟨L, hL⟩ : ∃ L, sel (belowB P i) k = L := ⟨_, rfl⟩
    rw [hL] at hown HGB hsl HHIT HMISS ⊢
    have HLL := Lib.hid hL
    have HOWN := Lib.hid hown
    clear hgb hL hown
    by_cases hlt : k < n
    · have HB1 := Lib.hid (HBB.out k hlt)
      have UP := HUP.out k wr (by have := hRT1.2; exact this) hlt
      obtain ⟨R, hR⟩ : ∃ R, rise P k = R := ⟨_, rfl⟩
      have hrl := HRL.out k hlt
      rw [hR] at UP hrl
      rw [show (rise P (k : Int)) = R from hR] at HB1
      have HU := Lib.hid UP
      clear UP hR
      go_wp2_with fail
      refine HU.out.mono ?_
      rintro e w3 ⟨hk3, v3, rfl, ho3⟩
      have hrd3 := (RdI.of_own ho3).1
      have HO3 := Lib.hid (ownsRow_keep HOWN.out hk3 (by simp))
      have hK3 := hK.trans hk3
      have hsz3 := hK3.size
      clear ho3
      go_wp2_with fail
      refine (has_any _ R i _ hrd3).mono ?_
      rintro e w' ⟨rfl, rfl⟩
      cases hb : R.contains i with
      | true =>
        have HB2 := Lib.hid hb
        go_wp2_with (at_builtin; refine wpList_append_own _ rfl _ _ 22 rfl w.heap.size 3 i0 (.int .i64 0) 1 8 Try.underlying22 hi0 hz0 hz1 hz2 rfl (by decide) _ L.length (L.map (.int .i64)) rfl (World.ownsRow.alloc HO3.out _) ⟨w3.heap.size, 0, none⟩ 1 1 [.int .i64 k] rfl rfl (cell_one_new _ _ _) (by simp [Value.oneCell']) (by unfold maxLen; omega) (by omega) (by simp; omega) ?_)
        intro v' w4 hown4 hgrow4 _
        have hK4 : Kept [] w w4 := (hK3.alloc _).grown hgrow4 (fun x hx => .inr (HGB.out x hx))
        have HOWN4 := Lib.hid hown4
        clear hown4 hgrow4
        go_wp2_with fail
        go_roundw
        case rel => exact ⟨k + 1, by omega, by go_num, by rw [HHIT.out (by rw [HB1.out, HB2.out])]; simpa using HOWN4.out, hK4⟩
        case measure => simp [intOf]; omega
      | false =>
        have HB2 := Lib.hid hb
        go_wp2_with fail
        go_roundw
        case rel => exact ⟨k + 1, by omega, by go_num, by rw [HMISS.out (by rw [HB1.out, HB2.out])]; exact HO3.out, hK3⟩
        case measure => simp [intOf]; omega
    · have e : k = n := by omega
      subst e
      go_wp2_with fail
      go_ret
      refine ⟨_, rfl, ?_, hK⟩
      rw [HLL.out]
      exact HOWN.out

end Go.Proofs.Ytikpnlmimhnmmaa

/- The reference's Near. -/
import Derived.Test.YtikpnlmimhnmmaaT28
set_option linter.unusedVariables false
set_option linter.unusedSimpArgs false
set_option linter.unnecessarySimpa false
namespace Go.Proofs.Ytikpnlmimhnmmaa
open Go.RowKit Tr

theorem sel_false (p : Nat → Bool) (hp : ∀ k, p k = false) : ∀ n, sel p n = []
  | 0 => rfl
  | n + 1 => by rw [sel_miss p n (hp n), sel_false p hp n]

set_option maxRecDepth 100000 in
set_option maxHeartbeats 4000000 in
theorem rnear_any (r : Nat) (v : Value) (P : List Int) (i : Int) (w : World) (h : RT w r v P) (h16 : P.length ≤ 16) : Calls Try.prog 36 #[.pointer (some ⟨r, 0, none⟩), .int .i64 i] w (RisePost w (sel (nearB P i) P.length)) := by
  obtain ⟨i0, hi0, hz0, hz1, hz2⟩ := info_parts infoInt
  have HRT := Lib.hid h
  have hc0 := h.1
  obtain ⟨A, c, rfl, _, _⟩ := h.2
  have HIS := Lib.hid (fun w' (h' : RT w' r (.slice A P.length c) P) => is_ref r _ P i w' h')
  obtain ⟨n, hn⟩ : ∃ n, P.length = n := ⟨_, rfl⟩
  rw [hn] at h16 hc0 ⊢
  have HN := Lib.hid hn
  rw [hn] at HIS HRT
  clear hn h
  cases hin : inBb n i with
  | true =>
    rw [hin] at HIS
    have hib := (inBb_iff _ _).1 hin
    obtain ⟨j, rfl⟩ : ∃ j : Nat, i = j := ⟨i.toNat, by unfold inB at hib; omega⟩
    have hj : j < n := by unfold inB at hib; omega
    have HIN := Lib.hid hin
    clear hin hib
    go_enter Try.func36, Try.ntmps36
    go_wp2_with fail
    go_loopw [5, 6] (fun o kk wr => ∃ (k : Nat), k ≤ n ∧ kk = .int .i64 k ∧ wr.ownsRow w.heap.size 3 1 o (sel (nearB P j) k).length ((sel (nearB P j) k).map (.int .i64)) ∧ Kept [] w wr) (fun _ kk _ => n - (intOf kk).toNat)
    case atStart => exact ⟨0, by omega, rfl, World.ownsRow_nil _ _ _ _, Kept.refl _ _⟩
    case round =>
      obtain ⟨k, hk, rfl, hown, hK⟩ := hrel
      have hc1 := hK.cell (by simp) hc0
      have hRT1 := RT.keep HRT.out hK
      obtain ⟨AA, cc, rfl, -⟩ := own_len hown
      have hsl := sel_le (nearB P j) k
      have hgb : ∀ x, (Value.slice AA (sel (nearB P j) k).length cc).ownBlock = some x → w.heap.size ≤ x := fun x hx => (hown.lt x hx).1
      have HGB := Lib.hid hgb
      have HOWN := Lib.hid hown
      have HHIT := Lib.hid (sel_hit (nearB P j) k)
      have HMISS := Lib.hid (sel_miss (nearB P j) k)
      clear hgb hown
      by_cases hlt : k < n
      · have hrd := hRT1.2
        obtain ⟨b, off, c', he, hck⟩ := RdI.at (by rw [← HN.out] at hrd; exact hrd) k (by rw [HN.out]; exact hlt)
        obtain ⟨b2, off2, c2, he', hcj⟩ := RdI.at (by rw [← HN.out] at hrd; exact hrd) j (by rw [HN.out]; exact hj)
        rw [he] at he'
        injection he' with q1 q2 q3
        injection q1 with q1
        injection q1 with q4 q5
        subst q4 q5
        injection he with he1 he2 he3
        subst he1 he3
        have hnb : nearB P j k = (par P k == (j : Int) || par P j == (k : Int)) := by unfold nearB; rw [HN.out, HIN.out]; rfl
        obtain ⟨x, hx⟩ : ∃ x, par P k = x := ⟨_, rfl⟩
        obtain ⟨y, hy⟩ : ∃ y, par P j = y := ⟨_, rfl⟩
        rw [hx, hy] at hnb
        rw [hx] at hck
        rw [hy] at hcj
        have HNB := Lib.hid hnb
        obtain ⟨L, hL⟩ : ∃ L, sel (nearB P j) k = L := ⟨_, rfl⟩
        rw [hL] at HOWN HGB hsl HHIT HMISS ⊢
        have HLL := Lib.hid hL
        clear hL hnb hx hy he2 q2 q3 hrd
        cases hb1 : (x == (j : Int)) with
        | true =>
          have HB1 := Lib.hid hb1
          go_wp2_with (first | (go_at_call 53; refine (HIS.out _ hRT1).mono ?_; rintro e w' ⟨rfl, rfl⟩) | (at_builtin; refine wpList_append_own _ rfl _ _ 22 rfl w.heap.size 3 i0 (.int .i64 0) 1 8 Try.underlying22 hi0 hz0 hz1 hz2 rfl (by decide) _ L.length (L.map (.int .i64)) rfl (World.ownsRow.alloc HOWN.out _) ⟨wr.heap.size, 0, none⟩ 1 1 [.int .i64 k] rfl rfl (cell_one_new _ _ _) (by simp [Value.oneCell']) (by unfold maxLen; omega) (by omega) (by have := hK.size; simp; omega) ?_))
          intro v' w4 hown4 hgrow4 _
          have hK4 : Kept [] w w4 := (hK.alloc _).grown hgrow4 (fun x hx => .inr (HGB.out x hx))
          have HOWN4 := Lib.hid hown4
          clear hown4 hgrow4
          go_wp2_with fail
          go_roundw
          case rel => exact ⟨k + 1, by omega, by go_num, by rw [HHIT.out (by rw [HNB.out, HB1.out]; rfl)]; simpa using HOWN4.out, hK4⟩
          case measure => simp [intOf]; omega
        | false =>
          have HB1 := Lib.hid hb1
          cases hb2 : (y == (k : Int)) with
          | true =>
            have HB2 := Lib.hid hb2
            go_wp2_with (first | (go_at_call 53; refine (HIS.out _ hRT1).mono ?_; rintro e w' ⟨rfl, rfl⟩) | (at_builtin; refine wpList_append_own _ rfl _ _ 22 rfl w.heap.size 3 i0 (.int .i64 0) 1 8 Try.underlying22 hi0 hz0 hz1 hz2 rfl (by decide) _ L.length (L.map (.int .i64)) rfl (World.ownsRow.alloc HOWN.out _) ⟨wr.heap.size, 0, none⟩ 1 1 [.int .i64 k] rfl rfl (cell_one_new _ _ _) (by simp [Value.oneCell']) (by unfold maxLen; omega) (by omega) (by have := hK.size; simp; omega) ?_))
            intro v' w4 hown4 hgrow4 _
            have hK4 : Kept [] w w4 := (hK.alloc _).grown hgrow4 (fun x hx => .inr (HGB.out x hx))
            have HOWN4 := Lib.hid hown4
            clear hown4 hgrow4
            go_wp2_with fail
            go_roundw
            case rel => exact ⟨k + 1, by omega, by go_num, by rw [HHIT.out (by rw [HNB.out, HB1.out, HB2.out]; rfl)]; simpa using HOWN4.out, hK4⟩
            case measure => simp [intOf]; omega
          | false =>
            have HB2 := Lib.hid hb2
            go_wp2_with (go_at_call 53; refine (HIS.out _ hRT1).mono ?_; rintro e w' ⟨rfl, rfl⟩)
            go_roundw
            case rel => exact ⟨k + 1, by omega, by go_num, by rw [HMISS.out (by rw [HNB.out, HB1.out, HB2.out]; rfl)]; exact HOWN.out, hK⟩
            case measure => simp [intOf]; omega
      · have e : k = n := by omega
        subst e
        go_wp2_with fail
        go_ret
        exact ⟨_, rfl, HOWN.out, hK⟩
  | false =>
    rw [hin] at HIS
    have e : sel (nearB P i) n = [] := sel_false _ (fun k => by unfold nearB; rw [HN.out, hin]; rfl) n
    rw [e]
    clear e hin
    go_enter Try.func36, Try.ntmps36
    go_wp2_with fail
    go_loopw [5, 6] (fun o kk wr => o = .slice none 0 0 ∧ kk = .int .i64 0 ∧ w = wr) (fun _ _ _ => 0)
    case atStart => exact ⟨rfl, rfl, rfl⟩
    case round =>
      obtain ⟨rfl, rfl, rfl⟩ := hrel
      by_cases hn0 : 0 < n
      · go_wp2_with (go_at_call 53; refine (HIS.out _ HRT.out).mono ?_; rintro e w' ⟨rfl, rfl⟩)
        go_ret
        exact ⟨_, rfl, World.ownsRow_nil _ _ _ _, Kept.refl _ _⟩
      · go_wp2_with fail
        go_ret
        exact ⟨_, rfl, World.ownsRow_nil _ _ _ _, Kept.refl _ _⟩

end Go.Proofs.Ytikpnlmimhnmmaa

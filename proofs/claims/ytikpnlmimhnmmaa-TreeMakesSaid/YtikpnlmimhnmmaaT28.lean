/- The reference's Kids. -/
import Derived.Test.YtikpnlmimhnmmaaT27
set_option linter.unusedVariables false
set_option linter.unusedSimpArgs false
set_option linter.unnecessarySimpa false
namespace Go.Proofs.Ytikpnlmimhnmmaa
open Go.RowKit Tr

def refKids (P : List Int) (i : Int) : List Int := if 0 ≤ i then sel (fun k => par P k == i) P.length else []
set_option maxRecDepth 100000 in
set_option maxHeartbeats 4000000 in
theorem rkids_any (r : Nat) (v : Value) (P : List Int) (i : Int) (w : World) (h : RT w r v P) (h16 : P.length ≤ 16) : Calls Try.prog 35 #[.pointer (some ⟨r, 0, none⟩), .int .i64 i] w (RisePost w (refKids P i)) := by
  obtain ⟨i0, hi0, hz0, hz1, hz2⟩ := info_parts infoInt
  have HRT := Lib.hid h
  have hc0 := h.1
  obtain ⟨A, c, rfl, _, _⟩ := h.2
  obtain ⟨R, hR⟩ : ∃ R, refKids P i = R := ⟨_, rfl⟩
  rw [hR]
  unfold refKids at hR
  obtain ⟨n, hn⟩ : ∃ n, P.length = n := ⟨_, rfl⟩
  rw [hn] at hR h16 hc0
  have HN := Lib.hid hn
  have HR := Lib.hid hR
  clear hn hR h
  by_cases hi : 0 ≤ i
  · go_enter Try.func35, Try.ntmps35
    go_wp2_with fail
    go_loopw [5, 6] (fun o kk wr => ∃ (k : Nat), k ≤ n ∧ kk = .int .i64 k ∧ wr.ownsRow w.heap.size 3 1 o (sel (fun k => par P k == i) k).length ((sel (fun k => par P k == i) k).map (.int .i64)) ∧ Kept [] w wr) (fun _ kk _ => n - (intOf kk).toNat)
    case atStart => exact ⟨0, by omega, rfl, World.ownsRow_nil _ _ _ _, Kept.refl _ _⟩
    case round =>
      obtain ⟨k, hk, rfl, hown, hK⟩ := hrel
      have hc1 := hK.cell (by simp) hc0
      obtain ⟨AA, cc, rfl, -⟩ := own_len hown
      have hsl := sel_le (fun k => par P k == i) k
      have hgb : ∀ x, (Value.slice AA (sel (fun k => par P k == i) k).length cc).ownBlock = some x → w.heap.size ≤ x := fun x hx => (hown.lt x hx).1
      have HGB := Lib.hid hgb
      have HOWN := Lib.hid hown
      clear hgb hown
      by_cases hlt : k < n
      · obtain ⟨b, off, c', he, hck⟩ := RdI.at (RT.keep HRT.out hK).2 k (by rw [HN.out]; exact hlt)
        injection he with he1 he2 he3
        subst he1 he3
        clear he2
        cases hb : (par P k == i) with
        | true =>
          have hh := sel_hit (fun k => par P k == i) k hb
          have HH := Lib.hid hh
          obtain ⟨q, hq⟩ : ∃ q, par P k = q := ⟨_, rfl⟩
          rw [hq] at hck hb
          clear hh hq
          obtain ⟨L, hL⟩ : ∃ L, sel (fun k => par P k == i) k = L := ⟨_, rfl⟩
          rw [hL] at HOWN HGB hsl HH ⊢
          have HLL := Lib.hid hL
          clear hL
          go_wp2_with (at_builtin; refine wpList_append_own _ rfl _ _ 22 rfl w.heap.size 3 i0 (.int .i64 0) 1 8 Try.underlying22 hi0 hz0 hz1 hz2 rfl (by decide) _ L.length (L.map (.int .i64)) rfl (World.ownsRow.alloc HOWN.out _) ⟨wr.heap.size, 0, none⟩ 1 1 [.int .i64 k] rfl rfl (cell_one_new _ _ _) (by simp [Value.oneCell']) (by unfold maxLen; omega) (by omega) (by have := hK.size; simp; omega) ?_)
          intro v' w4 hown4 hgrow4 _
          have hK4 : Kept [] w w4 := (hK.alloc _).grown hgrow4 (fun x hx => .inr (HGB.out x hx))
          have HOWN4 := Lib.hid hown4
          clear hown4 hgrow4
          go_wp2_with fail
          go_roundw
          case rel => exact ⟨k + 1, by omega, by go_num, by rw [HH.out]; simpa using HOWN4.out, hK4⟩
          case measure => simp [intOf]; omega
        | false =>
          have hh := sel_miss (fun k => par P k == i) k hb
          have HH := Lib.hid hh
          obtain ⟨q, hq⟩ : ∃ q, par P k = q := ⟨_, rfl⟩
          rw [hq] at hck hb
          clear hh hq
          go_wp2_with fail
          go_roundw
          case rel => exact ⟨k + 1, by omega, by go_num, by rw [HH.out]; exact HOWN.out, hK⟩
          case measure => simp [intOf]; omega
      · go_wp2_with fail
        go_ret
        have e : k = n := by omega
        refine ⟨_, rfl, ?_, hK⟩
        have := HOWN.out
        rw [← HR.out, if_pos hi, ← e]
        exact this
  · go_enter Try.func35, Try.ntmps35
    go_wp2_with fail
    go_loopw [5, 6] (fun o kk wr => o = .slice none 0 0 ∧ kk = .int .i64 0 ∧ w = wr) (fun _ _ _ => 0)
    case atStart => exact ⟨rfl, rfl, rfl⟩
    case round =>
      obtain ⟨rfl, rfl, rfl⟩ := hrel
      by_cases hn0 : 0 < n
      · go_wp2_with fail
        go_ret
        refine ⟨_, rfl, ?_, Kept.refl _ _⟩
        rw [← HR.out, if_neg (by omega)]
        exact World.ownsRow_nil _ _ _ _
      · go_wp2_with fail
        go_ret
        refine ⟨_, rfl, ?_, Kept.refl _ _⟩
        rw [← HR.out, if_neg (by omega)]
        exact World.ownsRow_nil _ _ _ _

end Go.Proofs.Ytikpnlmimhnmmaa

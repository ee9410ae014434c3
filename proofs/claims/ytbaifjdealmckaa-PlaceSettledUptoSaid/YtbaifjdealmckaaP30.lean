/- Plans and rates that may be: the document's Check. -/
import Derived.Test.YtbaifjdealmckaaP29
import Derived.Test.YtbaifjdealmckaaP11
set_option linter.unusedVariables false
set_option linter.unusedSimpArgs false
set_option linter.unnecessarySimpa false
namespace Go.Proofs.Ytbaifjdealmckaa
open Go.RowKit Go.Shelf
attribute [local go_sem] Oper.semAt_some

set_option maxRecDepth 100000 in
set_option maxHeartbeats 4000000 in
theorem rplan_any (ov fv : Value) (x : PlanD) (w : World) (ho : Rds opR w ov x.1) (hf : Rds intsR w fv x.2) (hF : fromLen x.2 ≤ 1048576) :
    Calls Try.prog 29 #[.agg #[ov, fv]] w fun e w' => e = .returned (.int .i64 (errPlan (planV x))) ∧ Kept [] w w' := by
  have HOP := Lib.hid (fun (k : Nat) (W : World) (hk : Kept [] w W) (h1 : k < x.1.length) (h2 : x.2.length = x.1.length) => rop_any ov fv x k W (ho.keep hk) (hf.keep hk) hF h1 h2)
  obtain ⟨A, c, rfl, hmA⟩ := ho.form
  obtain ⟨B, d, rfl, hmB⟩ := hf.form
  obtain ⟨n, hn⟩ : ∃ n, x.1.length = n := ⟨_, rfl⟩
  obtain ⟨m, hm⟩ : ∃ m, x.2.length = m := ⟨_, rfl⟩
  obtain ⟨G, hG⟩ : ∃ G, planV x = G := ⟨_, rfl⟩
  have HG : Hid (G = (decide (2 ≤ n) && (decide (n ≤ 32) && (decide (m = n) && planGo x n 0)))) := by show _ = _; rw [← hG, ← hn, ← hm]; rfl
  rw [hG]
  rw [hn] at hmA HOP ⊢
  rw [hm] at hmB HOP ⊢
  have HN := Lib.hid hn
  have HM := Lib.hid hm
  clear hn hm ho hf hG hF
  have HK0 := Lib.hid ((Kept.refl [] w).alloc (.cells #[.slice A n c, .slice B m d] 26))
  by_cases h2 : n < 2
  · have hE : Hid (G = false) := by show _ = _; rw [HG.out]; simp; intro h; omega
    rw [hE.out]
    clear HG hE
    go_enter Try.func29, Try.ntmps29
    go_wp2_with fail
    go_ret
    exact ⟨rfl, HK0.out⟩
  · by_cases h32 : 32 < n
    · have hE : Hid (G = false) := by show _ = _; rw [HG.out]; simp; intro h h'; omega
      rw [hE.out]
      clear HG hE
      go_enter Try.func29, Try.ntmps29
      go_wp2_with fail
      go_ret
      exact ⟨rfl, HK0.out⟩
    · by_cases hmn : m = n
      · subst hmn
        have HGG : Hid (G = planGo x m 0) := by show _ = _; rw [HG.out]; simp [show 2 ≤ m by omega, show m ≤ 32 by omega]
        obtain ⟨W0, hW0⟩ : ∃ W0, w.alloc (.cells #[.slice A m c, .slice B m d] 26) = W0 := ⟨_, rfl⟩
        have HB0 : Hid (Blk W0 w.heap.size #[.slice A m c, .slice B m d] 26) := by show Blk _ _ _ _; rw [← hW0]; exact Blk.new w _ _
        rw [hW0] at HK0
        have HW0 := Lib.hid hW0
        clear HG hW0
        go_enter Try.func29, Try.ntmps29
        go_wp2_with fail
        go_loopw [3] (fun ii wr => ∃ k : Nat, k ≤ m ∧ ii = .int .i64 k ∧ planGo x (m - k) k = G ∧ Kept [] W0 wr) (fun ii _ => m - (intOf ii).toNat)
        case atStart => exact ⟨0, by omega, rfl, by rw [Nat.sub_zero]; exact HGG.out.symm, by rw [HW0.out]; exact Kept.refl _ _⟩
        case round =>
          obtain ⟨k, hk, rfl, hg, hK⟩ := hrel
          have HGO := Lib.hid hg
          have HK := Lib.hid hK
          have cw := hK.cell (by simp) ((HB0.out.cell 0).trans rfl)
          have cw1 := hK.cell (by simp) ((HB0.out.cell 1).trans rfl)
          clear hg hK
          by_cases hlt : k < m
          · have HD := Lib.hid (planGo_at x m k hlt)
            obtain ⟨q, hq⟩ : ∃ q, placeOk x k = q := ⟨_, rfl⟩
            have HOPK := Lib.hid (HOP.out k wr (HK0.out.trans HK.out) (by omega) (by simp))
            rw [hq] at HOPK
            have HGE : Hid (G = (q && planGo x (m - (k + 1)) (k + 1))) := by show _ = _; rw [← HGO.out, ← hq]; exact HD.out
            clear hq
            go_wp2_with fail
            refine HOPK.out.mono ?_
            rintro e w5 ⟨rfl, hk5⟩
            have HK5 := Lib.hid hk5
            clear hk5
            cases q with
            | false =>
              have hE : Hid (G = false) := by show _ = _; rw [HGE.out]; rfl
              go_wp2_with fail
              go_ret
              exact ⟨by rw [hE.out]; rfl, (HK0.out.trans HK.out).trans HK5.out⟩
            | true =>
              have hE : Hid (planGo x (m - (k + 1)) (k + 1) = G) := by show _ = _; rw [HGE.out]; rfl
              go_wp2_with fail
              go_roundw
              case rel => exact ⟨k + 1, by omega, by go_num, hE.out, HK.out.trans HK5.out⟩
              case measure => simp [intOf]; omega
          · have hkm : k = m := by omega
            subst hkm
            have hE : Hid (G = true) := by show _ = _; rw [← HGO.out, Nat.sub_self]; rfl
            go_wp2_with fail
            go_ret
            exact ⟨by rw [hE.out]; rfl, HK0.out.trans HK.out⟩
      · have hE : Hid (G = false) := by show _ = _; rw [HG.out]; simp [hmn]
        rw [hE.out]
        have hmn' : ((m : Int) != (n : Int)) = true := by rw [bne_iff_ne]; omega
        clear HG hE
        go_enter Try.func29, Try.ntmps29
        go_wp2_with fail
        go_ret
        exact ⟨rfl, HK0.out⟩

end Go.Proofs.Ytbaifjdealmckaa

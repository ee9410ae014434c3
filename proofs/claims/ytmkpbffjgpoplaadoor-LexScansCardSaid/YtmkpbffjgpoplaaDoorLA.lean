/- The words of any text: the law's walk. -/
import Derived.Test.YtmkpbffjgpoplaaDoorE25
set_option linter.unusedVariables false
set_option linter.unusedSimpArgs false
set_option linter.unnecessarySimpa false
namespace Go.Proofs.YtmkpbffjgpoplaaDoor
open Go.RowKit Go.Shelf
attribute [local go_sem] Oper.semAt_some

theorem scanV_len (s : ByteArray) : (scanV s).1.length ≤ 4096 := by
  unfold scanV
  split
  · simp
  · rename_i h
    split
    · simp
    · obtain ⟨k, hk, _, _, hl⟩ := words_last s (by omega)
      simp only
      omega

set_option maxRecDepth 100000 in
set_option maxHeartbeats 4000000 in
theorem lawScans_any (s : ByteArray) (hs : s.size ≤ maxLen) (w : World) (hv : Vars w) : Calls Tryd.prog 3 #[.string s] w fun e w' => e = .returned (.bool true) ∧ Kept [] w w' := by
  have hlen := scanV_len s
  have HLE := Lib.hid hlen
  obtain ⟨L, hL⟩ : ∃ L, (scanV s).1 = L := ⟨_, rfl⟩
  obtain ⟨a, ha⟩ : ∃ a, (scanV s).2.1 = a := ⟨_, rfl⟩
  obtain ⟨f, hf⟩ : ∃ f, (scanV s).2.2 = f := ⟨_, rfl⟩
  go_enter Tryd.func3, Tryd.ntmps3
  go_wp2_with fail
  refine (lScan_any s _ hv).mono ?_
  rintro e w1 ⟨v, rfl, hown, hk⟩
  have HR1 := Lib.hid (RdT.of_own hown (by omega))
  have HK1 := Lib.hid hk
  rw [hL] at HR1
  rw [ha, hf]
  obtain ⟨A1, c1, rfl⟩ := own_len hown
  clear hown hk
  rw [hL] at HR1 ⊢
  go_wp2_with fail
  refine (rScan_any s hs _).mono ?_
  rintro e w2 ⟨v2, rfl, hown, hk⟩
  have HR2 := Lib.hid (RdT.of_own hown (by omega))
  have HR1' := Lib.hid (HR1.out.keep hk)
  have HK2 := Lib.hid (HK1.out.trans hk)
  obtain ⟨A2, c2, rfl⟩ := own_len hown
  rw [hL] at HR2 ⊢
  rw [ha, hf]
  have hv2 := hv.keep HK2.out
  clear hown hk hlen hL ha hf
  go_wp2_with fail
  refine (live_any _ hv2).mono ?_
  rintro e w3 ⟨rfl, hk3⟩
  have h1 := HR1'.out.keep hk3
  have h2 := HR2.out.keep hk3
  have HK3 := Lib.hid (HK2.out.trans hk3)
  go_wp2_with fail
  refine (rSame_one _ _ L _ h1 h2).mono ?_
  rintro e w4 ⟨rfl, hk4⟩
  have HK4 := Lib.hid (HK3.out.trans hk4)
  clear h1 h2 hk3 hk4
  go_wp2_with fail
  go_ret
  exact ⟨rfl, HK4.out⟩

end Go.Proofs.YtmkpbffjgpoplaaDoor

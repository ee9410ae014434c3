/- TreeMakes. -/
import Derived.Test.YtikpnlmimhnmmaaT37
set_option linter.unusedVariables false
set_option linter.unusedSimpArgs false
set_option linter.unnecessarySimpa false
namespace Go.Proofs.Ytikpnlmimhnmmaa
open Go.RowKit Tr

theorem RT.kept {S : List Nat} {w w' : World} {r : Nat} {v : Value} {P : List Int} (h : RT w r v P) (k : Kept S w w') (h1 : r ∉ S) (h2 : ∀ z, v.ownBlock = some z → z ∉ S) : RT w' r v P := ⟨k.cell h1 h.1, h.2.kept k h2⟩

set_option maxRecDepth 100000 in
set_option maxHeartbeats 16000000 in
theorem treeMakes_any (w : World) (v : Value) (P : List Int) (hx : RdI w .i64 v P) (hbig : P.length * 8 ≤ 140737488351232) :
    Calls Try.prog 5 #[v] w fun e w' => e = .returned (.bool true) ∧ Kept [] w w' := by
  have HX := Lib.hid hx
  have HBG := Lib.hid hbig
  obtain ⟨A, c, rfl, hmx, hx⟩ := hx
  clear hx hbig
  go_enter Try.func5, Try.ntmps5
  go_wp2_with fail
  refine (clone_any _ P _ HX.out HBG.out).mono ?_
  rintro e w1 ⟨vm, rfl, ho1, hk1⟩
  have HO1 := Lib.hid ho1
  obtain ⟨Am, cm, rfl, -⟩ := own_len ho1
  clear ho1
  go_wp2_with fail
  refine (new_any _ P _ (RdI.of_own HO1.out).1).mono ?_
  rintro e w2 ⟨hk2, ⟨hne, rfl⟩ | ⟨he, rfl, hT2⟩⟩
  · have RN := Lib.hid (rnew_any _ P w2 (HX.out.keep (hk1.trans hk2)))
    obtain ⟨E, hE⟩ : ∃ E, treeErr P = E := ⟨_, rfl⟩
    rw [hE] at hne ⊢
    have HE := Lib.hid hE
    clear hE
    go_wp2_with fail
    refine RN.out.mono ?_
    rintro e w3 ⟨hk3, ⟨hne2, rfl⟩ | ⟨he2, -⟩⟩
    rotate_left
    · rw [HE.out] at he2; exact absurd he2 hne
    rw [HE.out]
    clear hne2
    have hq0 : (E != E) = false := by simp
    have hq : (E != 0) = true := by simpa using hne
    have hq2 : (E == 0) = false := by simpa using hne
    go_wp2_with fail
    refine (live_any _).mono ?_
    rintro e w4 ⟨rfl, hk4⟩
    have hK4 := ((hk1.trans hk2).trans hk3).trans hk4
    have hM4 := (((RdI.of_own HO1.out).1.keep hk2).keep hk3).keep hk4
    go_wp2_with fail
    refine (equal_any .i64 _ _ P P _ (HX.out.keep hK4) hM4).mono ?_
    rintro e w5 ⟨rfl, q, rfl⟩
    rw [dec_self]
    go_wp2_with fail
    go_ret
    exact ⟨rfl, hK4.drewN q⟩
  have hT := tree_of he
  have HT := Lib.hid hT
  have RN := Lib.hid (rnew_new _ P w2 (HX.out.keep (hk1.trans hk2)))
  have hn1 : 1 ≤ P.length := hT.pos
  have h16 : P.length ≤ 16 := hT.le
  have HNL : ∀ k : Nat, (sel (nearB P k) P.length).length ≤ 16 := fun k => Nat.le_trans (sel_le _ _) h16
  have HWL : Hid ((waysL (fun k => sel (nearB P k) P.length) P.length).length ≤ 256) := by
    have := waysL_le (fun k => sel (nearB P k) P.length) HNL P.length
    show _ ≤ _
    omega
  have HEZ := Lib.hid he
  obtain ⟨wi, hwi⟩ : ∃ x, wideG P = x := ⟨_, rfl⟩
  obtain ⟨WL, hWL⟩ : ∃ x, waysL (fun k => sel (nearB P k) P.length) P.length = x := ⟨_, rfl⟩
  rw [hWL] at HWL
  have HWI := Lib.hid hwi
  have HW := Lib.hid hWL
  have hn16 := h16
  obtain ⟨n, hn⟩ : ∃ n, P.length = n := ⟨_, rfl⟩
  rw [hn] at hn1 hn16 HO1 RN HX ⊢
  have HN := Lib.hid hn
  have HL16 := Lib.hid h16
  clear he hT hwi hWL HNL h16
  obtain ⟨t, ht⟩ : ∃ t, w1.heap.size = t := ⟨_, rfl⟩
  rw [ht] at hT2 ⊢
  have HTT := Lib.hid ht
  clear ht hn
  go_wp2_with fail
  refine RN.out.mono ?_
  rintro e w3 ⟨hk3, ⟨hne2, -⟩ | ⟨-, r, rv, rfl, hR3, hfr1, hfr2⟩⟩
  · exact absurd HEZ.out hne2
  have HF2 := Lib.hid hfr2
  have hs1 := hk1.size
  have hs2 := hk2.size
  obtain ⟨gm, cap, cur, hsl, hbg, hg, hnc, hcm, hcs⟩ : ∃ gm cap cur, Value.slice Am n cm = .slice (some ⟨gm, 0, none⟩) n cap ∧ w.heap.size ≤ gm ∧ Blk w1 gm cur 3 ∧ n ≤ cap ∧ cap ≤ maxLen ∧ cur.size = cap * 1 := by
    rcases HO1.out.2 with ⟨h0, h1⟩ | ⟨gm, cap, cur, hv, hbg, hg, hnc, hcm, hcs, htake⟩
    · omega
    · exact ⟨gm, cap, cur, hv, hbg, hg, hnc, hcm, hcs⟩
  injection hsl with hs1' hs2' hs3'
  subst hs1' hs3'
  have hgl := hg.lt
  have hB3 := (hg.kept hk2 (by simp)).kept hk3 (by simp)
  have hM3 := ((RdI.of_own HO1.out).1.keep hk2).keep hk3
  have hT3 := RawAt.keep hT2 hk3
  have hK3 := (hk1.trans hk2).trans hk3
  have hgt : gm ≠ t := by have := HTT.out; omega
  have hgr : gm ≠ r := by omega
  have HGV : Hid (∀ z, rv.ownBlock = some z → z ∉ [gm]) := fun z hz => by have := HF2.out z hz; simp; omega
  clear hT2 hk1 hk2 hk3 hfr1 hfr2 hg hs2'
  have hqm : (true != true) = false := rfl
  go_wp2_with fail
  refine (live_any _).mono ?_
  rintro e w4 ⟨rfl, hk4⟩
  have hB4 := hB3.kept hk4 (by simp)
  have hM4 := hM3.keep hk4
  have hT4 := RawAt.keep hT3 hk4
  have hR4 := RT.keep hR3 hk4
  have hK4 := hK3.trans hk4
  clear hB3 hM3 hT3 hR3 hK3 hk4
  go_wp2_with fail
  refine (equal_any .i64 _ _ P P _ (HX.out.keep hK4) hM4).mono ?_
  rintro e w5 ⟨rfl, q, rfl⟩
  rw [dec_self]
  have hB5 := hB4.drewN q
  have hT5 := RawAt.drewN hT4 q
  have hR5 : RT (w4.drewN q) r rv P := hR4
  have hK5 := hK4.drewN q
  obtain ⟨w5, hw5⟩ : ∃ x, w4.drewN q = x := ⟨_, rfl⟩
  rw [hw5] at hB5 hT5 hR5 hK5 ⊢
  clear hB4 hM4 hT4 hR4 hK4 hw5
  have HB5 := Lib.hid hB5
  have hcs1 : n ≤ cur.size := by omega
  clear hB5
  go_wp2_with fail
  go_loopw [45] (fun i wr => ∃ (k : Nat) (cu : Array Value), k ≤ n ∧ i = .int .i64 k ∧ Blk wr gm cu 3 ∧ n ≤ cu.size ∧ Kept [gm] w5 wr) (fun i _ => n - (intOf i).toNat)
  case atStart => exact ⟨0, cur, by omega, rfl, HB5.out, hcs1, Kept.refl _ _⟩
  case round =>
    obtain ⟨k, cu, hk, rfl, hB, hcu, hKl⟩ := hrel
    by_cases hlt : k < n
    · obtain ⟨u, hu⟩ : ∃ u, cu[k]? = some u := ⟨_, Array.getElem?_eq_getElem (by omega)⟩
      have hck : wr.cell? ⟨gm, k, none⟩ = some u := by rw [hB.cell]; exact hu
      have hfk := hB.free k
      have HBB := Lib.hid hB
      clear hu hB
      go_wp2_with fail
      go_roundw
      case rel => exact ⟨k + 1, cu.setIfInBounds k (.int .i64 99), by omega, by go_num, HBB.out.set k _, by simpa using hcu, hKl.setCell (.inl (by simp)) _⟩
      case measure => simp [intOf]; omega
    · have hT6 := RawAt.kept hT5 hKl (by simp; omega)
      have hR6 := RT.kept hR5 hKl (by simp; omega) HGV.out
      have hK6 := hK5.after hKl (by simp; exact hbg)
      have hn16b := HL16.out
      clear hT5 hR5 hKl
      have hqn : ((n : Int) == (n : Int)) = true := by simp
      have hqw : (wi == wi) = true := by simp
      go_wp2_with fail
      refine (len_some _ P.length _ _ hT6).mono ?_
      rintro e w' ⟨rfl, rfl⟩
      rw [HN.out]
      go_wp2_with fail
      refine (root_any _ P _ hT6 HT.out).mono ?_
      rintro e w' ⟨r1, hr1, rfl, rfl⟩
      have HR1 := Lib.hid hr1
      clear hr1
      go_wp2_with fail
      refine (rroot_any r rv P _ hR6 HT.out).mono ?_
      rintro e w' ⟨r2, hr2, rfl, rfl⟩
      have hrr : (r1 == r2) = true := by have := RootIs.uniq HR1.out hr2; simpa using this
      clear hr2
      go_wp2_with fail
      refine (wide_any _ P _ hT6 HT.out).mono ?_
      rintro e w7 ⟨rfl, hk7⟩
      have hT7 := RawAt.keep hT6 hk7
      have hR7 := RT.keep hR6 hk7
      have hK7 := Kept.trans hK6 hk7
      clear hT6 hR6 hK6 hk7 
      rw [HWI.out]
      go_wp2_with fail
      refine (rwide_any r rv P _ hR7 HT.out).mono ?_
      rintro e w8 ⟨rfl, hk8⟩
      have hT8 := RawAt.keep hT7 hk8
      have hR8 := RT.keep hR7 hk8
      have hK8 := Kept.trans hK7 hk8
      clear hT7 hR7 hK7 hk8 
      rw [HWI.out]
      go_wp2_with fail
      refine (ways_any _ P _ hT8).mono ?_
      rintro e w9 ⟨vk0, rfl, hit, hk9⟩
      have hT9 := RawAt.keep hT8 hk9
      have hR9 := RT.keep hR8 hk9
      have hK9 := Kept.trans hK8 hk9
      clear hT8 hR8 hK8 hk9 
      rw [HW.out] at hit
      have hit9 := hit
      clear hit
      go_wp2_with fail
      refine (rways_any r rv P _ hR9 HT.out.le).mono ?_
      rintro e w10 ⟨vr0, rfl, hu, hk10⟩
      have hT10 := RawAt.keep hT9 hk10
      have hR10 := RT.keep hR9 hk10
      have hK10 := Kept.trans hK9 hk10
      have hit10 := ItW.keep hit9 hk10
      clear hT9 hR9 hK9 hk10 hit9
      rw [HW.out] at hu
      have hu10 := hu
      clear hu
      go_wp2_with fail
      refine (tellsW_any vk0 vr0 _ 0 _ HWL.out hit10 hu10).mono ?_
      rintro e w11 ⟨rfl, hk11⟩
      have hT11 := RawAt.keep hT10 hk11
      have hR11 := RT.keep hR10 hk11
      have hK11 := Kept.trans hK10 hk11
      have hit11 := ItW.keep hit10 hk11
      have hu11 := RdW.keep hu10 hk11
      clear hT10 hR10 hK10 hk11 hit10 hu10
      go_wp2_with fail
      refine (ways_any _ P _ hT11).mono ?_
      rintro e w12 ⟨vk2, rfl, hit, hk12⟩
      have hT12 := RawAt.keep hT11 hk12
      have hR12 := RT.keep hR11 hk12
      have hK12 := Kept.trans hK11 hk12
      clear hT11 hR11 hK11 hk12 
      rw [HW.out] at hit
      have hit12 := hit
      clear hit
      go_wp2_with fail
      refine (rways_any r rv P _ hR12 HT.out.le).mono ?_
      rintro e w13 ⟨vr2, rfl, hu, hk13⟩
      have hT13 := RawAt.keep hT12 hk13
      have hR13 := RT.keep hR12 hk13
      have hK13 := Kept.trans hK12 hk13
      have hit13 := ItW.keep hit12 hk13
      clear hT12 hR12 hK12 hk13 hit12
      rw [HW.out] at hu
      have hu13 := hu
      clear hu
      go_wp2_with fail
      refine (tellsW_any vk2 vr2 _ 2 _ HWL.out hit13 hu13).mono ?_
      rintro e w14 ⟨rfl, hk14⟩
      have hT14 := RawAt.keep hT13 hk14
      have hR14 := RT.keep hR13 hk14
      have hK14 := Kept.trans hK13 hk14
      have hit14 := ItW.keep hit13 hk14
      have hu14 := RdW.keep hu13 hk14
      clear hT13 hR13 hK13 hk14 hit13 hu13
      go_wp2_with fail
      go_ret
      exact ⟨rfl, hK14⟩

theorem treeMakes_walk (w : World) (A : Option Addr) (n cap : Nat) (P : List Int) (hx : (Rk.slice (Rk.int .i64)).K w P [.slice A n cap]) (hy : n * 8 ≤ 140737488351232) :
    Calls Try.prog 5 #[.slice A n cap] w fun e w' => e = .returned (.bool true) ∧ Below w.heap.size w w' := by
  have hr := RdI.of_rk hx
  have hl : P.length = n := by
    obtain ⟨A', c', he, _⟩ := hr
    injection he with h1 h2 h3
    exact h2.symm
  exact (treeMakes_any w _ P hr (by rw [hl]; exact hy)).mono fun _ _ ⟨he, hk⟩ => ⟨he, hk.below⟩

end Go.Proofs.Ytikpnlmimhnmmaa

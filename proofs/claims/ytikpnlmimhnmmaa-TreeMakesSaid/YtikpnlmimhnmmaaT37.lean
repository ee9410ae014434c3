/- TreeAsks. -/
import Derived.Test.YtikpnlmimhnmmaaT36
set_option linter.unusedVariables false
set_option linter.unusedSimpArgs false
set_option linter.unnecessarySimpa false
namespace Go.Proofs.Ytikpnlmimhnmmaa
open Go.RowKit Tr

set_option maxRecDepth 100000 in
set_option maxHeartbeats 16000000 in
theorem treeAsks_any (w : World) (v : Value) (P : List Int) (a b : Int) (hx : RdI w .i64 v P) :
    Calls Try.prog 6 #[v, .int .i64 a, .int .i64 b] w fun e w' => e = .returned (.bool true) ∧ Kept [] w w' := by
  have HX := Lib.hid hx
  obtain ⟨A, c, rfl, hmx, hx⟩ := hx
  clear hx
  go_enter Try.func6, Try.ntmps6
  go_wp2_with fail
  refine (new_any _ P _ HX.out).mono ?_
  rintro e w1 ⟨hk1, ⟨hne, rfl⟩ | ⟨he, rfl, hT1⟩⟩
  · have RN := Lib.hid (rnew_any _ P w1 (HX.out.keep hk1))
    obtain ⟨E, hE⟩ : ∃ E, treeErr P = E := ⟨_, rfl⟩
    rw [hE] at hne ⊢
    have HE := Lib.hid hE
    clear hE
    go_wp2_with fail
    refine RN.out.mono ?_
    rintro e w2 ⟨hk2, ⟨hne2, rfl⟩ | ⟨he2, -⟩⟩
    rotate_left
    · rw [HE.out] at he2; exact absurd he2 hne
    rw [HE.out]
    clear hne2
    have hq : (E != 0) = true := by simpa using hne
    go_wp2_with fail
    refine (live_any _).mono ?_
    rintro e w3 ⟨rfl, hk3⟩
    go_wp2_with fail
    go_ret
    exact ⟨rfl, (hk1.trans hk2).trans hk3⟩
  have hT := tree_of he
  have HT := Lib.hid hT
  have RN := Lib.hid (rnew_any _ P w1 (HX.out.keep hk1))
  have HKS := Lib.hid (kids_same hT a)
  have HS16 : ∀ p : Nat → Bool, (sel p P.length).length ≤ 16 := fun p => Nat.le_trans (sel_le _ _) hT.le
  have HSL := Lib.hid HS16
  have HEZ := Lib.hid he
  obtain ⟨pa, hpa⟩ : ∃ x, (parentV P a).1 = x := ⟨_, rfl⟩
  obtain ⟨pb, hpb⟩ : ∃ x, (parentV P a).2 = x := ⟨_, rfl⟩
  obtain ⟨ma, hma⟩ : ∃ x, meetG P a b = x := ⟨_, rfl⟩
  obtain ⟨mb, hmb⟩ : ∃ x, (!(pathG P a b).isEmpty) = x := ⟨_, rfl⟩
  obtain ⟨na, hna⟩ : ∃ x, (nextV (pathG P a b)).1 = x := ⟨_, rfl⟩
  obtain ⟨nb, hnb⟩ : ∃ x, (nextV (pathG P a b)).2 = x := ⟨_, rfl⟩
  obtain ⟨da, hda⟩ : ∃ x, depthG P a = x := ⟨_, rfl⟩
  obtain ⟨di, hdi⟩ : ∃ x, distG P a b = x := ⟨_, rfl⟩
  have HPA := Lib.hid hpa
  have HPB := Lib.hid hpb
  have HMA := Lib.hid hma
  have HMB := Lib.hid hmb
  have HNA := Lib.hid hna
  have HNB := Lib.hid hnb
  have HDA := Lib.hid hda
  have HDI := Lib.hid hdi
  clear he hT HS16 hpa hpb hma hmb hna hnb hda hdi
  obtain ⟨t, ht⟩ : ∃ t, w.heap.size = t := ⟨_, rfl⟩
  rw [ht] at hT1 ⊢
  clear ht
  go_wp2_with fail
  refine RN.out.mono ?_
  rintro e w2 ⟨hk2, ⟨hne2, -⟩ | ⟨-, r, rv, rfl, hR2⟩⟩
  · exact absurd HEZ.out hne2
  have hT2 := RawAt.keep hT1 hk2
  have hK2 := hk1.trans hk2
  clear hT1 hk1 hk2
  go_wp2_with fail
  refine (live_any _).mono ?_
  rintro e w3 ⟨rfl, hk3⟩
  have hT3 := RawAt.keep hT2 hk3
  have hR3 := RT.keep hR2 hk3
  have hK3 := Kept.trans hK2 hk3
  clear hT2 hR2 hK2 hk3 
  go_wp2_with fail
  refine (parent_any _ P a _ hT3).mono ?_
  rintro e w' ⟨rfl, rfl⟩
  rw [HPA.out, HPB.out]
  go_wp2_with fail
  refine (rparent_any r rv P a _ hR3 HT.out).mono ?_
  rintro e w' ⟨rfl, rfl⟩
  rw [HPA.out, HPB.out]
  go_wp2_with fail
  refine (meet_any _ P a b _ hT3 HT.out).mono ?_
  rintro e w4 ⟨rfl, hk4⟩
  have hT4 := RawAt.keep hT3 hk4
  have hR4 := RT.keep hR3 hk4
  have hK4 := Kept.trans hK3 hk4
  clear hT3 hR3 hK3 hk4 
  rw [HMA.out, HMB.out]
  go_wp2_with fail
  refine (rmeet_any r rv P a b _ hR4 HT.out).mono ?_
  rintro e w5 ⟨rfl, hk5⟩
  have hT5 := RawAt.keep hT4 hk5
  have hR5 := RT.keep hR4 hk5
  have hK5 := Kept.trans hK4 hk5
  clear hT4 hR4 hK4 hk5 
  rw [HMA.out, HMB.out]
  go_wp2_with fail
  refine (next_any _ P a b _ hT5 HT.out).mono ?_
  rintro e w6 ⟨rfl, hk6⟩
  have hT6 := RawAt.keep hT5 hk6
  have hR6 := RT.keep hR5 hk6
  have hK6 := Kept.trans hK5 hk6
  clear hT5 hR5 hK5 hk6 
  rw [HNA.out, HNB.out]
  go_wp2_with fail
  refine (rnext_any r rv P a b _ hR6 HT.out).mono ?_
  rintro e w7 ⟨rfl, hk7⟩
  have hT7 := RawAt.keep hT6 hk7
  have hR7 := RT.keep hR6 hk7
  have hK7 := Kept.trans hK6 hk7
  clear hT6 hR6 hK6 hk7 
  rw [HNA.out, HNB.out]
  have q1 : (pa != pa) = false := by simp
  have q2 : (pb != pb) = false := by simp
  have q3 : (ma != ma) = false := by simp
  have q4 : (mb != mb) = false := by simp
  have q5 : (na != na) = false := by simp
  have q6 : (nb != nb) = false := by simp
  go_wp2_with fail
  refine (kids_any _ P a _ hT7).mono ?_
  rintro e w8 ⟨vk0, rfl, hit, hk8⟩
  have hT8 := RawAt.keep hT7 hk8
  have hR8 := RT.keep hR7 hk8
  have hK8 := Kept.trans hK7 hk8
  clear hT7 hR7 hK7 hk8 
  have hit8 := hit
  clear hit
  go_wp2_with fail
  refine (rkids_any r rv P a _ hR8 HT.out.le).mono ?_
  rintro e w9 ⟨vr0, rfl, hown, hk9⟩
  have hT9 := RawAt.keep hT8 hk9
  have hR9 := RT.keep hR8 hk9
  have hK9 := Kept.trans hK8 hk9
  have hit9 := ItI.keep hit8 hk9
  clear hT8 hR8 hK8 hk9 hit8
  rw [HKS.out] at hown
  have hu9 := (RdI.of_own hown).1
  clear hown
  go_wp2_with fail
  refine (tells_any _ vk0 vr0 _ 0 _ (HSL.out _) hit9 hu9).mono ?_
  rintro e w10 ⟨rfl, hk10⟩
  have hT10 := RawAt.keep hT9 hk10
  have hR10 := RT.keep hR9 hk10
  have hK10 := Kept.trans hK9 hk10
  have hit10 := ItI.keep hit9 hk10
  have hu10 := RdI.keep hu9 hk10
  clear hT9 hR9 hK9 hk10 hit9 hu9
  go_wp2_with fail
  refine (kids_any _ P a _ hT10).mono ?_
  rintro e w11 ⟨vk1, rfl, hit, hk11⟩
  have hT11 := RawAt.keep hT10 hk11
  have hR11 := RT.keep hR10 hk11
  have hK11 := Kept.trans hK10 hk11
  clear hT10 hR10 hK10 hk11 
  have hit11 := hit
  clear hit
  go_wp2_with fail
  refine (rkids_any r rv P a _ hR11 HT.out.le).mono ?_
  rintro e w12 ⟨vr1, rfl, hown, hk12⟩
  have hT12 := RawAt.keep hT11 hk12
  have hR12 := RT.keep hR11 hk12
  have hK12 := Kept.trans hK11 hk12
  have hit12 := ItI.keep hit11 hk12
  clear hT11 hR11 hK11 hk12 hit11
  rw [HKS.out] at hown
  have hu12 := (RdI.of_own hown).1
  clear hown
  go_wp2_with fail
  refine (tells_any _ vk1 vr1 _ 1 _ (HSL.out _) hit12 hu12).mono ?_
  rintro e w13 ⟨rfl, hk13⟩
  have hT13 := RawAt.keep hT12 hk13
  have hR13 := RT.keep hR12 hk13
  have hK13 := Kept.trans hK12 hk13
  have hit13 := ItI.keep hit12 hk13
  have hu13 := RdI.keep hu12 hk13
  clear hT12 hR12 hK12 hk13 hit12 hu12
  go_wp2_with fail
  refine (near_any _ P a _ hT13).mono ?_
  rintro e w14 ⟨v1nearB, rfl, hown, hk14⟩
  have hT14 := RawAt.keep hT13 hk14
  have hR14 := RT.keep hR13 hk14
  have hK14 := Kept.trans hK13 hk14
  clear hT13 hR13 hK13 hk14 
  have hv14 := (RdI.of_own hown).1
  clear hown
  go_wp2_with fail
  refine (rnear_any r rv P a _ hR14 HT.out.le).mono ?_
  rintro e w15 ⟨v2nearB, rfl, hown, hk15⟩
  have hT15 := RawAt.keep hT14 hk15
  have hR15 := RT.keep hR14 hk15
  have hK15 := Kept.trans hK14 hk15
  have hv15 := RdI.keep hv14 hk15
  clear hT14 hR14 hK14 hk15 hv14
  have hu15 := (RdI.of_own hown).1
  clear hown
  go_wp2_with fail
  refine (equal_any .i64 _ _ _ _ _ hv15 hu15).mono ?_
  rintro e w16 ⟨rfl, hd⟩
  have hk16 := Kept.of_drawn (S := []) hd
  clear hd
  have hT16 := RawAt.keep hT15 hk16
  have hR16 := RT.keep hR15 hk16
  have hK16 := Kept.trans hK15 hk16
  have hv16 := RdI.keep hv15 hk16
  have hu16 := RdI.keep hu15 hk16
  clear hT15 hR15 hK15 hk16 hv15 hu15
  rw [dec_self]
  go_wp2_with fail
  refine (below_any _ P a _ hT16 HT.out).mono ?_
  rintro e w17 ⟨v1belowB, rfl, hown, hk17⟩
  have hT17 := RawAt.keep hT16 hk17
  have hR17 := RT.keep hR16 hk17
  have hK17 := Kept.trans hK16 hk17
  clear hT16 hR16 hK16 hk17 
  have hv17 := (RdI.of_own hown).1
  clear hown
  go_wp2_with fail
  refine (rbelow_any r rv P a _ hR17 HT.out).mono ?_
  rintro e w18 ⟨v2belowB, rfl, hown, hk18⟩
  have hT18 := RawAt.keep hT17 hk18
  have hR18 := RT.keep hR17 hk18
  have hK18 := Kept.trans hK17 hk18
  have hv18 := RdI.keep hv17 hk18
  clear hT17 hR17 hK17 hk18 hv17
  have hu18 := (RdI.of_own hown).1
  clear hown
  go_wp2_with fail
  refine (equal_any .i64 _ _ _ _ _ hv18 hu18).mono ?_
  rintro e w19 ⟨rfl, hd⟩
  have hk19 := Kept.of_drawn (S := []) hd
  clear hd
  have hT19 := RawAt.keep hT18 hk19
  have hR19 := RT.keep hR18 hk19
  have hK19 := Kept.trans hK18 hk19
  have hv19 := RdI.keep hv18 hk19
  have hu19 := RdI.keep hu18 hk19
  clear hT18 hR18 hK18 hk19 hv18 hu18
  rw [dec_self]
  go_wp2_with fail
  refine (depth_any _ P a _ hT19 HT.out).mono ?_
  rintro e w20 ⟨rfl, hk20⟩
  have hT20 := RawAt.keep hT19 hk20
  have hR20 := RT.keep hR19 hk20
  have hK20 := Kept.trans hK19 hk20
  clear hT19 hR19 hK19 hk20 
  rw [HDA.out]
  go_wp2_with fail
  refine (rdepth_any r rv P a _ hR20 HT.out).mono ?_
  rintro e w21 ⟨rfl, hk21⟩
  have hT21 := RawAt.keep hT20 hk21
  have hR21 := RT.keep hR20 hk21
  have hK21 := Kept.trans hK20 hk21
  clear hT20 hR20 hK20 hk21 
  rw [HDA.out]
  have q7 : (da == da) = true := by simp
  go_wp2_with fail
  refine (path_any _ P a b _ hT21 HT.out).mono ?_
  rintro e w22 ⟨v3, rfl, hown, hk22⟩
  have hT22 := RawAt.keep hT21 hk22
  have hR22 := RT.keep hR21 hk22
  have hK22 := Kept.trans hK21 hk22
  clear hT21 hR21 hK21 hk22 
  have hv22 := (RdI.of_own hown).1
  clear hown
  go_wp2_with fail
  refine (rpath_any r rv P a b _ hR22 HT.out).mono ?_
  rintro e w23 ⟨v4, rfl, hown, hk23⟩
  have hT23 := RawAt.keep hT22 hk23
  have hR23 := RT.keep hR22 hk23
  have hK23 := Kept.trans hK22 hk23
  have hv23 := RdI.keep hv22 hk23
  clear hT22 hR22 hK22 hk23 hv22
  have hu23 := (RdI.of_own hown).1
  clear hown
  go_wp2_with fail
  refine (equal_any .i64 _ _ _ _ _ hv23 hu23).mono ?_
  rintro e w24 ⟨rfl, hd⟩
  have hk24 := Kept.of_drawn (S := []) hd
  clear hd
  have hT24 := RawAt.keep hT23 hk24
  have hR24 := RT.keep hR23 hk24
  have hK24 := Kept.trans hK23 hk24
  have hv24 := RdI.keep hv23 hk24
  have hu24 := RdI.keep hu23 hk24
  clear hT23 hR23 hK23 hk24 hv23 hu23
  rw [dec_self]
  go_wp2_with fail
  refine (dist_any _ P a b _ hT24 HT.out).mono ?_
  rintro e w25 ⟨rfl, hk25⟩
  have hT25 := RawAt.keep hT24 hk25
  have hR25 := RT.keep hR24 hk25
  have hK25 := Kept.trans hK24 hk25
  clear hT24 hR24 hK24 hk25 
  rw [HDI.out]
  go_wp2_with fail
  refine (rdist_any r rv P a b _ hR25 HT.out).mono ?_
  rintro e w26 ⟨rfl, hk26⟩
  have hT26 := RawAt.keep hT25 hk26
  have hR26 := RT.keep hR25 hk26
  have hK26 := Kept.trans hK25 hk26
  clear hT25 hR25 hK25 hk26 
  rw [HDI.out]
  have q8 : (di == di) = true := by simp
  go_wp2_with fail
  go_ret
  exact ⟨rfl, hK26⟩

theorem treeAsks_walk (w : World) (A : Option Addr) (n cap : Nat) (P : List Int) (hx : (Rk.slice (Rk.int .i64)).K w P [.slice A n cap]) (a : Int) (wa : (Lit.int .i64 a).wf = true) (b : Int) (wb : (Lit.int .i64 b).wf = true) :
    Calls Try.prog 6 #[.slice A n cap, .int .i64 a, .int .i64 b] w fun e w' => e = .returned (.bool true) ∧ Below w.heap.size w w' :=
  (treeAsks_any w _ P a b (RdI.of_rk hx)).mono fun _ _ ⟨he, hk⟩ => ⟨he, hk.below⟩

end Go.Proofs.Ytikpnlmimhnmmaa

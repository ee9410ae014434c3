/- TreeDist. -/
import Derived.Test.YtikpnlmimhnmmaaT9
set_option linter.unusedVariables false
set_option linter.unusedSimpArgs false
namespace Go.Proofs.Ytikpnlmimhnmmaa
open Go.RowKit Tr

set_option maxRecDepth 100000 in
set_option maxHeartbeats 4000000 in
theorem dist_any_law (w : World) (v : Value) (P : List Int) (a b : Int) (hx : RdI w .i64 v P) :
    Calls Try.prog 3 #[v, .int .i64 a, .int .i64 b] w fun e w' => e = .returned (.bool true) ∧ Kept [] w w' := by
  have HX := Lib.hid hx
  obtain ⟨A, c, rfl, hmx, hx⟩ := hx
  unfold maxLen at hmx
  clear hx
  obtain ⟨n, hn⟩ : ∃ n, P.length = n := ⟨_, rfl⟩
  rw [hn] at hmx HX ⊢
  have HN := Lib.hid hn
  clear hn
  go_enter Try.func3, Try.ntmps3
  go_wp2_with fail
  refine (new_any _ P _ HX.out).mono ?_
  rintro e w1 ⟨hk1, ⟨hne, rfl⟩ | ⟨he, rfl, hT1⟩⟩
  · obtain ⟨E, hE⟩ : ∃ E, treeErr P = E := ⟨_, rfl⟩
    rw [hE] at hne ⊢
    clear hE
    go_wp2_with fail
    refine (live_any _).mono ?_
    rintro e w2 ⟨rfl, hk2⟩
    go_wp2_with fail
    go_ret
    exact ⟨rfl, hk1.trans hk2⟩
  have hT := tree_of he
  have HT := Lib.hid hT

  clear he
  by_cases ha : a < 0
  · go_wp2_with fail
    refine (live_any _).mono ?_
    rintro e w2 ⟨rfl, hk2⟩
    go_wp2_with fail
    go_ret
    exact ⟨rfl, hk1.trans hk2⟩
  by_cases ha' : (n : Int) ≤ a
  · go_wp2_with fail
    refine (live_any _).mono ?_
    rintro e w2 ⟨rfl, hk2⟩
    go_wp2_with fail
    go_ret
    exact ⟨rfl, hk1.trans hk2⟩
  by_cases hb : b < 0
  · go_wp2_with fail
    refine (live_any _).mono ?_
    rintro e w2 ⟨rfl, hk2⟩
    go_wp2_with fail
    go_ret
    exact ⟨rfl, hk1.trans hk2⟩
  by_cases hb' : (n : Int) ≤ b
  · go_wp2_with fail
    refine (live_any _).mono ?_
    rintro e w2 ⟨rfl, hk2⟩
    go_wp2_with fail
    go_ret
    exact ⟨rfl, hk1.trans hk2⟩
  have hia : inB P.length a := by rw [HN.out]; unfold inB; omega
  have hib : inB P.length b := by rw [HN.out]; unfold inB; omega
  have hma := HN.out ▸ hT.le
  have hsp := meetG_spec hT hia hib
  have hem : (!(pathG P a b).isEmpty) = true := by rw [hsp.1]; rfl
  obtain ⟨m, hm⟩ : ∃ m, meetG P a b = m := ⟨_, rfl⟩
  have hz := distG_zero hT hia hib
  have hcm := distG_comm hT hia hib
  have hdp := distG_depth hT hia hib
  have hB := distG_bd hT a b
  have hDa := depthG_bd hT a
  have hDb := depthG_bd hT b
  have hDm := depthG_bd hT m
  rw [hm] at hdp
  have HIA := Lib.hid hia
  have HIB := Lib.hid hib
  have HEM := Lib.hid hem
  have HM := Lib.hid hm
  obtain ⟨D, hD⟩ : ∃ D, distG P a b = D := ⟨_, rfl⟩
  obtain ⟨DA, hDA⟩ : ∃ D, depthG P a = D := ⟨_, rfl⟩
  obtain ⟨DB, hDB⟩ : ∃ D, depthG P b = D := ⟨_, rfl⟩
  obtain ⟨DM, hDM⟩ : ∃ D, depthG P m = D := ⟨_, rfl⟩
  rw [hD] at hz hcm hdp hB
  rw [hDA] at hdp hDa
  rw [hDB] at hdp hDb
  rw [hDM] at hdp hDm
  obtain ⟨B, hb1, hb2⟩ : ∃ B, (D == 0) = B ∧ (a == b) = B := by
    by_cases e : a = b
    · exact ⟨true, by simp [hz.2 e], by simp [e]⟩
    · exact ⟨false, by simpa using fun c => e (hz.1 c), by simp [e]⟩
  have hd1 : (D == DA + DB - 2 * DM) = true := by simp [hdp]
  have hd2 : (D != DA + DB - 2 * DM) = false := by simp [hdp]
  have HD := Lib.hid hD
  have HDA := Lib.hid hDA
  have HDB := Lib.hid hDB
  have HDM := Lib.hid hDM
  have HCM := Lib.hid hcm
  clear hia hib hem hm hD hDA hDB hDM hcm hdp hz hsp hT
  go_wp2_with fail
  refine (live_any _).mono ?_
  rintro e w2 ⟨rfl, hk2⟩
  go_wp2_with fail
  have hT2 := RawAt.keep hT1 hk2
  have hK2 := hk1.trans hk2
  refine (meet_any _ P a b _ hT2 HT.out).mono ?_
  rintro e w3 ⟨rfl, hk3⟩
  rw [HM.out, HEM.out]
  have hT3 := RawAt.keep hT2 hk3
  have hK3 := hK2.trans hk3
  clear hT1 hT2 hk1 hk2 hk3 hK2
  go_wp2_with fail
  refine (dist_any _ P a b _ hT3 HT.out).mono ?_
  rintro e w4 ⟨rfl, hk4⟩
  rw [HD.out]
  have hT4 := RawAt.keep hT3 hk4
  have hK4 := hK3.trans hk4
  go_wp2_with fail
  refine (dist_any _ P a b _ hT4 HT.out).mono ?_
  rintro e w5 ⟨rfl, hk5⟩
  rw [HD.out]
  have hT5 := RawAt.keep hT4 hk5
  have hK5 := hK4.trans hk5
  go_wp2_with fail
  refine (dist_any _ P b a _ hT5 HT.out).mono ?_
  rintro e w6 ⟨rfl, hk6⟩
  rw [← HCM.out]
  have hT6 := RawAt.keep hT5 hk6
  have hK6 := hK5.trans hk6
  go_wp2_with fail
  refine (dist_any _ P a b _ hT6 HT.out).mono ?_
  rintro e w7 ⟨rfl, hk7⟩
  rw [HD.out]
  have hT7 := RawAt.keep hT6 hk7
  have hK7 := hK6.trans hk7
  go_wp2_with fail
  refine (depth_any _ P a _ hT7 HT.out).mono ?_
  rintro e w8 ⟨rfl, hk8⟩
  rw [HDA.out]
  have hT8 := RawAt.keep hT7 hk8
  have hK8 := hK7.trans hk8
  go_wp2_with fail
  refine (depth_any _ P b _ hT8 HT.out).mono ?_
  rintro e w9 ⟨rfl, hk9⟩
  rw [HDB.out]
  have hT9 := RawAt.keep hT8 hk9
  have hK9 := hK8.trans hk9
  go_wp2_with fail
  refine (depth_any _ P m _ hT9 HT.out).mono ?_
  rintro e w10 ⟨rfl, hk10⟩
  rw [HDM.out]
  have hT10 := RawAt.keep hT9 hk10
  have hK10 := hK9.trans hk10
  clear hT3 hT4 hT5 hT6 hT7 hT8 hT9 hK3 hK4 hK5 hK6 hK7 hK8 hK9 hk4 hk5 hk6 hk7 hk8 hk9 hk10
  go_wp2_with fail
  refine (len_some _ P.length _ _ hT10).mono ?_
  rintro e w' ⟨rfl, rfl⟩
  rw [HN.out]
  go_wp2_with fail
  go_loopw [96] (fun i wr => ∃ (k : Nat), k ≤ n ∧ i = .int .i64 k ∧ Kept [] w10 wr) (fun i _ => n - (intOf i).toNat)
  case atStart => exact ⟨0, by omega, rfl, Kept.refl _ _⟩
  case round =>
    obtain ⟨k, hkn, rfl, hK⟩ := hrel
    by_cases hlt : k < n
    · have hik : inB P.length k := by rw [HN.out]; unfold inB; omega
      have htri := distG_tri HT.out HIA.out HIB.out hik
      have h1 := distG_bd HT.out a k
      have h2 := distG_bd HT.out k b
      rw [HD.out] at htri
      clear hik
      have hTa := RawAt.keep hT10 hK
      go_wp2_with fail
      refine (dist_any _ P a b _ hTa HT.out).mono ?_
      rintro e w11 ⟨rfl, hk11⟩
      rw [HD.out]
      have hTb := RawAt.keep hTa hk11
      go_wp2_with fail
      refine (dist_any _ P a k _ hTb HT.out).mono ?_
      rintro e w12 ⟨rfl, hk12⟩
      have hTc := RawAt.keep hTb hk12
      go_wp2_with fail
      refine (dist_any _ P k b _ hTc HT.out).mono ?_
      rintro e w13 ⟨rfl, hk13⟩
      go_wp2_with fail
      go_roundw
      case rel => exact ⟨k + 1, by omega, by go_num, ((hK.trans hk11).trans hk12).trans hk13⟩
      case measure => simp [intOf]; omega
    · go_wp2_with fail
      go_ret
      exact ⟨rfl, hK10.trans hK⟩

theorem treeDist_walk (w : World) (A : Option Addr) (n cap : Nat) (P : List Int) (hx : (Rk.slice (Rk.int .i64)).K w P [.slice A n cap]) (a : Int) (wa : (Lit.int .i64 a).wf = true) (b : Int) (wb : (Lit.int .i64 b).wf = true) :
    Calls Try.prog 3 #[.slice A n cap, .int .i64 a, .int .i64 b] w fun e w' => e = .returned (.bool true) ∧ Below w.heap.size w w' :=
  (dist_any_law w _ P a b (RdI.of_rk hx)).mono fun _ _ ⟨he, hk⟩ => ⟨he, hk.below⟩

end Go.Proofs.Ytikpnlmimhnmmaa

/- The word at a place: the document's: a number. -/
import Derived.Deep.DeepCutAuto
import Derived.Test.YtmkpbffjgpoplaaDoorRows
import Derived.WalkKit
import Derived.WalkSpells
import Derived.WalkLawsBesides
import Derived.Deep.QuietTactic
import Derived.BigQuiet
import Derived.Lib.Hide
import Derived.Lib.ConvBytes
import Derived.Deep.Slices
import Derived.ProofKit
import Derived.SizedLaws
import Derived.Test.YtmkpbffjgpoplaaDoorShelf
import Derived.Laws.BytesArg
import Derived.Laws.BitsLemmas
import Derived.Deep.RegionHeld3
import Derived.Deep.AppendLies
import Derived.Maps.AppendAt
import Derived.Lib.ItoaLen
import Derived.Laws.Runes
import Derived.Laws.Concat
import Derived.Laws.Cover4
import Derived.Lib.SmallJoins
import Derived.Test.YtmkpbffjgpoplaaDoorE6
set_option linter.unusedVariables false
set_option linter.unusedSimpArgs false
set_option linter.unnecessarySimpa false
namespace Go.Proofs.YtmkpbffjgpoplaaDoor
open Go.RowKit Go.Shelf
attribute [local go_sem] Oper.semAt_some

set_option maxRecDepth 100000 in
set_option maxHeartbeats 4000000 in
theorem rone_num (s : ByteArray) (k : Nat) (hk : k < s.size) (hs : s.size ≤ 17592186044416) (hlet : letterV (byt s k) = false) (hD : digB s k = true) (w : World) : Calls Tryd.prog 24 #[.string s, .int .i64 k] w (OnePost w (wordO s k)) := by
  have HW := Lib.hid (wordO_num hlet hD)
  have hrb := runV_bd s false (k := k + 1) (by omega)
  have HLT : Hid (∀ (z : Int) (W : World), Calls Tryd.prog 33 #[.int .u8 z] W fun e w' => e = .returned (.bool (letterV z)) ∧ W = w') := rletter05
  have HPR : Hid (∀ (x : ByteArray) (W : World), x.size ≤ 17592186044416 → Calls Tryd.prog 38 #[.string x] W (ParsePost W x)) := fun x W h => rparse_any x h W
  have HNM : Hid (∀ (x : ByteArray) (W : World), x.size ≤ maxLen → Calls Tryd.prog 35 #[.string x] W fun e w' => e = .returned (.bool (nameV x)) ∧ W = w') := fun x W h => rname_any x h W
  have HDG : Hid (∀ (z : Int) (W : World), Calls Tryd.prog 36 #[.int .u8 z] W fun e w' => e = .returned (.bool (digitV z)) ∧ W = w') := rdigit05
  have HSY : Hid (∀ (x : ByteArray) (W : World), Calls Tryd.prog 18 #[.string x] W fun e w' => e = .returned (.bool (symV x)) ∧ Kept [] W w') := rSymbol_any
  have HCL : Hid (∀ (W : World), Calls Tryd.prog 37 #[.string s, .int .i64 k] W (ClosPost W (closGo s (s.size - (k + 1)) (k + 1)))) := fun W => rcloses_any s k hk (by omega) W
  have HRN : Hid (∀ (j : Nat) (l : Bool) (W : World), j ≤ s.size → Calls Tryd.prog 34 #[.string s, .int .i64 j, .bool l] W fun e w' => e = .returned (.int .i64 (runV s l j)) ∧ W = w') := fun j l W h => rrun_any s j l h (by omega) W
  obtain ⟨n, hn⟩ : ∃ n, s.size = n := ⟨_, rfl⟩
  have IX := Lib.hid (fun k (h : k < n) w => index_at s k (by rw [hn]; exact h) w)
  have HN := Lib.hid hn
  have hl := len_at s hn
  have hix := fun w => IX.out k (by omega) w
  obtain ⟨c, hc⟩ : ∃ c, byt s k = c := ⟨_, rfl⟩
  rw [hc] at hix hlet
  have HC := Lib.hid hc
  rw [hn] at hk hs
  have hks : (k : Int) ≤ (s.size : Int) := by omega
  have hk0 := ((Kept.refl [] w).alloc (.cells #[.int .i64 0, .string { data := #[] }, .int .i64 0, .int .i64 0, .string { data := #[] }, .int .i64 0] 40)).alloc (.cells #[.int .i64 0, .string { data := #[] }, .int .i64 0, .int .i64 0, .string { data := #[] }, .int .i64 k] 40)
  have HK0 := Lib.hid hk0
  have HBB : Hid (Blk ((w.alloc (.cells #[.int .i64 0, .string { data := #[] }, .int .i64 0, .int .i64 0, .string { data := #[] }, .int .i64 0] 40)).alloc (.cells #[.int .i64 0, .string { data := #[] }, .int .i64 0, .int .i64 0, .string { data := #[] }, .int .i64 k] 40)) w.heap.size #[.int .i64 0, .string { data := #[] }, .int .i64 0, .int .i64 0, .string { data := #[] }, .int .i64 0] 40 ∧ Blk ((w.alloc (.cells #[.int .i64 0, .string { data := #[] }, .int .i64 0, .int .i64 0, .string { data := #[] }, .int .i64 0] 40)).alloc (.cells #[.int .i64 0, .string { data := #[] }, .int .i64 0, .int .i64 0, .string { data := #[] }, .int .i64 k] 40)) (w.heap.size + 1) #[.int .i64 0, .string { data := #[] }, .int .i64 0, .int .i64 0, .string { data := #[] }, .int .i64 k] 40) := by
    have hb := Blk.new (w.alloc (.cells #[.int .i64 0, .string { data := #[] }, .int .i64 0, .int .i64 0, .string { data := #[] }, .int .i64 0] 40)) #[.int .i64 0, .string { data := #[] }, .int .i64 0, .int .i64 0, .string { data := #[] }, .int .i64 k] 40
    have e : (w.alloc (.cells #[.int .i64 0, .string { data := #[] }, .int .i64 0, .int .i64 0, .string { data := #[] }, .int .i64 0] 40)).heap.size = w.heap.size + 1 := by simp
    rw [e] at hb
    exact ⟨(Blk.new w _ _).alloc _, hb⟩
  clear hk0 hc
  go_enter Tryd.func24, Tryd.ntmps24
  go_wp2_with fail
  refine (HLT.out c _).mono ?_
  rintro e w1 ⟨rfl, hw1⟩
  rw [hw1] at HK0 HBB
  have HT1 : Hid (TwoT w w1 0 { data := #[] } k) := ⟨HBB.out.1, HBB.out.2, HK0.out⟩
  obtain ⟨⟨r0, r1, r2, r3, r4, r5⟩, fr0, fr1, fr2, fr3, fr4, fr5⟩ := HT1.out.1.six
  obtain ⟨⟨t0, t1, t2, t3, t4, t5⟩, ft0, ft1, ft2, ft3, ft4, ft5⟩ := HT1.out.2.1.six
  clear hw1 hn
  rw [hlet]
  clear hlet
  obtain ⟨D, hDv⟩ : ∃ D, D = true := ⟨_, rfl⟩
  rw [← hDv] at hD
  have HDV := Lib.hid hDv
  clear hDv
  have HF := Lib.hid (digB_facts HN.out HC.out hD)
  clear hD
  go_upto_region 8 with fail
  go_cut [43] from 12 (fun b wx => b = .bool D ∧ TwoT w wx 0 { data := #[] } k)
  case first =>
    go_wp2_with fail
    refine (HDG.out c _).mono ?_
    rintro e w2 ⟨rfl, rfl⟩
    cases hd : digitV c with
    | true =>
      have hDD := Lib.hid (HF.out.1 hd)
      clear hd
      go_wp2_with fail
      go_meet
      exact ⟨congrArg Value.bool hDD.out.symm, HT1.out⟩
    | false =>
      by_cases h45 : c = 45
      · by_cases hk1 : k + 1 < n
        · have hix1 := fun w => IX.out (k + 1) hk1 w
          have hDD := Lib.hid (HF.out.2.2.2 hd h45 hk1)
          obtain ⟨d, hdd⟩ : ∃ d, byt s (k + 1) = d := ⟨_, rfl⟩
          rw [hdd] at hix1 hDD
          have e1 : ((k + 1 : Nat) : Int) = (k : Int) + 1 := by omega
          rw [e1] at hix1
          subst h45
          clear e1 hdd hd
          have hk1' : decide ((k : Int) + 1 < (n : Int)) = true := decide_eq_true (by omega)
          go_wp2_with fail
          refine (HDG.out d _).mono ?_
          rintro e w2 ⟨rfl, rfl⟩
          go_wp2_with fail
          go_meet
          exact ⟨congrArg Value.bool hDD.out.symm, HT1.out⟩
        · have hDD := Lib.hid (HF.out.2.2.1 hd hk1)
          subst h45
          clear hd
          have hk1' : decide ((k : Int) + 1 < (n : Int)) = false := decide_eq_false (by omega)
          go_wp2_with fail
          go_meet
          exact ⟨congrArg Value.bool hDD.out.symm, HT1.out⟩
      · have hDD := Lib.hid (HF.out.2.1 hd h45)
        have b45 : (c == 45) = false := by rw [beq_eq_false_iff_ne]; exact h45
        clear hd h45
        go_wp2_with fail
        go_meet
        exact ⟨congrArg Value.bool hDD.out.symm, HT1.out⟩
  case rest =>
  obtain ⟨rfl, hcut2⟩ := hcut
  have HTC := Lib.hid hcut2
  have hDv := HDV.out
  clear HDV HF
  subst hDv
  clear hcut2 HT1 HBB HK0
  clear r0 r1 r2 r3 r4 r5 fr0 fr1 fr2 fr3 fr4 fr5 t0 t1 t2 t3 t4 t5 ft0 ft1 ft2 ft3 ft4 ft5
  obtain ⟨⟨r0, r1, r2, r3, r4, r5⟩, fr0, fr1, fr2, fr3, fr4, fr5⟩ := HTC.out.1.six
  obtain ⟨⟨t0, t1, t2, t3, t4, t5⟩, ft0, ft1, ft2, ft3, ft4, ft5⟩ := HTC.out.2.1.six
  have HRK : Hid (∀ W, Calls Tryd.prog 34 #[.string s, .int .i64 (IntKind.i64.wrap ((k : Int) + 1)), .bool false] W fun e w' => e = .returned (.int .i64 (runV s false (k + 1))) ∧ W = w') := fun W => by
    have h := HRN.out (k + 1) false W (by rw [HN.out]; omega)
    have hw : IntKind.i64.wrap ((k : Int) + 1) = ((k + 1 : Nat) : Int) := by unfold IntKind.wrap; simp [IntKind.signed, IntKind.bits]; omega
    rw [← hw] at h
    exact h
  obtain ⟨e1, he1⟩ : ∃ e1, runV s false (k + 1) = e1 := ⟨_, rfl⟩
  rw [he1] at hrb HRK HW
  have hr1 : (k : Int) ≤ (e1 : Int) := by omega
  have hr2 : (e1 : Int) ≤ (s.size : Int) := by omega
  have HSZ : Hid ((s.extract k e1).size ≤ 17592186044416) := by show _ ≤ _; rw [size_extract s k e1 (by omega) hrb.2]; have := HN.out; omega
  go_upto_region 9 with fail
  go_region_with (go_at_call 34; refine (HRK.out _).mono ?_; rintro e w2 ⟨rfl, rfl⟩)
  have HT2 : Hid (TwoT w (((wc.setCell ⟨w.heap.size + 1, 0, none⟩ (.int .i64 2)).setCell ⟨w.heap.size + 1, 1, none⟩ (.string (s.extract k e1))).drew) 2 (s.extract k e1) k) := HTC.out.put _ _
  obtain ⟨wx, hwx⟩ : ∃ wx, ((wc.setCell ⟨w.heap.size + 1, 0, none⟩ (.int .i64 2)).setCell ⟨w.heap.size + 1, 1, none⟩ (.string (s.extract k e1))).drew = wx := ⟨_, rfl⟩
  rw [hwx] at HT2 ⊢
  clear hwx
  obtain ⟨T, hT⟩ : ∃ T, s.extract k e1 = T := ⟨_, rfl⟩
  rw [hT] at HT2 HSZ HW ⊢
  clear r0 r1 r2 r3 r4 r5 fr0 fr1 fr2 fr3 fr4 fr5 t0 t1 t2 t3 t4 t5 ft0 ft1 ft2 ft3 ft4 ft5
  obtain ⟨⟨r0, r1, r2, r3, r4, r5⟩, fr0, fr1, fr2, fr3, fr4, fr5⟩ := HT2.out.1.six
  obtain ⟨⟨t0, t1, t2, t3, t4, t5⟩, ft0, ft1, ft2, ft3, ft4, ft5⟩ := HT2.out.2.1.six
  go_wp2_with fail
  refine (HPR.out T _ HSZ.out).mono ?_
  rintro e w5 ⟨⟨v1, v2, v3⟩, b, rfl, hrel, hk5⟩
  have HPV := Lib.hid hrel.eq
  have HT5 := Lib.hid (HT2.out.keep hk5)
  clear hrel hk5
  clear r0 r1 r2 r3 r4 r5 fr0 fr1 fr2 fr3 fr4 fr5 t0 t1 t2 t3 t4 t5 ft0 ft1 ft2 ft3 ft4 ft5
  obtain ⟨⟨r0, r1, r2, r3, r4, r5⟩, fr0, fr1, fr2, fr3, fr4, fr5⟩ := HT5.out.1.six
  obtain ⟨⟨t0, t1, t2, t3, t4, t5⟩, ft0, ft1, ft2, ft3, ft4, ft5⟩ := HT5.out.2.1.six
  simp only [valV]
  go_upto_region 19 with fail
  obtain ⟨wy, hwy⟩ : ∃ wy, w5.alloc (.cells #[.int .i64 v1, .int .i64 v2, .string v3] 38) = wy := ⟨_, rfl⟩
  have HT6 : Hid (TwoT w wy 2 T k) := by show TwoT _ _ _ _ _; rw [← hwy]; exact HT5.out.keep ((Kept.refl [] w5).alloc _)
  have HV6 : Hid (Blk wy w5.heap.size #[.int .i64 v1, .int .i64 v2, .string v3] 38) := by show Blk _ _ _ _; rw [← hwy]; exact Blk.new w5 _ _
  rw [hwy]
  clear hwy
  clear r0 r1 r2 r3 r4 r5 fr0 fr1 fr2 fr3 fr4 fr5 t0 t1 t2 t3 t4 t5 ft0 ft1 ft2 ft3 ft4 ft5
  obtain ⟨⟨r0, r1, r2, r3, r4, r5⟩, fr0, fr1, fr2, fr3, fr4, fr5⟩ := HT6.out.1.six
  obtain ⟨⟨t0, t1, t2, t3, t4, t5⟩, ft0, ft1, ft2, ft3, ft4, ft5⟩ := HT6.out.2.1.six
  obtain ⟨y0, y1, y2, fy0, fy1, fy2⟩ := HV6.out.three
  go_wp2_with fail
  have HK3 := ((HT6.out.2.2.setCell (p := ⟨w.heap.size + 1, 2, none⟩) (.inr (Nat.le_succ _)) (.int .i64 v1)).setCell (p := ⟨w.heap.size + 1, 3, none⟩) (.inr (Nat.le_succ _)) (.int .i64 v2)).setCell (p := ⟨w.heap.size + 1, 4, none⟩) (.inr (Nat.le_succ _)) (.string v3)
  have hb3 := ((HT6.out.1.set_other (p := ⟨w.heap.size + 1, 2, none⟩) (by simp) (.int .i64 v1)).set_other (p := ⟨w.heap.size + 1, 3, none⟩) (by simp) (.int .i64 v2)).set_other (p := ⟨w.heap.size + 1, 4, none⟩) (by simp) (.string v3)
  have bF := Laid.six (x0 := .int .i64 2) (x1 := .string T) (x2 := .int .i64 v1) (x3 := .int .i64 v2) (x4 := .string v3) (x5 := .int .i64 k) hb3
  have HKF := Lib.hid (Laid.kept (x0 := .int .i64 2) (x1 := .string T) (x2 := .int .i64 v1) (x3 := .int .i64 v2) (x4 := .string v3) (x5 := .int .i64 k) HK3)
  obtain ⟨⟨g0, g1, g2, g3, g4, g5⟩, _⟩ := bF.six
  unfold Laid at g0 g1 g2 g3 g4 g5
  cases b with
  | true =>
    have HE : Hid (wordO s k = some ⟨2, T, (v1, v2, v3), k⟩) := by show _ = _; rw [HW.out, HPV.out, if_pos rfl]
    refine bodyPost_ret (v := .tuple #[.agg #[.int .i64 2, .string T, .int .i64 v1, .int .i64 v2, .string v3, .int .i64 k], .bool true]) ?_ rfl (OnePost.yes HE.out HKF.out)
    simp [results, Tryd.results24, go_sem, g0, g1, g2, g3, g4, g5]
  | false =>
    have HE : Hid (wordO s k = none) := by show _ = _; rw [HW.out, HPV.out, if_neg (by simp)]
    refine bodyPost_ret (v := .tuple #[.agg #[.int .i64 2, .string T, .int .i64 v1, .int .i64 v2, .string v3, .int .i64 k], .bool false]) ?_ rfl (OnePost.no ⟨2, T, (v1, v2, v3), k⟩ HE.out HKF.out)
    simp [results, Tryd.results24, go_sem, g0, g1, g2, g3, g4, g5]

end Go.Proofs.YtmkpbffjgpoplaaDoor

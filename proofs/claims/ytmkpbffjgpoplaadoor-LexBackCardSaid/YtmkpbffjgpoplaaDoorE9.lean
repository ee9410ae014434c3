/- The word at a place: the document's: a symbol; the whole. -/
import Derived.Deep.DeepCutAuto
import Derived.Test.YtmkpbffjgpoplaaDoorRows
import Derived.WalkKit
import Derived.WalkSpells
import Derived.WalkLawsBesides
import Derived.Deep.QuietTactic
import Derived.BigQuiet
import Derived.Lib.Hide
import Derived.Lib.ConvBytes
import Derived.Deep.Slices
import Derived.ProofKit
import Derived.SizedLaws
import Derived.Test.YtmkpbffjgpoplaaDoorShelf
import Derived.Laws.BytesArg
import Derived.Laws.BitsLemmas
import Derived.Deep.RegionHeld3
import Derived.Deep.AppendLies
import Derived.Maps.AppendAt
import Derived.Lib.ItoaLen
import Derived.Laws.Runes
import Derived.Laws.Concat
import Derived.Laws.Cover4
import Derived.Lib.SmallJoins
import Derived.Test.YtmkpbffjgpoplaaDoorE7
import Derived.Test.YtmkpbffjgpoplaaDoorE8
set_option linter.unusedVariables false
set_option linter.unusedSimpArgs false
set_option linter.unnecessarySimpa false
namespace Go.Proofs.YtmkpbffjgpoplaaDoor
open Go.RowKit Go.Shelf
attribute [local go_sem] Oper.semAt_some

theorem symV_one (s : ByteArray) (k : Nat) (h : k < s.size) : symV (s.extract k (k + 1)) = sym1 (byt s k) := by
  have hz := size_extract s k (k + 1) (by omega) (by omega)
  have hb := byt_extract s k (k + 1) 0 (by omega) (by omega)
  unfold symV
  rw [hz, hb, Nat.add_zero]
  simp
theorem symV_two (s : ByteArray) (k : Nat) (h : k + 1 < s.size) : symV (s.extract k (k + 2)) = sym2 (byt s k) (byt s (k + 1)) := by
  have hz := size_extract s k (k + 2) (by omega) (by omega)
  have hb := byt_extract s k (k + 2) 0 (by omega) (by omega)
  have hb1 := byt_extract s k (k + 2) 1 (by omega) (by omega)
  unfold symV
  rw [hz, hb, hb1, Nat.add_zero]
  simp
set_option maxRecDepth 100000 in
set_option maxHeartbeats 4000000 in
theorem rone_sym (s : ByteArray) (k : Nat) (hk : k < s.size) (hs : s.size ≤ 17592186044416) (hlet : letterV (byt s k) = false) (hD : digB s k = false) (h34 : byt s k ≠ 34) (w : World) : Calls Tryd.prog 24 #[.string s, .int .i64 k] w (OnePost w (wordO s k)) := by
  have HW0 := Lib.hid (wordO_sym hlet hD h34)
  have HS1 := Lib.hid (symV_one s k hk)
  have HS2 := Lib.hid (symV_two s k)
  have HLT : Hid (∀ (z : Int) (W : World), Calls Tryd.prog 33 #[.int .u8 z] W fun e w' => e = .returned (.bool (letterV z)) ∧ W = w') := rletter05
  have HPR : Hid (∀ (x : ByteArray) (W : World), x.size ≤ 17592186044416 → Calls Tryd.prog 38 #[.string x] W (ParsePost W x)) := fun x W h => rparse_any x h W
  have HNM : Hid (∀ (x : ByteArray) (W : World), x.size ≤ maxLen → Calls Tryd.prog 35 #[.string x] W fun e w' => e = .returned (.bool (nameV x)) ∧ W = w') := fun x W h => rname_any x h W
  have HDG : Hid (∀ (z : Int) (W : World), Calls Tryd.prog 36 #[.int .u8 z] W fun e w' => e = .returned (.bool (digitV z)) ∧ W = w') := rdigit05
  have HSY : Hid (∀ (x : ByteArray) (W : World), Calls Tryd.prog 18 #[.string x] W fun e w' => e = .returned (.bool (symV x)) ∧ Kept [] W w') := rSymbol_any
  have HCL : Hid (∀ (W : World), Calls Tryd.prog 37 #[.string s, .int .i64 k] W (ClosPost W (closGo s (s.size - (k + 1)) (k + 1)))) := fun W => rcloses_any s k hk (by omega) W
  have HRN : Hid (∀ (j : Nat) (l : Bool) (W : World), j ≤ s.size → Calls Tryd.prog 34 #[.string s, .int .i64 j, .bool l] W fun e w' => e = .returned (.int .i64 (runV s l j)) ∧ W = w') := fun j l W h => rrun_any s j l h (by omega) W
  obtain ⟨n, hn⟩ : ∃ n, s.size = n := ⟨_, rfl⟩
  have IX := Lib.hid (fun k (h : k < n) w => index_at s k (by rw [hn]; exact h) w)
  have HN := Lib.hid hn
  have hl := len_at s hn
  have hix := fun w => IX.out k (by omega) w
  obtain ⟨c, hc⟩ : ∃ c, byt s k = c := ⟨_, rfl⟩
  rw [hc] at hix hlet
  have HC := Lib.hid hc
  rw [hn] at hk hs
  have hks : (k : Int) ≤ (s.size : Int) := by omega
  have hk0 := ((Kept.refl [] w).alloc (.cells #[.int .i64 0, .string { data := #[] }, .int .i64 0, .int .i64 0, .string { data := #[] }, .int .i64 0] 40)).alloc (.cells #[.int .i64 0, .string { data := #[] }, .int .i64 0, .int .i64 0, .string { data := #[] }, .int .i64 k] 40)
  have HK0 := Lib.hid hk0
  have HBB : Hid (Blk ((w.alloc (.cells #[.int .i64 0, .string { data := #[] }, .int .i64 0, .int .i64 0, .string { data := #[] }, .int .i64 0] 40)).alloc (.cells #[.int .i64 0, .string { data := #[] }, .int .i64 0, .int .i64 0, .string { data := #[] }, .int .i64 k] 40)) w.heap.size #[.int .i64 0, .string { data := #[] }, .int .i64 0, .int .i64 0, .string { data := #[] }, .int .i64 0] 40 ∧ Blk ((w.alloc (.cells #[.int .i64 0, .string { data := #[] }, .int .i64 0, .int .i64 0, .string { data := #[] }, .int .i64 0] 40)).alloc (.cells #[.int .i64 0, .string { data := #[] }, .int .i64 0, .int .i64 0, .string { data := #[] }, .int .i64 k] 40)) (w.heap.size + 1) #[.int .i64 0, .string { data := #[] }, .int .i64 0, .int .i64 0, .string { data := #[] }, .int .i64 k] 40) := by
    have hb := Blk.new (w.alloc (.cells #[.int .i64 0, .string { data := #[] }, .int .i64 0, .int .i64 0, .string { data := #[] }, .int .i64 0] 40)) #[.int .i64 0, .string { data := #[] }, .int .i64 0, .int .i64 0, .string { data := #[] }, .int .i64 k] 40
    have e : (w.alloc (.cells #[.int .i64 0, .string { data := #[] }, .int .i64 0, .int .i64 0, .string { data := #[] }, .int .i64 0] 40)).heap.size = w.heap.size + 1 := by simp
    rw [e] at hb
    exact ⟨(Blk.new w _ _).alloc _, hb⟩
  clear hk0 hc
  go_enter Tryd.func24, Tryd.ntmps24
  go_wp2_with fail
  refine (HLT.out c _).mono ?_
  rintro e w1 ⟨rfl, hw1⟩
  rw [hw1] at HK0 HBB
  have HT1 : Hid (TwoT w w1 0 { data := #[] } k) := ⟨HBB.out.1, HBB.out.2, HK0.out⟩
  obtain ⟨⟨r0, r1, r2, r3, r4, r5⟩, fr0, fr1, fr2, fr3, fr4, fr5⟩ := HT1.out.1.six
  obtain ⟨⟨t0, t1, t2, t3, t4, t5⟩, ft0, ft1, ft2, ft3, ft4, ft5⟩ := HT1.out.2.1.six
  clear hw1 hn
  rw [hlet]
  clear hlet
  rw [HC.out] at h34
  rw [HC.out] at HW0 HS1 HS2
  rw [HN.out] at HW0 HS2
  obtain ⟨D, hDv⟩ : ∃ D, D = false := ⟨_, rfl⟩
  rw [← hDv] at hD
  have HDV := Lib.hid hDv
  clear hDv
  have HF := Lib.hid (digB_facts HN.out HC.out hD)
  clear hD
  go_upto_region 8 with fail
  go_cut [43] from 12 (fun b wx => b = .bool D ∧ TwoT w wx 0 { data := #[] } k)
  case first =>
    go_wp2_with fail
    refine (HDG.out c _).mono ?_
    rintro e w2 ⟨rfl, rfl⟩
    cases hd : digitV c with
    | true =>
      have hDD := Lib.hid (HF.out.1 hd)
      clear hd
      go_wp2_with fail
      go_meet
      exact ⟨congrArg Value.bool hDD.out.symm, HT1.out⟩
    | false =>
      by_cases h45 : c = 45
      · by_cases hk1 : k + 1 < n
        · have hix1 := fun w => IX.out (k + 1) hk1 w
          have hDD := Lib.hid (HF.out.2.2.2 hd h45 hk1)
          obtain ⟨d, hdd⟩ : ∃ d, byt s (k + 1) = d := ⟨_, rfl⟩
          rw [hdd] at hix1 hDD
          have e1 : ((k + 1 : Nat) : Int) = (k : Int) + 1 := by omega
          rw [e1] at hix1
          subst h45
          clear e1 hdd hd
          have hk1' : decide ((k : Int) + 1 < (n : Int)) = true := decide_eq_true (by omega)
          go_wp2_with fail
          refine (HDG.out d _).mono ?_
          rintro e w2 ⟨rfl, rfl⟩
          go_wp2_with fail
          go_meet
          exact ⟨congrArg Value.bool hDD.out.symm, HT1.out⟩
        · have hDD := Lib.hid (HF.out.2.2.1 hd hk1)
          subst h45
          clear hd
          have hk1' : decide ((k : Int) + 1 < (n : Int)) = false := decide_eq_false (by omega)
          go_wp2_with fail
          go_meet
          exact ⟨congrArg Value.bool hDD.out.symm, HT1.out⟩
      · have hDD := Lib.hid (HF.out.2.1 hd h45)
        have b45 : (c == 45) = false := by rw [beq_eq_false_iff_ne]; exact h45
        clear hd h45
        go_wp2_with fail
        go_meet
        exact ⟨congrArg Value.bool hDD.out.symm, HT1.out⟩
  case rest =>
  obtain ⟨rfl, hcut2⟩ := hcut
  have HTC := Lib.hid hcut2
  have hDv := HDV.out
  clear HDV HF
  subst hDv
  clear hcut2 HT1 HBB HK0
  clear r0 r1 r2 r3 r4 r5 fr0 fr1 fr2 fr3 fr4 fr5 t0 t1 t2 t3 t4 t5 ft0 ft1 ft2 ft3 ft4 ft5
  obtain ⟨⟨r0, r1, r2, r3, r4, r5⟩, fr0, fr1, fr2, fr3, fr4, fr5⟩ := HTC.out.1.six
  obtain ⟨⟨t0, t1, t2, t3, t4, t5⟩, ft0, ft1, ft2, ft3, ft4, ft5⟩ := HTC.out.2.1.six
  have b34 : (c == 34) = false := by rw [beq_eq_false_iff_ne]; exact h34
  clear h34
  by_cases hk1 : k + 1 < n
  · have hk1' : decide ((k : Int) + 1 < (n : Int)) = true := decide_eq_true (by omega)
    have hr2 : (k : Int) + 2 ≤ (s.size : Int) := by have := HN.out; omega
    have HS2' := Lib.hid (HS2.out hk1)
    cases h2 : sym2 c (byt s (k + 1)) with
    | true =>
      have HW : Hid (wordO s k = some ⟨4, s.extract k (k + 2), noV, k⟩) := by show _ = _; rw [HW0.out, if_pos ⟨hk1, h2⟩]
      rw [h2] at HS2'
      clear h2
      go_wp2_with fail
      refine (HSY.out _ _).mono ?_
      rintro e w2 ⟨rfl, hk2⟩
      have HT3 := Lib.hid (HTC.out.keep hk2)
      clear hk2
      clear r0 r1 r2 r3 r4 r5 fr0 fr1 fr2 fr3 fr4 fr5 t0 t1 t2 t3 t4 t5 ft0 ft1 ft2 ft3 ft4 ft5
      obtain ⟨⟨r0, r1, r2, r3, r4, r5⟩, fr0, fr1, fr2, fr3, fr4, fr5⟩ := HT3.out.1.six
      obtain ⟨⟨t0, t1, t2, t3, t4, t5⟩, ft0, ft1, ft2, ft3, ft4, ft5⟩ := HT3.out.2.1.six
      rw [HS2'.out]
      go_upto_region 16 with fail
      go_cut [] from 12 (fun wx => TwoT w wx 4 (s.extract k (k + 2)) k)
      case first =>
        go_region
        all_goals
          go_wp2_with fail
          go_meet
          exact HT3.out.put _ _
      case rest =>
        have HT2 := Lib.hid hcut
        clear hcut
        clear r0 r1 r2 r3 r4 r5 fr0 fr1 fr2 fr3 fr4 fr5 t0 t1 t2 t3 t4 t5 ft0 ft1 ft2 ft3 ft4 ft5
        obtain ⟨⟨r0, r1, r2, r3, r4, r5⟩, fr0, fr1, fr2, fr3, fr4, fr5⟩ := HT2.out.1.six
        obtain ⟨⟨t0, t1, t2, t3, t4, t5⟩, ft0, ft1, ft2, ft3, ft4, ft5⟩ := HT2.out.2.1.six
        obtain ⟨T, hT⟩ : ∃ T, s.extract k (k + 2) = T := ⟨_, rfl⟩
        rw [hT] at HT2 HW
        rw [hT] at t1
        go_wp2_with fail
        have bF := Laid.six (x0 := .int .i64 4) (x1 := .string T) (x2 := .int .i64 0) (x3 := .int .i64 0) (x4 := .string { data := #[] }) (x5 := .int .i64 k) HT2.out.1
        have HKF := Lib.hid (Laid.kept (x0 := .int .i64 4) (x1 := .string T) (x2 := .int .i64 0) (x3 := .int .i64 0) (x4 := .string { data := #[] }) (x5 := .int .i64 k) HT2.out.2.2)
        obtain ⟨⟨g0, g1, g2, g3, g4, g5⟩, _⟩ := bF.six
        unfold Laid at g0 g1 g2 g3 g4 g5
        refine bodyPost_ret (v := .tuple #[.agg #[.int .i64 4, .string T, .int .i64 0, .int .i64 0, .string { data := #[] }, .int .i64 k], .bool true]) ?_ rfl (OnePost.yes HW.out HKF.out)
        simp [results, Tryd.results24, go_sem, g0, g1, g2, g3, g4, g5]
    | false =>
      have HW : Hid (wordO s k = if sym1 c = true then some ⟨4, s.extract k (k + 1), noV, k⟩ else none) := by show _ = _; rw [HW0.out, if_neg (by rw [h2]; simp)]
      rw [h2] at HS2'
      clear h2
      go_wp2_with fail
      refine (HSY.out _ _).mono ?_
      rintro e w2 ⟨rfl, hk2⟩
      have HT3 := Lib.hid (HTC.out.keep hk2)
      clear hk2
      clear r0 r1 r2 r3 r4 r5 fr0 fr1 fr2 fr3 fr4 fr5 t0 t1 t2 t3 t4 t5 ft0 ft1 ft2 ft3 ft4 ft5
      obtain ⟨⟨r0, r1, r2, r3, r4, r5⟩, fr0, fr1, fr2, fr3, fr4, fr5⟩ := HT3.out.1.six
      obtain ⟨⟨t0, t1, t2, t3, t4, t5⟩, ft0, ft1, ft2, ft3, ft4, ft5⟩ := HT3.out.2.1.six
      rw [HS2'.out]
      have hr3 : (k : Int) + 1 ≤ (s.size : Int) := by have := HN.out; omega
      go_upto_region 3 with fail
      go_cut [] from 12 (fun wx => TwoT w wx 4 (s.extract k (k + 1)) k)
      case first =>
        go_region
        all_goals
          go_wp2_with fail
          go_meet
          exact HT3.out.put _ _
      case rest =>
        have HT2 := Lib.hid hcut
        clear hcut
        clear r0 r1 r2 r3 r4 r5 fr0 fr1 fr2 fr3 fr4 fr5 t0 t1 t2 t3 t4 t5 ft0 ft1 ft2 ft3 ft4 ft5
        obtain ⟨⟨r0, r1, r2, r3, r4, r5⟩, fr0, fr1, fr2, fr3, fr4, fr5⟩ := HT2.out.1.six
        obtain ⟨⟨t0, t1, t2, t3, t4, t5⟩, ft0, ft1, ft2, ft3, ft4, ft5⟩ := HT2.out.2.1.six
        obtain ⟨T, hT⟩ : ∃ T, s.extract k (k + 1) = T := ⟨_, rfl⟩
        rw [hT] at HT2 HW HS1
        rw [hT] at t1
        go_upto_region 4 with fail
        go_cut [5] from 12 (fun x5 wx => x5 = .bool (symV T) ∧ Blk wx w.heap.size #[.int .i64 4, .string T, .int .i64 0, .int .i64 0, .string { data := #[] }, .int .i64 k] 40 ∧ Kept [] w wx)
        case first =>
          go_region_with (go_at_call 18; refine (HSY.out T _).mono ?_; rintro e w2 ⟨rfl, hk2⟩; have HT4 := Lib.hid (HT2.out.keep (Kept.trans (by first | exact (Kept.refl [] _).drew | exact Kept.refl [] _) hk2)); clear hk2; obtain ⟨⟨q0, q1, q2, q3, q4, q5⟩, fq0, fq1, fq2, fq3, fq4, fq5⟩ := HT4.out.1.six; obtain ⟨⟨p0, p1, p2, p3, p4, p5⟩, fp0, fp1, fp2, fp3, fp4, fp5⟩ := HT4.out.2.1.six)
          all_goals
            go_wp2_with fail
            go_meet
            exact ⟨rfl, Laid.six HT4.out.1, Laid.kept HT4.out.2.2⟩
        case rest =>
          obtain ⟨rfl, hb, hk⟩ := hcut
          obtain ⟨⟨g0, g1, g2, g3, g4, g5⟩, _⟩ := hb.six
          clear r0 r1 r2 r3 r4 r5 fr0 fr1 fr2 fr3 fr4 fr5 t0 t1 t2 t3 t4 t5 ft0 ft1 ft2 ft3 ft4 ft5
          clear hb
          rw [HS1.out]
          cases hsy : sym1 c with
          | true =>
            have HE : Hid (wordO s k = some ⟨4, T, noV, k⟩) := by show _ = _; rw [HW.out, if_pos hsy]
            have HK := Lib.hid hk
            clear hk hsy
            go_wp2_with fail
            refine bodyPost_ret (v := .tuple #[.agg #[.int .i64 4, .string T, .int .i64 0, .int .i64 0, .string { data := #[] }, .int .i64 k], .bool true]) ?_ rfl (OnePost.yes HE.out HK.out)
            simp [results, Tryd.results24, go_sem, g0, g1, g2, g3, g4, g5]
          | false =>
            have HE : Hid (wordO s k = none) := by show _ = _; rw [HW.out, if_neg (by rw [hsy]; simp)]
            have HK := Lib.hid hk
            clear hk hsy
            go_wp2_with fail
            refine bodyPost_ret (v := .tuple #[.agg #[.int .i64 4, .string T, .int .i64 0, .int .i64 0, .string { data := #[] }, .int .i64 k], .bool false]) ?_ rfl (OnePost.no ⟨4, T, noV, k⟩ HE.out HK.out)
            simp [results, Tryd.results24, go_sem, g0, g1, g2, g3, g4, g5]
  · have hk1' : decide ((k : Int) + 1 < (n : Int)) = false := decide_eq_false (by omega)
    have HW : Hid (wordO s k = if sym1 c = true then some ⟨4, s.extract k (k + 1), noV, k⟩ else none) := by show _ = _; rw [HW0.out, if_neg (fun h => hk1 h.1)]
    have HT3 := HTC
    have hr3 : (k : Int) + 1 ≤ (s.size : Int) := by have := HN.out; omega
    go_upto_region 3 with fail
    go_cut [] from 12 (fun wx => TwoT w wx 4 (s.extract k (k + 1)) k)
    case first =>
      go_region
      all_goals
        go_wp2_with fail
        go_meet
        exact HT3.out.put _ _
    case rest =>
      have HT2 := Lib.hid hcut
      clear hcut
      clear r0 r1 r2 r3 r4 r5 fr0 fr1 fr2 fr3 fr4 fr5 t0 t1 t2 t3 t4 t5 ft0 ft1 ft2 ft3 ft4 ft5
      obtain ⟨⟨r0, r1, r2, r3, r4, r5⟩, fr0, fr1, fr2, fr3, fr4, fr5⟩ := HT2.out.1.six
      obtain ⟨⟨t0, t1, t2, t3, t4, t5⟩, ft0, ft1, ft2, ft3, ft4, ft5⟩ := HT2.out.2.1.six
      obtain ⟨T, hT⟩ : ∃ T, s.extract k (k + 1) = T := ⟨_, rfl⟩
      rw [hT] at HT2 HW HS1
      rw [hT] at t1
      go_upto_region 4 with fail
      go_cut [5] from 12 (fun x5 wx => x5 = .bool (symV T) ∧ Blk wx w.heap.size #[.int .i64 4, .string T, .int .i64 0, .int .i64 0, .string { data := #[] }, .int .i64 k] 40 ∧ Kept [] w wx)
      case first =>
        go_region_with (go_at_call 18; refine (HSY.out T _).mono ?_; rintro e w2 ⟨rfl, hk2⟩; have HT4 := Lib.hid (HT2.out.keep (Kept.trans (by first | exact (Kept.refl [] _).drew | exact Kept.refl [] _) hk2)); clear hk2; obtain ⟨⟨q0, q1, q2, q3, q4, q5⟩, fq0, fq1, fq2, fq3, fq4, fq5⟩ := HT4.out.1.six; obtain ⟨⟨p0, p1, p2, p3, p4, p5⟩, fp0, fp1, fp2, fp3, fp4, fp5⟩ := HT4.out.2.1.six)
        all_goals
          go_wp2_with fail
          go_meet
          exact ⟨rfl, Laid.six HT4.out.1, Laid.kept HT4.out.2.2⟩
      case rest =>
        obtain ⟨rfl, hb, hk⟩ := hcut
        obtain ⟨⟨g0, g1, g2, g3, g4, g5⟩, _⟩ := hb.six
        clear r0 r1 r2 r3 r4 r5 fr0 fr1 fr2 fr3 fr4 fr5 t0 t1 t2 t3 t4 t5 ft0 ft1 ft2 ft3 ft4 ft5
        clear hb
        rw [HS1.out]
        cases hsy : sym1 c with
        | true =>
          have HE : Hid (wordO s k = some ⟨4, T, noV, k⟩) := by show _ = _; rw [HW.out, if_pos hsy]
          have HK := Lib.hid hk
          clear hk hsy
          go_wp2_with fail
          refine bodyPost_ret (v := .tuple #[.agg #[.int .i64 4, .string T, .int .i64 0, .int .i64 0, .string { data := #[] }, .int .i64 k], .bool true]) ?_ rfl (OnePost.yes HE.out HK.out)
          simp [results, Tryd.results24, go_sem, g0, g1, g2, g3, g4, g5]
        | false =>
          have HE : Hid (wordO s k = none) := by show _ = _; rw [HW.out, if_neg (by rw [hsy]; simp)]
          have HK := Lib.hid hk
          clear hk hsy
          go_wp2_with fail
          refine bodyPost_ret (v := .tuple #[.agg #[.int .i64 4, .string T, .int .i64 0, .int .i64 0, .string { data := #[] }, .int .i64 k], .bool false]) ?_ rfl (OnePost.no ⟨4, T, noV, k⟩ HE.out HK.out)
          simp [results, Tryd.results24, go_sem, g0, g1, g2, g3, g4, g5]
theorem rone_any (s : ByteArray) (k : Nat) (hk : k < s.size) (hs : s.size ≤ 17592186044416) (w : World) : Calls Tryd.prog 24 #[.string s, .int .i64 k] w (OnePost w (wordO s k)) := by
  cases hlet : letterV (byt s k) with
  | true => exact rone_name s k hk hs hlet w
  | false =>
    cases hD : digB s k with
    | true => exact rone_num s k hk hs hlet hD w
    | false =>
      by_cases h34 : byt s k = 34
      · exact rone_str s k hk hs hlet hD h34 w
      · exact rone_sym s k hk hs hlet hD h34 w

end Go.Proofs.YtmkpbffjgpoplaaDoor

/- The word with which a text begins: the program's: a number. -/
import Derived.Deep.DeepCutAuto
import Derived.Test.YtmkpbffjgpoplaaDoorRows
import Derived.WalkKit
import Derived.WalkSpells
import Derived.WalkLawsBesides
import Derived.Deep.QuietTactic
import Derived.BigQuiet
import Derived.Lib.Hide
import Derived.Lib.ConvBytes
import Derived.Deep.Slices
import Derived.ProofKit
import Derived.SizedLaws
import Derived.Test.YtmkpbffjgpoplaaDoorShelf
import Derived.Laws.BytesArg
import Derived.Laws.BitsLemmas
import Derived.Deep.RegionHeld3
import Derived.Deep.AppendLies
import Derived.Maps.AppendAt
import Derived.Lib.ItoaLen
import Derived.Laws.Runes
import Derived.Laws.Concat
import Derived.Laws.Cover4
import Derived.Lib.SmallJoins
import Derived.Laws.AppendOwnNone
import Derived.Test.YtmkpbffjgpoplaaDoorE12
import Derived.Test.YtmkpbffjgpoplaaDoorE16
set_option linter.unusedVariables false
set_option linter.unusedSimpArgs false
set_option linter.unnecessarySimpa false
namespace Go.Proofs.YtmkpbffjgpoplaaDoor
open Go.RowKit Go.Shelf
attribute [local go_sem] Oper.semAt_some

set_option maxRecDepth 100000 in
set_option maxHeartbeats 4000000 in
theorem lword_num (s : ByteArray) (hk : 0 < s.size) (hs : s.size ≤ 17592186044416) (hlet : letterV (byt s 0) = false) (hD : digB s 0 = true) (w : World) (hv : Vars w) : Calls Tryd.prog 39 #[.string s] w (OnePost w (wordO s 0)) := by
  have HW := Lib.hid (wordO_num hlet hD)
  have hrb := runV_bd s false (k := 1) (by omega)
  have hrf := runV_from s false (k := 1) (i := 0) (by omega)
  have HRK : Hid (∀ W, Calls Tryd.prog 51 #[.string (s.extract 1 s.size), .func (.func 53) #[] #[]] W fun e w' => e = .returned (.int .i64 (runV (s.extract 1 s.size) false 0)) ∧ W = w') := fun W => lrun_digit _ (by rw [size_extract s 1 s.size (by omega) (Nat.le_refl _)]; omega) W
  have HPR : Hid (∀ (x : ByteArray) (W : World), x.size ≤ 17592186044416 → Kept [] w W → Calls Tryd.prog 58 #[.string x] W (ParsePost W x)) := fun x W h hk => parse_any x (by omega) W (hv.keep hk)
  clear hv
  have HLT : Hid (∀ (z : Int) (W : World), Calls Tryd.prog 50 #[.int .u8 z] W fun e w' => e = .returned (.bool (letterV z)) ∧ W = w') := lletter
  have HDG : Hid (∀ (z : Int) (W : World), Calls Tryd.prog 53 #[.int .u8 z] W fun e w' => e = .returned (.bool (digitV z)) ∧ W = w') := ldigit
  have HNM : Hid (∀ (x : ByteArray) (W : World), x.size ≤ maxLen → Calls Tryd.prog 54 #[.string x] W fun e w' => e = .returned (.bool (nameV x)) ∧ Kept [] W w') := fun x W h => name_any x h W
  obtain ⟨n, hn⟩ : ∃ n, s.size = n := ⟨_, rfl⟩
  have IX := Lib.hid (fun k (h : k < n) w => index_at s k (by rw [hn]; exact h) w)
  have HN := Lib.hid hn
  have hl := len_at s hn
  have hix := fun w => IX.out 0 (by omega) w
  rw [show ((0 : Nat) : Int) = 0 from rfl] at hix
  obtain ⟨c, hc⟩ : ∃ c, byt s 0 = c := ⟨_, rfl⟩
  rw [hc] at hix hlet
  have HC := Lib.hid hc
  rw [hn] at hk hs
  have hk0 := (((Kept.refl [] w).alloc (.cells #[.string s] 9)).alloc (.cells #[.int .i64 0, .string { data := #[] }, .int .i64 0, .int .i64 0, .string { data := #[] }, .int .i64 0] 40)).alloc (.cells #[.int .i64 0, .string { data := #[] }, .int .i64 0, .int .i64 0, .string { data := #[] }, .int .i64 0] 40)
  have HT0 : Hid (ThreeT w (((w.alloc (.cells #[.string s] 9)).alloc (.cells #[.int .i64 0, .string { data := #[] }, .int .i64 0, .int .i64 0, .string { data := #[] }, .int .i64 0] 40)).alloc (.cells #[.int .i64 0, .string { data := #[] }, .int .i64 0, .int .i64 0, .string { data := #[] }, .int .i64 0] 40)) s 0 { data := #[] }) := by
    have h1 := Blk.new (w.alloc (.cells #[.string s] 9)) #[.int .i64 0, .string { data := #[] }, .int .i64 0, .int .i64 0, .string { data := #[] }, .int .i64 0] 40
    have h2 := Blk.new ((w.alloc (.cells #[.string s] 9)).alloc (.cells #[.int .i64 0, .string { data := #[] }, .int .i64 0, .int .i64 0, .string { data := #[] }, .int .i64 0] 40)) #[.int .i64 0, .string { data := #[] }, .int .i64 0, .int .i64 0, .string { data := #[] }, .int .i64 0] 40
    have e1 : (w.alloc (.cells #[.string s] 9)).heap.size = w.heap.size + 1 := by simp
    have e2 : ((w.alloc (.cells #[.string s] 9)).alloc (.cells #[.int .i64 0, .string { data := #[] }, .int .i64 0, .int .i64 0, .string { data := #[] }, .int .i64 0] 40)).heap.size = w.heap.size + 1 + 1 := by simp
    rw [e1] at h1
    rw [e2] at h2
    exact ⟨((Blk.new w _ _).alloc _).alloc _, h1.alloc _, h2, hk0⟩
  clear hk0 hc hn
  go_enter Tryd.func39, Tryd.ntmps39
  go_wp2_with fail
  refine (HLT.out c _).mono ?_
  rintro e w1 ⟨rfl, hw1⟩
  rw [hw1] at HT0
  have s0 := HT0.out.1.cell 0
  have fs0 := HT0.out.1.free 0
  simp at s0
  obtain ⟨⟨r0, r1, r2, r3, r4, r5⟩, fr0, fr1, fr2, fr3, fr4, fr5⟩ := HT0.out.2.1.six
  obtain ⟨⟨t0, t1, t2, t3, t4, t5⟩, ft0, ft1, ft2, ft3, ft4, ft5⟩ := HT0.out.2.2.1.six
  clear hw1
  rw [hlet]
  clear hlet
  obtain ⟨D, hDv⟩ : ∃ D, D = true := ⟨_, rfl⟩
  rw [← hDv] at hD
  have HDV := Lib.hid hDv
  clear hDv
  have HF := Lib.hid (digB_facts HN.out HC.out hD)
  clear hD
  go_upto_region 11 with fail
  go_cut [37] from 10 (fun b wx => b = .bool D ∧ ThreeT w wx s 0 { data := #[] })
  case first =>
    go_wp2_with fail
    refine (HDG.out c _).mono ?_
    rintro e w2 ⟨rfl, rfl⟩
    cases hd : digitV c with
    | true =>
      have hDD := Lib.hid (HF.out.1 hd)
      clear hd
      go_wp2_with fail
      go_meet
      exact ⟨congrArg Value.bool hDD.out.symm, HT0.out⟩
    | false =>
      by_cases h45 : c = 45
      · by_cases hk1 : 1 < n
        · have hix1 := fun w => IX.out 1 hk1 w
          have hDD := Lib.hid (HF.out.2.2.2 hd h45 (by omega))
          obtain ⟨d, hdd⟩ : ∃ d, byt s 1 = d := ⟨_, rfl⟩
          rw [show 0 + 1 = 1 by omega] at hDD
          rw [hdd] at hix1 hDD
          rw [show ((1 : Nat) : Int) = 1 from rfl] at hix1
          subst h45
          clear hdd hd
          have hk1' : decide ((1 : Int) < (n : Int)) = true := decide_eq_true (by omega)
          go_wp2_with fail
          refine (HDG.out d _).mono ?_
          rintro e w2 ⟨rfl, rfl⟩
          go_wp2_with fail
          go_meet
          exact ⟨congrArg Value.bool hDD.out.symm, HT0.out⟩
        · have hDD := Lib.hid (HF.out.2.2.1 hd (by omega))
          subst h45
          clear hd
          have hk1' : decide ((1 : Int) < (n : Int)) = false := decide_eq_false (by omega)
          go_wp2_with fail
          go_meet
          exact ⟨congrArg Value.bool hDD.out.symm, HT0.out⟩
      · have hDD := Lib.hid (HF.out.2.1 hd h45)
        have b45 : (c == 45) = false := by rw [beq_eq_false_iff_ne]; exact h45
        clear hd h45
        go_wp2_with fail
        go_meet
        exact ⟨congrArg Value.bool hDD.out.symm, HT0.out⟩
  case rest =>
  obtain ⟨rfl, hcut2⟩ := hcut
  have HTC := Lib.hid hcut2
  have hDv := HDV.out
  clear HDV HF
  subst hDv
  clear hcut2 HT0
  clear s0 fs0 r0 r1 r2 r3 r4 r5 fr0 fr1 fr2 fr3 fr4 fr5 t0 t1 t2 t3 t4 t5 ft0 ft1 ft2 ft3 ft4 ft5
  have s0 := HTC.out.1.cell 0
  have fs0 := HTC.out.1.free 0
  simp at s0
  obtain ⟨⟨r0, r1, r2, r3, r4, r5⟩, fr0, fr1, fr2, fr3, fr4, fr5⟩ := HTC.out.2.1.six
  obtain ⟨⟨t0, t1, t2, t3, t4, t5⟩, ft0, ft1, ft2, ft3, ft4, ft5⟩ := HTC.out.2.2.1.six
  obtain ⟨e1, he1⟩ : ∃ e1, runV s false (0 + 1) = e1 := ⟨_, rfl⟩
  obtain ⟨r, hr⟩ : ∃ r, runV (s.extract 1 s.size) false 0 = r := ⟨_, rfl⟩
  rw [show 1 + 0 = 0 + 1 by omega, he1, hr] at hrf
  rw [hr] at HRK
  rw [he1] at HW
  rw [show (1 : Nat) = 0 + 1 by omega, he1] at hrb
  have hr1 : (1 : Int) ≤ (s.size : Int) := by omega
  have hr2 : (e1 : Int) ≤ (s.size : Int) := by omega
  have hr3 : 1 + (r : Int) = (e1 : Int) := by omega
  have hr4 : IntKind.i64.wrap (1 + (r : Int)) = (e1 : Int) := by rw [hr3]; unfold IntKind.wrap; simp [IntKind.signed, IntKind.bits]; have := HN.out; omega
  have hwe : IntKind.i64.wrap (e1 : Int) = (e1 : Int) := by have h := hr4; rw [hr3] at h; exact h
  have HSZ : Hid ((s.extract 0 e1).size ≤ 17592186044416) := by show _ ≤ _; rw [size_extract s 0 e1 (by omega) (by omega)]; have := HN.out; omega
  go_upto_region 12 with fail
  go_region_with (go_at_call 51; refine (HRK.out _).mono ?_; rintro e w2 ⟨rfl, rfl⟩)
  all_goals
    have HT2 : Hid (ThreeT w (((wc.setCell ⟨w.heap.size + 1 + 1, 0, none⟩ (.int .i64 2)).setCell ⟨w.heap.size + 1 + 1, 1, none⟩ (.string (s.extract 0 e1))).drew) s 2 (s.extract 0 e1)) := HTC.out.put _ _
    obtain ⟨wx, hwx⟩ : ∃ wx, ((wc.setCell ⟨w.heap.size + 1 + 1, 0, none⟩ (.int .i64 2)).setCell ⟨w.heap.size + 1 + 1, 1, none⟩ (.string (s.extract 0 e1))).drew = wx := ⟨_, rfl⟩
    rw [hwx] at HT2 ⊢
    clear hwx
    obtain ⟨T, hT⟩ : ∃ T, s.extract 0 e1 = T := ⟨_, rfl⟩
    rw [hT] at HT2 HSZ HW ⊢
    clear s0 fs0 r0 r1 r2 r3 r4 r5 fr0 fr1 fr2 fr3 fr4 fr5 t0 t1 t2 t3 t4 t5 ft0 ft1 ft2 ft3 ft4 ft5
    have s0 := HT2.out.1.cell 0
    have fs0 := HT2.out.1.free 0
    simp at s0
    obtain ⟨⟨r0, r1, r2, r3, r4, r5⟩, fr0, fr1, fr2, fr3, fr4, fr5⟩ := HT2.out.2.1.six
    obtain ⟨⟨t0, t1, t2, t3, t4, t5⟩, ft0, ft1, ft2, ft3, ft4, ft5⟩ := HT2.out.2.2.1.six
    go_wp2_with fail
    refine (HPR.out T _ HSZ.out (HT2.out.2.2.2)).mono ?_
    rintro e w5 ⟨⟨v1, v2, v3⟩, b, rfl, hrel, hk5⟩
    have HPV := Lib.hid hrel.eq
    have HT5 := Lib.hid (HT2.out.keep hk5)
    clear hrel hk5
    clear s0 fs0 r0 r1 r2 r3 r4 r5 fr0 fr1 fr2 fr3 fr4 fr5 t0 t1 t2 t3 t4 t5 ft0 ft1 ft2 ft3 ft4 ft5
    have s0 := HT5.out.1.cell 0
    have fs0 := HT5.out.1.free 0
    simp at s0
    obtain ⟨⟨r0, r1, r2, r3, r4, r5⟩, fr0, fr1, fr2, fr3, fr4, fr5⟩ := HT5.out.2.1.six
    obtain ⟨⟨t0, t1, t2, t3, t4, t5⟩, ft0, ft1, ft2, ft3, ft4, ft5⟩ := HT5.out.2.2.1.six
    simp only [valV]
    go_upto_region 16 with fail
    obtain ⟨wy, hwy⟩ : ∃ wy, w5.alloc (.cells #[.int .i64 v1, .int .i64 v2, .string v3] 38) = wy := ⟨_, rfl⟩
    have HT6 : Hid (ThreeT w wy s 2 T) := by show ThreeT _ _ _ _ _; rw [← hwy]; exact HT5.out.keep ((Kept.refl [] w5).alloc _)
    have HV6 : Hid (Blk wy w5.heap.size #[.int .i64 v1, .int .i64 v2, .string v3] 38) := by show Blk _ _ _ _; rw [← hwy]; exact Blk.new w5 _ _
    rw [hwy]
    clear hwy
    clear s0 fs0 r0 r1 r2 r3 r4 r5 fr0 fr1 fr2 fr3 fr4 fr5 t0 t1 t2 t3 t4 t5 ft0 ft1 ft2 ft3 ft4 ft5
    have s0 := HT6.out.1.cell 0
    have fs0 := HT6.out.1.free 0
    simp at s0
    obtain ⟨⟨r0, r1, r2, r3, r4, r5⟩, fr0, fr1, fr2, fr3, fr4, fr5⟩ := HT6.out.2.1.six
    obtain ⟨⟨t0, t1, t2, t3, t4, t5⟩, ft0, ft1, ft2, ft3, ft4, ft5⟩ := HT6.out.2.2.1.six
    obtain ⟨y0, y1, y2, fy0, fy1, fy2⟩ := HV6.out.three
    go_wp2_with fail
    have HK3 := ((HT6.out.2.2.2.setCell (p := ⟨w.heap.size + 1 + 1, 2, none⟩) (.inr (by simp; omega)) (.int .i64 v1)).setCell (p := ⟨w.heap.size + 1 + 1, 3, none⟩) (.inr (by simp; omega)) (.int .i64 v2)).setCell (p := ⟨w.heap.size + 1 + 1, 4, none⟩) (.inr (by simp; omega)) (.string v3)
    have hb3 := ((HT6.out.2.1.set_other (p := ⟨w.heap.size + 1 + 1, 2, none⟩) (by simp) (.int .i64 v1)).set_other (p := ⟨w.heap.size + 1 + 1, 3, none⟩) (by simp) (.int .i64 v2)).set_other (p := ⟨w.heap.size + 1 + 1, 4, none⟩) (by simp) (.string v3)
    have bF := Laid.six (x0 := .int .i64 2) (x1 := .string T) (x2 := .int .i64 v1) (x3 := .int .i64 v2) (x4 := .string v3) (x5 := .int .i64 0) hb3
    have HKF := Lib.hid (Laid.kept1 (x0 := .int .i64 2) (x1 := .string T) (x2 := .int .i64 v1) (x3 := .int .i64 v2) (x4 := .string v3) (x5 := .int .i64 0) HK3)
    obtain ⟨⟨g0, g1, g2, g3, g4, g5⟩, _⟩ := bF.six
    unfold Laid at g0 g1 g2 g3 g4 g5
    cases b with
    | true =>
      have HE : Hid (wordO s 0 = some ⟨2, T, (v1, v2, v3), 0⟩) := by show _ = _; rw [HW.out, HPV.out, if_pos rfl] <;> rfl
      refine bodyPost_ret (v := .tuple #[.agg #[.int .i64 2, .string T, .int .i64 v1, .int .i64 v2, .string v3, .int .i64 0], .bool true]) ?_ rfl (OnePost.yes HE.out HKF.out)
      simp [results, Tryd.results39, go_sem, g0, g1, g2, g3, g4, g5]
    | false =>
      have HE : Hid (wordO s 0 = none) := by show _ = _; rw [HW.out, HPV.out, if_neg (by simp)]
      refine bodyPost_ret (v := .tuple #[.agg #[.int .i64 2, .string T, .int .i64 v1, .int .i64 v2, .string v3, .int .i64 0], .bool false]) ?_ rfl (OnePost.no ⟨2, T, (v1, v2, v3), 0⟩ HE.out HKF.out)
      simp [results, Tryd.results39, go_sem, g0, g1, g2, g3, g4, g5]

end Go.Proofs.YtmkpbffjgpoplaaDoor

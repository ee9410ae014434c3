/- The word with which a text begins: the program's: a symbol; the whole. -/
import Derived.Deep.DeepCutAuto
import Derived.Test.YtmkpbffjgpoplaaDoorRows
import Derived.WalkKit
import Derived.WalkSpells
import Derived.WalkLawsBesides
import Derived.Deep.QuietTactic
import Derived.BigQuiet
import Derived.Lib.Hide
import Derived.Lib.ConvBytes
import Derived.Deep.Slices
import Derived.ProofKit
import Derived.SizedLaws
import Derived.Test.YtmkpbffjgpoplaaDoorShelf
import Derived.Laws.BytesArg
import Derived.Laws.BitsLemmas
import Derived.Deep.RegionHeld3
import Derived.Deep.AppendLies
import Derived.Maps.AppendAt
import Derived.Lib.ItoaLen
import Derived.Laws.Runes
import Derived.Laws.Concat
import Derived.Laws.Cover4
import Derived.Lib.SmallJoins
import Derived.Laws.AppendOwnNone
import Derived.Test.YtmkpbffjgpoplaaDoorE17
import Derived.Test.YtmkpbffjgpoplaaDoorE18
set_option linter.unusedVariables false
set_option linter.unusedSimpArgs false
set_option linter.unnecessarySimpa false
namespace Go.Proofs.YtmkpbffjgpoplaaDoor
open Go.RowKit Go.Shelf
attribute [local go_sem] Oper.semAt_some

theorem wordO_symO {s : ByteArray} (h : letterV (byt s 0) = false) (hd : digB s 0 = false) (h34 : byt s 0 ≠ 34) : wordO s 0 = (symO s).map fun x => ⟨4, x, noV, (0 : Nat)⟩ := by
  rw [wordO_sym h hd h34]
  unfold symO
  rw [show 0 + 1 = 1 by omega, show 0 + 2 = 2 by omega]
  split
  · rfl
  · split <;> rfl
set_option maxRecDepth 100000 in
set_option maxHeartbeats 4000000 in
theorem lword_sym (s : ByteArray) (hk : 0 < s.size) (hs : s.size ≤ 17592186044416) (hlet : letterV (byt s 0) = false) (hD : digB s 0 = false) (h34 : byt s 0 ≠ 34) (w : World) : Calls Tryd.prog 39 #[.string s] w (OnePost w (wordO s 0)) := by
  have HW0 := Lib.hid (wordO_symO hlet hD h34)
  have HF0 := Lib.hid (fun (i : Nat) (hi : i < 16) => symO_found (s := s) (i := i) hk hi)
  have HN0 := Lib.hid (symO_none (s := s) hk)
  have HSYM : Hid (∀ W, Calls Tryd.prog 30 #[] W (SymsPost W)) := lsymbols_any
  have HLT : Hid (∀ (z : Int) (W : World), Calls Tryd.prog 50 #[.int .u8 z] W fun e w' => e = .returned (.bool (letterV z)) ∧ W = w') := lletter
  have HDG : Hid (∀ (z : Int) (W : World), Calls Tryd.prog 53 #[.int .u8 z] W fun e w' => e = .returned (.bool (digitV z)) ∧ W = w') := ldigit
  have HNM : Hid (∀ (x : ByteArray) (W : World), x.size ≤ maxLen → Calls Tryd.prog 54 #[.string x] W fun e w' => e = .returned (.bool (nameV x)) ∧ Kept [] W w') := fun x W h => name_any x h W
  obtain ⟨n, hn⟩ : ∃ n, s.size = n := ⟨_, rfl⟩
  have IX := Lib.hid (fun k (h : k < n) w => index_at s k (by rw [hn]; exact h) w)
  have HN := Lib.hid hn
  have hl := len_at s hn
  have hix := fun w => IX.out 0 (by omega) w
  rw [show ((0 : Nat) : Int) = 0 from rfl] at hix
  obtain ⟨c, hc⟩ : ∃ c, byt s 0 = c := ⟨_, rfl⟩
  rw [hc] at hix hlet
  have HC := Lib.hid hc
  rw [hn] at hk hs
  have hk0 := (((Kept.refl [] w).alloc (.cells #[.string s] 9)).alloc (.cells #[.int .i64 0, .string { data := #[] }, .int .i64 0, .int .i64 0, .string { data := #[] }, .int .i64 0] 40)).alloc (.cells #[.int .i64 0, .string { data := #[] }, .int .i64 0, .int .i64 0, .string { data := #[] }, .int .i64 0] 40)
  have HT0 : Hid (ThreeT w (((w.alloc (.cells #[.string s] 9)).alloc (.cells #[.int .i64 0, .string { data := #[] }, .int .i64 0, .int .i64 0, .string { data := #[] }, .int .i64 0] 40)).alloc (.cells #[.int .i64 0, .string { data := #[] }, .int .i64 0, .int .i64 0, .string { data := #[] }, .int .i64 0] 40)) s 0 { data := #[] }) := by
    have h1 := Blk.new (w.alloc (.cells #[.string s] 9)) #[.int .i64 0, .string { data := #[] }, .int .i64 0, .int .i64 0, .string { data := #[] }, .int .i64 0] 40
    have h2 := Blk.new ((w.alloc (.cells #[.string s] 9)).alloc (.cells #[.int .i64 0, .string { data := #[] }, .int .i64 0, .int .i64 0, .string { data := #[] }, .int .i64 0] 40)) #[.int .i64 0, .string { data := #[] }, .int .i64 0, .int .i64 0, .string { data := #[] }, .int .i64 0] 40
    have e1 : (w.alloc (.cells #[.string s] 9)).heap.size = w.heap.size + 1 := by simp
    have e2 : ((w.alloc (.cells #[.string s] 9)).alloc (.cells #[.int .i64 0, .string { data := #[] }, .int .i64 0, .int .i64 0, .string { data := #[] }, .int .i64 0] 40)).heap.size = w.heap.size + 1 + 1 := by simp
    rw [e1] at h1
    rw [e2] at h2
    exact ⟨((Blk.new w _ _).alloc _).alloc _, h1.alloc _, h2, hk0⟩
  clear hk0 hc hn
  go_enter Tryd.func39, Tryd.ntmps39
  go_wp2_with fail
  refine (HLT.out c _).mono ?_
  rintro e w1 ⟨rfl, hw1⟩
  rw [hw1] at HT0
  have s0 := HT0.out.1.cell 0
  have fs0 := HT0.out.1.free 0
  simp at s0
  obtain ⟨⟨r0, r1, r2, r3, r4, r5⟩, fr0, fr1, fr2, fr3, fr4, fr5⟩ := HT0.out.2.1.six
  obtain ⟨⟨t0, t1, t2, t3, t4, t5⟩, ft0, ft1, ft2, ft3, ft4, ft5⟩ := HT0.out.2.2.1.six
  clear hw1
  rw [hlet]
  clear hlet
  rw [HC.out] at h34
  obtain ⟨D, hDv⟩ : ∃ D, D = false := ⟨_, rfl⟩
  rw [← hDv] at hD
  have HDV := Lib.hid hDv
  clear hDv
  have HF := Lib.hid (digB_facts HN.out HC.out hD)
  clear hD
  go_upto_region 11 with fail
  go_cut [37] from 10 (fun b wx => b = .bool D ∧ ThreeT w wx s 0 { data := #[] })
  case first =>
    go_wp2_with fail
    refine (HDG.out c _).mono ?_
    rintro e w2 ⟨rfl, rfl⟩
    cases hd : digitV c with
    | true =>
      have hDD := Lib.hid (HF.out.1 hd)
      clear hd
      go_wp2_with fail
      go_meet
      exact ⟨congrArg Value.bool hDD.out.symm, HT0.out⟩
    | false =>
      by_cases h45 : c = 45
      · by_cases hk1 : 1 < n
        · have hix1 := fun w => IX.out 1 hk1 w
          have hDD := Lib.hid (HF.out.2.2.2 hd h45 (by omega))
          obtain ⟨d, hdd⟩ : ∃ d, byt s 1 = d := ⟨_, rfl⟩
          rw [show 0 + 1 = 1 by omega] at hDD
          rw [hdd] at hix1 hDD
          rw [show ((1 : Nat) : Int) = 1 from rfl] at hix1
          subst h45
          clear hdd hd
          have hk1' : decide ((1 : Int) < (n : Int)) = true := decide_eq_true (by omega)
          go_wp2_with fail
          refine (HDG.out d _).mono ?_
          rintro e w2 ⟨rfl, rfl⟩
          go_wp2_with fail
          go_meet
          exact ⟨congrArg Value.bool hDD.out.symm, HT0.out⟩
        · have hDD := Lib.hid (HF.out.2.2.1 hd (by omega))
          subst h45
          clear hd
          have hk1' : decide ((1 : Int) < (n : Int)) = false := decide_eq_false (by omega)
          go_wp2_with fail
          go_meet
          exact ⟨congrArg Value.bool hDD.out.symm, HT0.out⟩
      · have hDD := Lib.hid (HF.out.2.1 hd h45)
        have b45 : (c == 45) = false := by rw [beq_eq_false_iff_ne]; exact h45
        clear hd h45
        go_wp2_with fail
        go_meet
        exact ⟨congrArg Value.bool hDD.out.symm, HT0.out⟩
  case rest =>
  obtain ⟨rfl, hcut2⟩ := hcut
  have HTC := Lib.hid hcut2
  have hDv := HDV.out
  clear HDV HF
  subst hDv
  clear hcut2 HT0
  clear s0 fs0 r0 r1 r2 r3 r4 r5 fr0 fr1 fr2 fr3 fr4 fr5 t0 t1 t2 t3 t4 t5 ft0 ft1 ft2 ft3 ft4 ft5
  have s0 := HTC.out.1.cell 0
  have fs0 := HTC.out.1.free 0
  simp at s0
  obtain ⟨⟨r0, r1, r2, r3, r4, r5⟩, fr0, fr1, fr2, fr3, fr4, fr5⟩ := HTC.out.2.1.six
  obtain ⟨⟨t0, t1, t2, t3, t4, t5⟩, ft0, ft1, ft2, ft3, ft4, ft5⟩ := HTC.out.2.2.1.six
  have b34 : (c == 34) = false := by rw [beq_eq_false_iff_ne]; exact h34
  clear h34
  go_wp2_with fail
  refine (HSYM.out _).mono ?_
  rintro e w5 ⟨A, rfl, hA, hk5, hcs⟩
  have HT5 := Lib.hid (HTC.out.keep hk5)
  have HCS := Lib.hid hcs
  clear hk5 hcs
  clear s0 fs0 r0 r1 r2 r3 r4 r5 fr0 fr1 fr2 fr3 fr4 fr5 t0 t1 t2 t3 t4 t5 ft0 ft1 ft2 ft3 ft4 ft5
  have s0 := HT5.out.1.cell 0
  have fs0 := HT5.out.1.free 0
  simp at s0
  obtain ⟨⟨r0, r1, r2, r3, r4, r5⟩, fr0, fr1, fr2, fr3, fr4, fr5⟩ := HT5.out.2.1.six
  obtain ⟨⟨t0, t1, t2, t3, t4, t5⟩, ft0, ft1, ft2, ft3, ft4, ft5⟩ := HT5.out.2.2.1.six
  go_wp2_with fail
  refine (lindex_any s A _ w5 s0 HCS.out).mono ?_
  rintro e w6 ⟨r, rfl, hr, rfl⟩
  rcases hr with ⟨rfl, hno⟩ | ⟨i, rfl, hi, hp, hno⟩
  · have HE : Hid (wordO s 0 = none) := by show _ = _; rw [HW0.out, HN0.out hno]; rfl
    clear hno
    go_wp2_with fail
    have bF := Laid.six (x0 := .int .i64 0) (x1 := .string { data := #[] }) (x2 := .int .i64 0) (x3 := .int .i64 0) (x4 := .string { data := #[] }) (x5 := .int .i64 0) HT5.out.2.1
    have HKF := Lib.hid (Laid.kept1 (x0 := .int .i64 0) (x1 := .string { data := #[] }) (x2 := .int .i64 0) (x3 := .int .i64 0) (x4 := .string { data := #[] }) (x5 := .int .i64 0) HT5.out.2.2.2)
    obtain ⟨⟨g0, g1, g2, g3, g4, g5⟩, _⟩ := bF.six
    unfold Laid at g0 g1 g2 g3 g4 g5
    refine bodyPost_ret (v := .tuple #[.agg #[.int .i64 0, .string { data := #[] }, .int .i64 0, .int .i64 0, .string { data := #[] }, .int .i64 0], .bool false]) ?_ rfl (OnePost.no ⟨0, { data := #[] }, noV, 0⟩ HE.out HKF.out)
    simp [results, Tryd.results39, go_sem, g0, g1, g2, g3, g4, g5]
  · have HE : Hid (wordO s 0 = some ⟨4, symP.getD i ByteArray.empty, noV, (0 : Nat)⟩) := by show _ = _; rw [HW0.out, HF0.out i hi hp hno]; rfl
    have hx := HCS.out i hi
    obtain ⟨X, hX⟩ : ∃ X, symP.getD i ByteArray.empty = X := ⟨_, rfl⟩
    rw [hX] at HE hx
    clear hno hp hX
    go_wp2_with fail
    have bF := Laid.six (x0 := .int .i64 4) (x1 := .string X) (x2 := .int .i64 0) (x3 := .int .i64 0) (x4 := .string { data := #[] }) (x5 := .int .i64 0) HT5.out.2.1
    have HKF := Lib.hid (Laid.kept1 (x0 := .int .i64 4) (x1 := .string X) (x2 := .int .i64 0) (x3 := .int .i64 0) (x4 := .string { data := #[] }) (x5 := .int .i64 0) HT5.out.2.2.2)
    obtain ⟨⟨g0, g1, g2, g3, g4, g5⟩, _⟩ := bF.six
    unfold Laid at g0 g1 g2 g3 g4 g5
    refine bodyPost_ret (v := .tuple #[.agg #[.int .i64 4, .string X, .int .i64 0, .int .i64 0, .string { data := #[] }, .int .i64 0], .bool true]) ?_ rfl (OnePost.yes HE.out HKF.out)
    simp [results, Tryd.results39, go_sem, g0, g1, g2, g3, g4, g5]
theorem lword_any (s : ByteArray) (hk : 0 < s.size) (hs : s.size ≤ 17592186044416) (w : World) (hv : Vars w) : Calls Tryd.prog 39 #[.string s] w (OnePost w (wordO s 0)) := by
  cases hlet : letterV (byt s 0) with
  | true => exact lword_name s hk hs hlet w
  | false =>
    cases hD : digB s 0 with
    | true => exact lword_num s hk hs hlet hD w hv
    | false =>
      by_cases h34 : byt s 0 = 34
      · exact lword_str s hk hs hlet hD h34 w hv
      · exact lword_sym s hk hs hlet hD h34 w

end Go.Proofs.YtmkpbffjgpoplaaDoor

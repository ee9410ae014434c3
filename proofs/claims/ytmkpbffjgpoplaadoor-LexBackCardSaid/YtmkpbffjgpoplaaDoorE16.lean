/- The word with which a text begins: the program's: a name. -/
import Derived.Deep.DeepCutAuto
import Derived.Test.YtmkpbffjgpoplaaDoorRows
import Derived.WalkKit
import Derived.WalkSpells
import Derived.WalkLawsBesides
import Derived.Deep.QuietTactic
import Derived.BigQuiet
import Derived.Lib.Hide
import Derived.Lib.ConvBytes
import Derived.Deep.Slices
import Derived.ProofKit
import Derived.SizedLaws
import Derived.Test.YtmkpbffjgpoplaaDoorShelf
import Derived.Laws.BytesArg
import Derived.Laws.BitsLemmas
import Derived.Deep.RegionHeld3
import Derived.Deep.AppendLies
import Derived.Maps.AppendAt
import Derived.Lib.ItoaLen
import Derived.Laws.Runes
import Derived.Laws.Concat
import Derived.Laws.Cover4
import Derived.Lib.SmallJoins
import Derived.Laws.AppendOwnNone
import Derived.Test.YtmkpbffjgpoplaaDoorE13
import Derived.Test.YtmkpbffjgpoplaaDoorE6
set_option linter.unusedVariables false
set_option linter.unusedSimpArgs false
set_option linter.unnecessarySimpa false
namespace Go.Proofs.YtmkpbffjgpoplaaDoor
open Go.RowKit Go.Shelf
attribute [local go_sem] Oper.semAt_some

/-- The three blocks of word: the text's, the result's, the word's. -/
def ThreeT (w wx : World) (s : ByteArray) (K : Int) (T : ByteArray) : Prop := Blk wx w.heap.size #[.string s] 9 ∧ Blk wx (w.heap.size + 1) #[.int .i64 0, .string { data := #[] }, .int .i64 0, .int .i64 0, .string { data := #[] }, .int .i64 0] 40 ∧ Blk wx (w.heap.size + 1 + 1) #[.int .i64 K, .string T, .int .i64 0, .int .i64 0, .string { data := #[] }, .int .i64 0] 40 ∧ Kept [] w wx
theorem ThreeT.put {w wx : World} {s : ByteArray} {K : Int} {T : ByteArray} (h : ThreeT w wx s K T) (K' : Int) (T' : ByteArray) : ThreeT w (((wx.setCell ⟨w.heap.size + 1 + 1, 0, none⟩ (.int .i64 K')).setCell ⟨w.heap.size + 1 + 1, 1, none⟩ (.string T')).drew) s K' T' :=
  ⟨((h.1.set_other (by simp; omega) _).set_other (by simp; omega) _).drew, ((h.2.1.set_other (by simp) _).set_other (by simp) _).drew, ((h.2.2.1.set 0 _).set 1 _).drew, ((h.2.2.2.setCell (.inr (by simp; omega)) _).setCell (.inr (by simp; omega)) _).drew⟩
theorem ThreeT.keep {w wx wy : World} {s : ByteArray} {K : Int} {T : ByteArray} (h : ThreeT w wx s K T) (hk : Kept [] wx wy) : ThreeT w wy s K T := ⟨h.1.kept hk (by simp), h.2.1.kept hk (by simp), h.2.2.1.kept hk (by simp), h.2.2.2.trans hk⟩
theorem Laid.kept1 {w wx : World} {x0 x1 x2 x3 x4 x5 : Value} (h : Kept [] w wx) : Kept [] w (Laid wx (w.heap.size + 1) x0 x1 x2 x3 x4 x5) :=
  (((((h.setCell (.inr (Nat.le_succ _)) _).setCell (.inr (Nat.le_succ _)) _).setCell (.inr (Nat.le_succ _)) _).setCell (.inr (Nat.le_succ _)) _).setCell (.inr (Nat.le_succ _)) _).setCell (.inr (Nat.le_succ _)) _

set_option maxRecDepth 100000 in
set_option maxHeartbeats 4000000 in
theorem lword_name (s : ByteArray) (hk : 0 < s.size) (hs : s.size ≤ 17592186044416) (hlet : letterV (byt s 0) = true) (w : World) : Calls Tryd.prog 39 #[.string s] w (OnePost w (wordO s 0)) := by
  have HW := Lib.hid (wordO_name hlet)
  have hrb := runV_bd s true (k := 0) (by omega)
  have HRK : Hid (∀ W, Calls Tryd.prog 51 #[.string s, .func (.func 52) #[] #[]] W fun e w' => e = .returned (.int .i64 (runV s true 0)) ∧ W = w') := fun W => lrun_name s (by omega) W
  have HLT : Hid (∀ (z : Int) (W : World), Calls Tryd.prog 50 #[.int .u8 z] W fun e w' => e = .returned (.bool (letterV z)) ∧ W = w') := lletter
  have HDG : Hid (∀ (z : Int) (W : World), Calls Tryd.prog 53 #[.int .u8 z] W fun e w' => e = .returned (.bool (digitV z)) ∧ W = w') := ldigit
  have HNM : Hid (∀ (x : ByteArray) (W : World), x.size ≤ maxLen → Calls Tryd.prog 54 #[.string x] W fun e w' => e = .returned (.bool (nameV x)) ∧ Kept [] W w') := fun x W h => name_any x h W
  obtain ⟨n, hn⟩ : ∃ n, s.size = n := ⟨_, rfl⟩
  have IX := Lib.hid (fun k (h : k < n) w => index_at s k (by rw [hn]; exact h) w)
  have HN := Lib.hid hn
  have hl := len_at s hn
  have hix := fun w => IX.out 0 (by omega) w
  rw [show ((0 : Nat) : Int) = 0 from rfl] at hix
  obtain ⟨c, hc⟩ : ∃ c, byt s 0 = c := ⟨_, rfl⟩
  rw [hc] at hix hlet
  have HC := Lib.hid hc
  rw [hn] at hk hs
  have hk0 := (((Kept.refl [] w).alloc (.cells #[.string s] 9)).alloc (.cells #[.int .i64 0, .string { data := #[] }, .int .i64 0, .int .i64 0, .string { data := #[] }, .int .i64 0] 40)).alloc (.cells #[.int .i64 0, .string { data := #[] }, .int .i64 0, .int .i64 0, .string { data := #[] }, .int .i64 0] 40)
  have HT0 : Hid (ThreeT w (((w.alloc (.cells #[.string s] 9)).alloc (.cells #[.int .i64 0, .string { data := #[] }, .int .i64 0, .int .i64 0, .string { data := #[] }, .int .i64 0] 40)).alloc (.cells #[.int .i64 0, .string { data := #[] }, .int .i64 0, .int .i64 0, .string { data := #[] }, .int .i64 0] 40)) s 0 { data := #[] }) := by
    have h1 := Blk.new (w.alloc (.cells #[.string s] 9)) #[.int .i64 0, .string { data := #[] }, .int .i64 0, .int .i64 0, .string { data := #[] }, .int .i64 0] 40
    have h2 := Blk.new ((w.alloc (.cells #[.string s] 9)).alloc (.cells #[.int .i64 0, .string { data := #[] }, .int .i64 0, .int .i64 0, .string { data := #[] }, .int .i64 0] 40)) #[.int .i64 0, .string { data := #[] }, .int .i64 0, .int .i64 0, .string { data := #[] }, .int .i64 0] 40
    have e1 : (w.alloc (.cells #[.string s] 9)).heap.size = w.heap.size + 1 := by simp
    have e2 : ((w.alloc (.cells #[.string s] 9)).alloc (.cells #[.int .i64 0, .string { data := #[] }, .int .i64 0, .int .i64 0, .string { data := #[] }, .int .i64 0] 40)).heap.size = w.heap.size + 1 + 1 := by simp
    rw [e1] at h1
    rw [e2] at h2
    exact ⟨((Blk.new w _ _).alloc _).alloc _, h1.alloc _, h2, hk0⟩
  clear hk0 hc hn
  go_enter Tryd.func39, Tryd.ntmps39
  go_wp2_with fail
  refine (HLT.out c _).mono ?_
  rintro e w1 ⟨rfl, hw1⟩
  rw [hw1] at HT0
  have s0 := HT0.out.1.cell 0
  have fs0 := HT0.out.1.free 0
  simp at s0
  obtain ⟨⟨r0, r1, r2, r3, r4, r5⟩, fr0, fr1, fr2, fr3, fr4, fr5⟩ := HT0.out.2.1.six
  obtain ⟨⟨t0, t1, t2, t3, t4, t5⟩, ft0, ft1, ft2, ft3, ft4, ft5⟩ := HT0.out.2.2.1.six
  clear hw1
  rw [hlet]
  clear hlet
  obtain ⟨e1, he1⟩ : ∃ e1, runV s true 0 = e1 := ⟨_, rfl⟩
  rw [he1] at hrb HRK HW
  have hr2 : (e1 : Int) ≤ (s.size : Int) := by omega
  have HSZ : Hid ((s.extract 0 e1).size ≤ maxLen) := by show _ ≤ _; rw [size_extract s 0 e1 hrb.1 hrb.2]; unfold maxLen; have := HN.out; omega
  go_upto_region 9 with fail
  go_cut [] from 10 (fun wx => ThreeT w wx s 1 (s.extract 0 e1))
  case first =>
    go_region_with (go_at_call 51; refine (HRK.out _).mono ?_; rintro e w2 ⟨rfl, rfl⟩)
    all_goals
      go_wp2_with fail
      go_meet
      exact HT0.out.put _ _
  case rest =>
    have HT2 := Lib.hid hcut
    clear hcut
    clear s0 fs0 r0 r1 r2 r3 r4 r5 fr0 fr1 fr2 fr3 fr4 fr5 t0 t1 t2 t3 t4 t5 ft0 ft1 ft2 ft3 ft4 ft5
    have s0 := HT2.out.1.cell 0
    have fs0 := HT2.out.1.free 0
    simp at s0
    obtain ⟨⟨r0, r1, r2, r3, r4, r5⟩, fr0, fr1, fr2, fr3, fr4, fr5⟩ := HT2.out.2.1.six
    obtain ⟨⟨t0, t1, t2, t3, t4, t5⟩, ft0, ft1, ft2, ft3, ft4, ft5⟩ := HT2.out.2.2.1.six
    obtain ⟨T, hT⟩ : ∃ T, s.extract 0 e1 = T := ⟨_, rfl⟩
    rw [hT] at HT2 HSZ HW
    rw [hT] at t1
    go_upto_region 10 with fail
    go_cut [3] from 10 (fun x3 wx => x3 = .bool (nameV T) ∧ Blk wx (w.heap.size + 1) #[.int .i64 1, .string T, .int .i64 0, .int .i64 0, .string { data := #[] }, .int .i64 0] 40 ∧ Kept [] w wx)
    case first =>
      go_region_with (go_at_call 54; refine (HNM.out T _ HSZ.out).mono ?_; rintro e w2 ⟨rfl, hk2⟩; have HT4 := Lib.hid (HT2.out.keep (Kept.trans (by first | exact (Kept.refl [] _).drew | exact Kept.refl [] _) hk2)); clear hk2; obtain ⟨⟨q0, q1, q2, q3, q4, q5⟩, fq0, fq1, fq2, fq3, fq4, fq5⟩ := HT4.out.2.1.six; obtain ⟨⟨p0, p1, p2, p3, p4, p5⟩, fp0, fp1, fp2, fp3, fp4, fp5⟩ := HT4.out.2.2.1.six)
      all_goals
        go_wp2_with fail
        go_meet
        exact ⟨rfl, Laid.six HT4.out.2.1, Laid.kept1 HT4.out.2.2.2⟩
    case rest =>
      obtain ⟨rfl, hb, hk⟩ := hcut
      obtain ⟨⟨g0, g1, g2, g3, g4, g5⟩, _⟩ := hb.six
      clear s0 fs0 r0 r1 r2 r3 r4 r5 fr0 fr1 fr2 fr3 fr4 fr5 t0 t1 t2 t3 t4 t5 ft0 ft1 ft2 ft3 ft4 ft5
      clear hb
      cases hnv : nameV T with
      | true =>
        have HE := Lib.hid (HW.out.trans (if_pos hnv))
        have HK := Lib.hid hk
        clear hk hnv
        go_wp2_with fail
        refine bodyPost_ret (v := .tuple #[.agg #[.int .i64 1, .string T, .int .i64 0, .int .i64 0, .string { data := #[] }, .int .i64 0], .bool true]) ?_ rfl (OnePost.yes HE.out HK.out)
        simp [results, Tryd.results39, go_sem, g0, g1, g2, g3, g4, g5]
      | false =>
        have HE := Lib.hid (HW.out.trans (if_neg (by rw [hnv]; simp)))
        have HK := Lib.hid hk
        clear hk hnv
        go_wp2_with fail
        refine bodyPost_ret (v := .tuple #[.agg #[.int .i64 1, .string T, .int .i64 0, .int .i64 0, .string { data := #[] }, .int .i64 0], .bool false]) ?_ rfl (OnePost.no ⟨1, T, noV, 0⟩ HE.out HK.out)
        simp [results, Tryd.results39, go_sem, g0, g1, g2, g3, g4, g5]

end Go.Proofs.YtmkpbffjgpoplaaDoor

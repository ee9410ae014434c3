/- The word behind blanks from a place on: the program's. -/
import Derived.Deep.DeepCutAuto
import Derived.Test.YtmkpbffjgpoplaaDoorRows
import Derived.WalkKit
import Derived.WalkSpells
import Derived.WalkLawsBesides
import Derived.Deep.QuietTactic
import Derived.BigQuiet
import Derived.Lib.Hide
import Derived.Lib.ConvBytes
import Derived.Deep.Slices
import Derived.ProofKit
import Derived.SizedLaws
import Derived.Test.YtmkpbffjgpoplaaDoorShelf
import Derived.Laws.BytesArg
import Derived.Laws.BitsLemmas
import Derived.Deep.RegionHeld3
import Derived.Deep.AppendLies
import Derived.Maps.AppendAt
import Derived.Lib.ItoaLen
import Derived.Laws.Runes
import Derived.Laws.Concat
import Derived.Laws.Cover4
import Derived.Lib.SmallJoins
import Derived.Laws.AppendOwnNone
import Derived.Test.YtmkpbffjgpoplaaDoorE19
set_option linter.unusedVariables false
set_option linter.unusedSimpArgs false
set_option linter.unnecessarySimpa false
namespace Go.Proofs.YtmkpbffjgpoplaaDoor
open Go.RowKit Go.Shelf
attribute [local go_sem] Oper.semAt_some

/-- The word behind blanks from k on. -/
noncomputable def nextO (s : ByteArray) (k : Nat) : Option TokD := if blankV s k < s.size then wordO s (blankV s k) else none
def NextPost (w : World) (s : ByteArray) (k : Nat) (e : Ending) (w' : World) : Prop := ∃ t x b, e = .returned (.tuple #[tokV t, .int .i64 x, .bool b]) ∧ (match nextO s k with | some y => b = true ∧ t = y ∧ x = (blankV s k : Int) + (y.text.size : Int) | none => b = false) ∧ Kept [] w w'
theorem NextPost.no {w w' : World} {s : ByteArray} {k : Nat} (t : TokD) (x : Int) (h : nextO s k = none) (hk : Kept [] w w') : NextPost w s k (.returned (.tuple #[tokV t, .int .i64 x, .bool false])) w' := ⟨t, x, false, rfl, by rw [h], hk⟩
theorem NextPost.yes {w w' : World} {s : ByteArray} {k : Nat} {t : TokD} {x : Int} (h : nextO s k = some t) (hx : x = (blankV s k : Int) + (t.text.size : Int)) (hk : Kept [] w w') : NextPost w s k (.returned (.tuple #[tokV t, .int .i64 x, .bool true])) w' := ⟨t, x, true, rfl, by rw [h]; exact ⟨rfl, rfl, hx⟩, hk⟩

set_option maxRecDepth 100000 in
set_option maxHeartbeats 4000000 in
theorem lnext_any (s : ByteArray) (k : Nat) (hk : k ≤ s.size) (hs : s.size ≤ 17592186044416) (w : World) (hv : Vars w) : Calls Tryd.prog 26 #[.string s, .int .i64 k] w (NextPost w s k) := by
  have HBK : Hid (∀ W, Calls Tryd.prog 15 #[.string s, .int .i64 k] W fun e w' => e = .returned (.int .i64 (blankV s k)) ∧ W = w') := fun W => lBlank_in s k hk (by omega) W
  have HWD : Hid (∀ (x : ByteArray) W, 0 < x.size → x.size ≤ 17592186044416 → Kept [] w W → Calls Tryd.prog 39 #[.string x] W (OnePost W (wordO x 0))) := fun x W h1 h2 hk => lword_any x h1 h2 W (hv.keep hk)
  have hab := blankV_bd s hk
  obtain ⟨n, hn⟩ : ∃ n, s.size = n := ⟨_, rfl⟩
  have HN := Lib.hid hn
  have hl := len_at s hn
  have HK0 := Lib.hid ((Kept.refl [] w).alloc (.cells #[.int .i64 0, .string { data := #[] }, .int .i64 0, .int .i64 0, .string { data := #[] }, .int .i64 0] 40))
  have HR0 := Lib.hid (Blk.new w #[.int .i64 0, .string { data := #[] }, .int .i64 0, .int .i64 0, .string { data := #[] }, .int .i64 0] 40)
  have HNO : Hid (∀ o, (blankV s k < s.size → wordO s (blankV s k) = o) → (¬ blankV s k < s.size → o = none) → nextO s k = o) := fun o h1 h2 => by
    unfold nextO
    split
    · rename_i h; exact h1 h
    · rename_i h; exact (h2 h).symm
  obtain ⟨a, ha⟩ : ∃ a, blankV s k = a := ⟨_, rfl⟩
  have HA := Lib.hid ha
  rw [ha] at HBK hab HNO
  rw [hn] at hk hs hab
  clear hv hn ha
  go_enter Tryd.func26, Tryd.ntmps26
  go_wp2_with fail
  refine (HBK.out _).mono ?_
  rintro e w1 ⟨rfl, hw1⟩
  rw [hw1] at HK0 HR0
  have HR := HR0
  obtain ⟨⟨r0, r1, r2, r3, r4, r5⟩, fr0, fr1, fr2, fr3, fr4, fr5⟩ := HR.out.six
  clear hw1
  by_cases hlt : a < n
  · have hge : decide ((n : Int) ≤ (a : Int)) = false := decide_eq_false (by omega)
    have hge2 : decide (n ≤ a) = false := decide_eq_false (by omega)
    have has : (a : Int) ≤ (s.size : Int) := by rw [HN.out]; omega
    have HWF := Lib.hid (wordO_from s (k := a) (by rw [HN.out]; exact hlt))
    have HXZ := Lib.hid (size_from s (k := a) (by rw [HN.out]; omega))
    go_wp2_with fail
    refine (HWD.out _ _ (by rw [HXZ.out, HN.out]; omega) (by rw [HXZ.out, HN.out]; omega) HK0.out).mono ?_
    rintro e w5 ⟨⟨K, T, ⟨v1, v2, v3⟩, pl⟩, b, rfl, hm, hk5⟩
    have HM := Lib.hid hm
    have HK5 := Lib.hid (HK0.out.trans hk5)
    have HR5 := Lib.hid (HR0.out.kept hk5 (by simp))
    clear hm hk5 r0 r1 r2 r3 r4 r5 fr0 fr1 fr2 fr3 fr4 fr5
    simp only [tokV]
    go_upto_region 5 with fail
    obtain ⟨wy, hwy⟩ : ∃ wy, w5.alloc (.cells #[.int .i64 K, .string T, .int .i64 v1, .int .i64 v2, .string v3, .int .i64 pl] 40) = wy := ⟨_, rfl⟩
    have HR6 : Hid (Blk wy w.heap.size #[.int .i64 0, .string { data := #[] }, .int .i64 0, .int .i64 0, .string { data := #[] }, .int .i64 0] 40) := by show Blk _ _ _ _; rw [← hwy]; exact HR5.out.alloc _
    have HT6 : Hid (Blk wy w5.heap.size #[.int .i64 K, .string T, .int .i64 v1, .int .i64 v2, .string v3, .int .i64 pl] 40) := by show Blk _ _ _ _; rw [← hwy]; exact Blk.new w5 _ _
    have HK6 : Hid (Kept [] w wy) := by show Kept _ _ _; rw [← hwy]; exact HK5.out.alloc _
    have hlt5 : w.heap.size < w5.heap.size := HR5.out.lt
    rw [hwy]
    clear hwy
    obtain ⟨⟨t0, t1, t2, t3, t4, t5⟩, ft0, ft1, ft2, ft3, ft4, ft5⟩ := HT6.out.six
    go_upto_region 6 with fail
    obtain ⟨wz, hwz⟩ : ∃ wz, wy.setCell ⟨w5.heap.size, 5, none⟩ (.int .i64 a) = wz := ⟨_, rfl⟩
    have HR7 : Hid (Blk wz w.heap.size #[.int .i64 0, .string { data := #[] }, .int .i64 0, .int .i64 0, .string { data := #[] }, .int .i64 0] 40) := by show Blk _ _ _ _; rw [← hwz]; exact HR6.out.set_other (by simp; omega) _
    have HT7 : Hid (Blk wz w5.heap.size #[.int .i64 K, .string T, .int .i64 v1, .int .i64 v2, .string v3, .int .i64 a] 40) := by show Blk _ _ _ _; rw [← hwz]; exact HT6.out.set 5 _
    have HK7 : Hid (Kept [] w wz) := by show Kept _ _ _; rw [← hwz]; exact HK6.out.setCell (.inr (by simp; omega)) _
    rw [hwz]
    clear hwz t0 t1 t2 t3 t4 t5 ft0 ft1 ft2 ft3 ft4 ft5
    obtain ⟨⟨t0, t1, t2, t3, t4, t5⟩, ft0, ft1, ft2, ft3, ft4, ft5⟩ := HT7.out.six
    have HR := HR7
    obtain ⟨⟨r0, r1, r2, r3, r4, r5⟩, fr0, fr1, fr2, fr3, fr4, fr5⟩ := HR.out.six
    have hlT := len_at T rfl
    go_cut [5, 6] from 9 (fun x5 x6 wx => (∃ x, x5 = .int .i64 x ∧ (b = true → x = (a : Int) + (T.size : Int))) ∧ x6 = .bool b ∧ Blk wx w.heap.size #[.int .i64 K, .string T, .int .i64 v1, .int .i64 v2, .string v3, .int .i64 a] 40 ∧ Kept [] w wx)
    case first =>
      have HB : Hid (b = true → T.size ≤ 17592186044416) := fun hb => by
        have hm := HM.out
        cases ho : wordO (s.extract a s.size) 0 with
        | none => rw [ho] at hm; simp only at hm; rw [hm] at hb; cases hb
        | some y =>
          rw [ho] at hm
          simp only at hm
          have ht := wordO_text (s := s.extract a s.size) (k := 0) (by rw [HXZ.out, HN.out]; omega) ho
          rw [HXZ.out, HN.out] at ht
          have e : T.size = y.text.size := by rw [← hm.2]
          omega
      go_region
      all_goals
        go_wp2_with fail
        go_meet
        exact ⟨⟨_, rfl, fun hb => by have := HB.out hb; first | rfl | (unfold IntKind.wrap; simp [IntKind.signed, IntKind.bits]; omega) | (unfold wrap64; omega)⟩, rfl, (Laid.six HR7.out).drew, (Laid.kept HK7.out).drew⟩
    case rest =>
      obtain ⟨⟨x, rfl, hx⟩, rfl, hb, hk⟩ := hcut
      obtain ⟨⟨g0, g1, g2, g3, g4, g5⟩, _⟩ := hb.six
      clear r0 r1 r2 r3 r4 r5 fr0 fr1 fr2 fr3 fr4 fr5 t0 t1 t2 t3 t4 t5 ft0 ft1 ft2 ft3 ft4 ft5 hb hlT
      have HKX := Lib.hid hk
      have HX := Lib.hid hx
      clear hk hx
      cases b with
      | true =>
        have HE : Hid (nextO s k = some ⟨K, T, (v1, v2, v3), a⟩) := HNO.out _ (fun _ => by
          have hm := HM.out
          rw [HWF.out]
          cases ho : wordO (s.extract a s.size) 0 with
          | none => rw [ho] at hm; simp at hm
          | some y => rw [ho] at hm; simp only at hm; rw [← hm.2]; rfl) (fun h => absurd (by rw [HN.out]; exact hlt) h)
        have HXE : Hid (x = (blankV s k : Int) + (T.size : Int)) := by show _ = _; rw [HA.out]; exact HX.out rfl
        go_wp2_with fail
        refine bodyPost_ret (v := .tuple #[.agg #[.int .i64 K, .string T, .int .i64 v1, .int .i64 v2, .string v3, .int .i64 a], .int .i64 x, .bool true]) ?_ rfl (NextPost.yes HE.out HXE.out HKX.out)
        simp [results, Tryd.results26, go_sem, g0, g1, g2, g3, g4, g5]
      | false =>
        have HE : Hid (nextO s k = none) := HNO.out _ (fun _ => by
          have hm := HM.out
          rw [HWF.out]
          cases ho : wordO (s.extract a s.size) 0 with
          | none => rfl
          | some y => rw [ho] at hm; simp at hm) (fun _ => rfl)
        go_wp2_with fail
        refine bodyPost_ret (v := .tuple #[.agg #[.int .i64 K, .string T, .int .i64 v1, .int .i64 v2, .string v3, .int .i64 a], .int .i64 x, .bool false]) ?_ rfl (NextPost.no ⟨K, T, (v1, v2, v3), a⟩ x HE.out HKX.out)
        simp [results, Tryd.results26, go_sem, g0, g1, g2, g3, g4, g5]
  · have hge : decide ((n : Int) ≤ (a : Int)) = true := decide_eq_true (by omega)
    have hge2 : decide (n ≤ a) = true := decide_eq_true (by omega)
    have HE := Lib.hid (HNO.out none (fun h => absurd h (by rw [HN.out]; exact hlt)) (fun _ => rfl))
    go_wp2_with fail
    have bF := Laid.six (x0 := .int .i64 0) (x1 := .string { data := #[] }) (x2 := .int .i64 0) (x3 := .int .i64 0) (x4 := .string { data := #[] }) (x5 := .int .i64 a) HR0.out
    have HKF := Lib.hid (Laid.kept (x0 := .int .i64 0) (x1 := .string { data := #[] }) (x2 := .int .i64 0) (x3 := .int .i64 0) (x4 := .string { data := #[] }) (x5 := .int .i64 a) HK0.out)
    obtain ⟨⟨g0, g1, g2, g3, g4, g5⟩, _⟩ := bF.six
    unfold Laid at g0 g1 g2 g3 g4 g5
    refine bodyPost_ret (v := .tuple #[.agg #[.int .i64 0, .string { data := #[] }, .int .i64 0, .int .i64 0, .string { data := #[] }, .int .i64 a], .int .i64 a, .bool false]) ?_ rfl (NextPost.no ⟨0, { data := #[] }, noV, a⟩ a HE.out HKF.out)
    simp [results, Tryd.results26, go_sem, g0, g1, g2, g3, g4, g5]

end Go.Proofs.YtmkpbffjgpoplaaDoor

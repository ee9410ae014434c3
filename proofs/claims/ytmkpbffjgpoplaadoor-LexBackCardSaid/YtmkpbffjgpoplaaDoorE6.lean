/- The word at a place: the document's: a name. -/
import Derived.Deep.DeepCutAuto
import Derived.Test.YtmkpbffjgpoplaaDoorRows
import Derived.WalkKit
import Derived.WalkSpells
import Derived.WalkLawsBesides
import Derived.Deep.QuietTactic
import Derived.BigQuiet
import Derived.Lib.Hide
import Derived.Lib.ConvBytes
import Derived.Deep.Slices
import Derived.ProofKit
import Derived.SizedLaws
import Derived.Test.YtmkpbffjgpoplaaDoorShelf
import Derived.Laws.BytesArg
import Derived.Laws.BitsLemmas
import Derived.Deep.RegionHeld3
import Derived.Deep.AppendLies
import Derived.Maps.AppendAt
import Derived.Lib.ItoaLen
import Derived.Laws.Runes
import Derived.Laws.Concat
import Derived.Laws.Cover4
import Derived.Lib.SmallJoins
import Derived.Test.YtmkpbffjgpoplaaDoorD6
import Derived.Test.YtmkpbffjgpoplaaDoorE2
import Derived.Test.YtmkpbffjgpoplaaDoorE5
set_option linter.unusedVariables false
set_option linter.unusedSimpArgs false
set_option linter.unnecessarySimpa false
namespace Go.Proofs.YtmkpbffjgpoplaaDoor
open Go.RowKit Go.Shelf
attribute [local go_sem] Oper.semAt_some

def tokC (t : TokD) : List Value := [.int .i64 t.kind, .string t.text, .int .i64 t.val.1, .int .i64 t.val.2.1, .string t.val.2.2, .int .i64 t.place]
def tokV (t : TokD) : Value := .agg #[.int .i64 t.kind, .string t.text, .int .i64 t.val.1, .int .i64 t.val.2.1, .string t.val.2.2, .int .i64 t.place]
theorem Blk.six {w : World} {B : Nat} {x0 x1 x2 x3 x4 x5 : Value} {t : TypeId} (h : Blk w B #[x0, x1, x2, x3, x4, x5] t) : (w.cell? ⟨B, 0, none⟩ = some x0 ∧ w.cell? ⟨B, 1, none⟩ = some x1 ∧ w.cell? ⟨B, 2, none⟩ = some x2 ∧ w.cell? ⟨B, 3, none⟩ = some x3 ∧ w.cell? ⟨B, 4, none⟩ = some x4 ∧ w.cell? ⟨B, 5, none⟩ = some x5) ∧
    (w.frozen? ⟨B, 0, none⟩ = false ∧ w.frozen? ⟨B, 1, none⟩ = false ∧ w.frozen? ⟨B, 2, none⟩ = false ∧ w.frozen? ⟨B, 3, none⟩ = false ∧ w.frozen? ⟨B, 4, none⟩ = false ∧ w.frozen? ⟨B, 5, none⟩ = false) :=
  ⟨⟨h.cell 0, h.cell 1, h.cell 2, h.cell 3, h.cell 4, h.cell 5⟩, ⟨h.free 0, h.free 1, h.free 2, h.free 3, h.free 4, h.free 5⟩⟩
/-- What one hands back. -/
def OnePost (w : World) (o : Option TokD) (e : Ending) (w' : World) : Prop := ∃ t b, e = .returned (.tuple #[tokV t, .bool b]) ∧ (match o with | some x => b = true ∧ t = x | none => b = false) ∧ Kept [] w w'
theorem OnePost.yes {w w' : World} {o : Option TokD} {t : TokD} (h : o = some t) (hk : Kept [] w w') : OnePost w o (.returned (.tuple #[tokV t, .bool true])) w' := ⟨t, true, rfl, by rw [h]; exact ⟨rfl, rfl⟩, hk⟩
theorem OnePost.no {w w' : World} {o : Option TokD} (t : TokD) (h : o = none) (hk : Kept [] w w') : OnePost w o (.returned (.tuple #[tokV t, .bool false])) w' := ⟨t, false, rfl, by rw [h], hk⟩
/-- The two blocks of one: the result's and the word's. -/
def TwoT (w wx : World) (K : Int) (T : ByteArray) (k : Int) : Prop := Blk wx w.heap.size #[.int .i64 0, .string { data := #[] }, .int .i64 0, .int .i64 0, .string { data := #[] }, .int .i64 0] 40 ∧ Blk wx (w.heap.size + 1) #[.int .i64 K, .string T, .int .i64 0, .int .i64 0, .string { data := #[] }, .int .i64 k] 40 ∧ Kept [] w wx
theorem TwoT.put {w wx : World} {K : Int} {T : ByteArray} {k : Int} (h : TwoT w wx K T k) (K' : Int) (T' : ByteArray) : TwoT w (((wx.setCell ⟨w.heap.size + 1, 0, none⟩ (.int .i64 K')).setCell ⟨w.heap.size + 1, 1, none⟩ (.string T')).drew) K' T' k :=
  ⟨((h.1.set_other (by simp) _).set_other (by simp) _).drew, ((h.2.1.set 0 _).set 1 _).drew, ((h.2.2.setCell (.inr (Nat.le_succ _)) _).setCell (.inr (Nat.le_succ _)) _).drew⟩
theorem TwoT.keep {w wx wy : World} {K : Int} {T : ByteArray} {k : Int} (h : TwoT w wx K T k) (hk : Kept [] wx wy) : TwoT w wy K T k := ⟨h.1.kept hk (by simp), h.2.1.kept hk (by simp), h.2.2.trans hk⟩
/-- The whole word laid into the result's block. -/
def Laid (wx : World) (B : Nat) (x0 x1 x2 x3 x4 x5 : Value) : World := (((((wx.setCell ⟨B, 0, none⟩ x0).setCell ⟨B, 1, none⟩ x1).setCell ⟨B, 2, none⟩ x2).setCell ⟨B, 3, none⟩ x3).setCell ⟨B, 4, none⟩ x4).setCell ⟨B, 5, none⟩ x5
theorem Laid.six {wx : World} {B : Nat} {x0 x1 x2 x3 x4 x5 : Value} (h : Blk wx B #[.int .i64 0, .string { data := #[] }, .int .i64 0, .int .i64 0, .string { data := #[] }, .int .i64 0] 40) : Blk (Laid wx B x0 x1 x2 x3 x4 x5) B #[x0, x1, x2, x3, x4, x5] 40 := by
  have h6 := (((((h.set 0 x0).set 1 x1).set 2 x2).set 3 x3).set 4 x4).set 5 x5
  exact h6
theorem Laid.kept {w wx : World} {x0 x1 x2 x3 x4 x5 : Value} (h : Kept [] w wx) : Kept [] w (Laid wx w.heap.size x0 x1 x2 x3 x4 x5) :=
  (((((h.setCell (.inr (Nat.le_refl _)) _).setCell (.inr (Nat.le_refl _)) _).setCell (.inr (Nat.le_refl _)) _).setCell (.inr (Nat.le_refl _)) _).setCell (.inr (Nat.le_refl _)) _).setCell (.inr (Nat.le_refl _)) _
/-- A number begins at k. -/
def digB (s : ByteArray) (k : Nat) : Bool := digitV (byt s k) || (decide (byt s k = 45) && (decide (k + 1 < s.size) && digitV (byt s (k + 1))))
theorem digB_iff (s : ByteArray) (k : Nat) : (digitV (byt s k) = true ∨ (byt s k = 45 ∧ k + 1 < s.size ∧ digitV (byt s (k + 1)) = true)) ↔ digB s k = true := by
  unfold digB
  simp
theorem digB_facts {s : ByteArray} {k n : Nat} {c : Int} {D : Bool} (hn : s.size = n) (hc : byt s k = c) (hd : digB s k = D) : (digitV c = true → D = true) ∧ (digitV c = false → c ≠ 45 → D = false) ∧ (digitV c = false → ¬ k + 1 < n → D = false) ∧ (digitV c = false → c = 45 → k + 1 < n → D = digitV (byt s (k + 1))) := by
  rw [← hd]
  unfold digB
  rw [hc, hn]
  refine ⟨fun h => by simp [h], fun h h2 => by simp [h, h2], fun h h2 => by simp [h]; omega, fun h h2 h3 => by subst h2; simp [h, h3]⟩
theorem wordO_name {s : ByteArray} {k : Nat} (h : letterV (byt s k) = true) : wordO s k = if nameV (s.extract k (runV s true k)) = true then some ⟨1, s.extract k (runV s true k), noV, k⟩ else none := by
  unfold wordO; rw [if_pos h]
theorem wordO_num {s : ByteArray} {k : Nat} (h : letterV (byt s k) = false) (hd : digB s k = true) : wordO s k = if (parseV (s.extract k (runV s false (k + 1)))).2 = true then some ⟨2, s.extract k (runV s false (k + 1)), (parseV (s.extract k (runV s false (k + 1)))).1, k⟩ else none := by
  unfold wordO; rw [if_neg (by rw [h]; simp), if_pos ((digB_iff s k).2 hd)]
theorem wordO_str {s : ByteArray} {k : Nat} (h : letterV (byt s k) = false) (hd : digB s k = false) (h34 : byt s k = 34) : wordO s k = (match closGo s (s.size - (k + 1)) (k + 1) with
    | none => none
    | some e => if (parseV (s.extract k e)).2 = true then some ⟨3, s.extract k e, (parseV (s.extract k e)).1, k⟩ else none) := by
  unfold wordO; rw [if_neg (by rw [h]; simp), if_neg (by rw [digB_iff, hd]; simp), if_pos h34] <;> rfl
theorem wordO_sym {s : ByteArray} {k : Nat} (h : letterV (byt s k) = false) (hd : digB s k = false) (h34 : byt s k ≠ 34) : wordO s k = if k + 1 < s.size ∧ sym2 (byt s k) (byt s (k + 1)) = true then some ⟨4, s.extract k (k + 2), noV, k⟩
  else if sym1 (byt s k) = true then some ⟨4, s.extract k (k + 1), noV, k⟩
  else none := by
  unfold wordO; rw [if_neg (by rw [h]; simp), if_neg (by rw [digB_iff, hd]; simp), if_neg h34]

set_option maxRecDepth 100000 in
set_option maxHeartbeats 4000000 in
theorem rone_name (s : ByteArray) (k : Nat) (hk : k < s.size) (hs : s.size ≤ 17592186044416) (hlet : letterV (byt s k) = true) (w : World) : Calls Tryd.prog 24 #[.string s, .int .i64 k] w (OnePost w (wordO s k)) := by
  have HW := Lib.hid (wordO_name hlet)
  have hrb := runV_bd s true (k := k) (by omega)
  have HLT : Hid (∀ (z : Int) (W : World), Calls Tryd.prog 33 #[.int .u8 z] W fun e w' => e = .returned (.bool (letterV z)) ∧ W = w') := rletter05
  have HPR : Hid (∀ (x : ByteArray) (W : World), x.size ≤ 17592186044416 → Calls Tryd.prog 38 #[.string x] W (ParsePost W x)) := fun x W h => rparse_any x h W
  have HNM : Hid (∀ (x : ByteArray) (W : World), x.size ≤ maxLen → Calls Tryd.prog 35 #[.string x] W fun e w' => e = .returned (.bool (nameV x)) ∧ W = w') := fun x W h => rname_any x h W
  have HDG : Hid (∀ (z : Int) (W : World), Calls Tryd.prog 36 #[.int .u8 z] W fun e w' => e = .returned (.bool (digitV z)) ∧ W = w') := rdigit05
  have HSY : Hid (∀ (x : ByteArray) (W : World), Calls Tryd.prog 18 #[.string x] W fun e w' => e = .returned (.bool (symV x)) ∧ Kept [] W w') := rSymbol_any
  have HCL : Hid (∀ (W : World), Calls Tryd.prog 37 #[.string s, .int .i64 k] W (ClosPost W (closGo s (s.size - (k + 1)) (k + 1)))) := fun W => rcloses_any s k hk (by omega) W
  have HRN : Hid (∀ (j : Nat) (l : Bool) (W : World), j ≤ s.size → Calls Tryd.prog 34 #[.string s, .int .i64 j, .bool l] W fun e w' => e = .returned (.int .i64 (runV s l j)) ∧ W = w') := fun j l W h => rrun_any s j l h (by omega) W
  obtain ⟨n, hn⟩ : ∃ n, s.size = n := ⟨_, rfl⟩
  have IX := Lib.hid (fun k (h : k < n) w => index_at s k (by rw [hn]; exact h) w)
  have HN := Lib.hid hn
  have hl := len_at s hn
  have hix := fun w => IX.out k (by omega) w
  obtain ⟨c, hc⟩ : ∃ c, byt s k = c := ⟨_, rfl⟩
  rw [hc] at hix hlet
  have HC := Lib.hid hc
  rw [hn] at hk hs
  have hks : (k : Int) ≤ (s.size : Int) := by omega
  have hk0 := ((Kept.refl [] w).alloc (.cells #[.int .i64 0, .string { data := #[] }, .int .i64 0, .int .i64 0, .string { data := #[] }, .int .i64 0] 40)).alloc (.cells #[.int .i64 0, .string { data := #[] }, .int .i64 0, .int .i64 0, .string { data := #[] }, .int .i64 k] 40)
  have HK0 := Lib.hid hk0
  have HBB : Hid (Blk ((w.alloc (.cells #[.int .i64 0, .string { data := #[] }, .int .i64 0, .int .i64 0, .string { data := #[] }, .int .i64 0] 40)).alloc (.cells #[.int .i64 0, .string { data := #[] }, .int .i64 0, .int .i64 0, .string { data := #[] }, .int .i64 k] 40)) w.heap.size #[.int .i64 0, .string { data := #[] }, .int .i64 0, .int .i64 0, .string { data := #[] }, .int .i64 0] 40 ∧ Blk ((w.alloc (.cells #[.int .i64 0, .string { data := #[] }, .int .i64 0, .int .i64 0, .string { data := #[] }, .int .i64 0] 40)).alloc (.cells #[.int .i64 0, .string { data := #[] }, .int .i64 0, .int .i64 0, .string { data := #[] }, .int .i64 k] 40)) (w.heap.size + 1) #[.int .i64 0, .string { data := #[] }, .int .i64 0, .int .i64 0, .string { data := #[] }, .int .i64 k] 40) := by
    have hb := Blk.new (w.alloc (.cells #[.int .i64 0, .string { data := #[] }, .int .i64 0, .int .i64 0, .string { data := #[] }, .int .i64 0] 40)) #[.int .i64 0, .string { data := #[] }, .int .i64 0, .int .i64 0, .string { data := #[] }, .int .i64 k] 40
    have e : (w.alloc (.cells #[.int .i64 0, .string { data := #[] }, .int .i64 0, .int .i64 0, .string { data := #[] }, .int .i64 0] 40)).heap.size = w.heap.size + 1 := by simp
    rw [e] at hb
    exact ⟨(Blk.new w _ _).alloc _, hb⟩
  clear hk0 hc
  go_enter Tryd.func24, Tryd.ntmps24
  go_wp2_with fail
  refine (HLT.out c _).mono ?_
  rintro e w1 ⟨rfl, hw1⟩
  rw [hw1] at HK0 HBB
  have HT1 : Hid (TwoT w w1 0 { data := #[] } k) := ⟨HBB.out.1, HBB.out.2, HK0.out⟩
  obtain ⟨⟨r0, r1, r2, r3, r4, r5⟩, fr0, fr1, fr2, fr3, fr4, fr5⟩ := HT1.out.1.six
  obtain ⟨⟨t0, t1, t2, t3, t4, t5⟩, ft0, ft1, ft2, ft3, ft4, ft5⟩ := HT1.out.2.1.six
  clear hw1 hn
  rw [hlet]
  clear hlet
  have HRK := Lib.hid (fun W => HRN.out k true W (by rw [HN.out]; omega))
  obtain ⟨e1, he1⟩ : ∃ e1, runV s true k = e1 := ⟨_, rfl⟩
  rw [he1] at hrb HRK HW
  have hr1 : (k : Int) ≤ (e1 : Int) := by omega
  have hr2 : (e1 : Int) ≤ (s.size : Int) := by omega
  have HSZ : Hid ((s.extract k e1).size ≤ maxLen) := by show _ ≤ _; rw [size_extract s k e1 hrb.1 hrb.2]; unfold maxLen; have := HN.out; omega
  go_upto_region 6 with fail
  go_cut [] from 12 (fun wx => TwoT w wx 1 (s.extract k e1) k)
  case first =>
    go_region_with (go_at_call 34; refine (HRK.out _).mono ?_; rintro e w2 ⟨rfl, rfl⟩)
    all_goals
      go_wp2_with fail
      go_meet
      exact HT1.out.put _ _
  case rest =>
    have HT2 := Lib.hid hcut
    clear hcut
    clear r0 r1 r2 r3 r4 r5 fr0 fr1 fr2 fr3 fr4 fr5 t0 t1 t2 t3 t4 t5 ft0 ft1 ft2 ft3 ft4 ft5
    obtain ⟨⟨r0, r1, r2, r3, r4, r5⟩, fr0, fr1, fr2, fr3, fr4, fr5⟩ := HT2.out.1.six
    obtain ⟨⟨t0, t1, t2, t3, t4, t5⟩, ft0, ft1, ft2, ft3, ft4, ft5⟩ := HT2.out.2.1.six
    obtain ⟨T, hT⟩ : ∃ T, s.extract k e1 = T := ⟨_, rfl⟩
    rw [hT] at HT2 HSZ HW
    rw [hT] at t1
    go_upto_region 7 with fail
    go_cut [5] from 12 (fun x5 wx => x5 = .bool (nameV T) ∧ Blk wx w.heap.size #[.int .i64 1, .string T, .int .i64 0, .int .i64 0, .string { data := #[] }, .int .i64 k] 40 ∧ Kept [] w wx)
    case first =>
      go_region_with (go_at_call 35; refine (HNM.out T _ HSZ.out).mono ?_; rintro e w2 ⟨rfl, rfl⟩)
      all_goals
        go_wp2_with fail
        go_meet
        exact ⟨rfl, (Laid.six HT2.out.1).drew, (Laid.kept HT2.out.2.2).drew⟩
    case rest =>
      obtain ⟨rfl, hb, hk⟩ := hcut
      obtain ⟨⟨g0, g1, g2, g3, g4, g5⟩, _⟩ := hb.six
      clear r0 r1 r2 r3 r4 r5 fr0 fr1 fr2 fr3 fr4 fr5 t0 t1 t2 t3 t4 t5 ft0 ft1 ft2 ft3 ft4 ft5
      clear hb
      cases hnv : nameV T with
      | true =>
        have HE := Lib.hid (HW.out.trans (if_pos hnv))
        have HK := Lib.hid hk
        clear hk hnv
        go_wp2_with fail
        refine bodyPost_ret (v := .tuple #[.agg #[.int .i64 1, .string T, .int .i64 0, .int .i64 0, .string { data := #[] }, .int .i64 k], .bool true]) ?_ rfl (OnePost.yes HE.out HK.out)
        simp [results, Tryd.results24, go_sem, g0, g1, g2, g3, g4, g5]
      | false =>
        have HE := Lib.hid (HW.out.trans (if_neg (by rw [hnv]; simp)))
        have HK := Lib.hid hk
        clear hk hnv
        go_wp2_with fail
        refine bodyPost_ret (v := .tuple #[.agg #[.int .i64 1, .string T, .int .i64 0, .int .i64 0, .string { data := #[] }, .int .i64 k], .bool false]) ?_ rfl (OnePost.no ⟨1, T, noV, k⟩ HE.out HK.out)
        simp [results, Tryd.results24, go_sem, g0, g1, g2, g3, g4, g5]

end Go.Proofs.YtmkpbffjgpoplaaDoor

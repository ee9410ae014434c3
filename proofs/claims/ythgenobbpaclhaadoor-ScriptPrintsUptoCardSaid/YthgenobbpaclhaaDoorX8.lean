/- What a text says: the program's Parse. -/
import Derived.Test.YthgenobbpaclhaaDoorRows
import Derived.WalkKit
import Derived.WalkSpells
import Derived.WalkLawsBesides
import Derived.Deep.QuietTactic
import Derived.BigQuiet
import Derived.Lib.Hide
import Derived.Lib.ConvBytes
import Derived.Deep.Slices
import Derived.ProofKit
import Derived.SizedLaws
import Derived.Test.YthgenobbpaclhaaDoorShelf
import Derived.Laws.BytesArg
import Derived.Laws.BitsLemmas
import Derived.Deep.RegionHeld3
import Derived.Deep.AppendLies
import Derived.Maps.AppendAt
import Derived.Lib.ItoaLen
import Derived.Lib.SmallJoins
import Derived.Test.YthgenobbpaclhaaDoorX4
import Derived.Test.YthgenobbpaclhaaDoorX6
import Derived.Test.YthgenobbpaclhaaDoorX7
set_option linter.unusedVariables false
set_option linter.unusedSimpArgs false
set_option linter.unnecessarySimpa false
namespace Go.Proofs.YthgenobbpaclhaaDoor
open Go.RowKit Go.Shelf
attribute [local go_sem] Oper.semAt_some

def ErrVar2 (w : World) : Prop := ∃ ev, w.cell? ⟨5, 0, none⟩ = some ev ∧ (ev = .nilIface ∨ ∃ te pe, ev = .iface te pe)
theorem ErrVar2.keep {w w' : World} (h : ErrVar2 w) (hk : Kept [] w w') : ErrVar2 w' := by
  obtain ⟨ev, hc, he⟩ := h
  exact ⟨ev, hk.cell (by simp) hc, he⟩
/-- The variables of the library's that are read. -/
structure Vars (w : World) : Prop where
  tab : TabVar w
  e1 : ErrVar w
  e2 : ErrVar2 w
theorem Vars.keep {w w' : World} (h : Vars w) (hk : Kept [] w w') : Vars w' := ⟨h.tab.keep hk, h.e1.keep hk, h.e2.keep hk⟩

def NumPost (w : World) (s : ByteArray) (e : Ending) (w' : World) : Prop :=
  ∃ (v : Int) (er : Value), e = .returned (.tuple #[.int .i64 v, er]) ∧ Kept [] w w' ∧ -9223372036854775808 ≤ v ∧ v ≤ 9223372036854775807 ∧
    ((er = .nilIface ∧ Lib.parseIntB 64 s.data.toList = .ok v) ∨ ((∃ p, er = .iface 138 p) ∧ ∀ u, Lib.parseIntB 64 s.data.toList ≠ .ok u))
theorem parseInt_any (s : ByteArray) (hs : s.size ≤ 140737488351232) (w : World) (hv : Vars w) : Calls Tryd.prog 84 #[.string s, .int .i64 10, .int .i64 64] w (NumPost w s) := by
  cases h : Lib.parseIntB 64 s.data.toList with
  | ok v =>
    refine (Tryd.strconv_ParseInt_10_at64_ok s (by omega) v h w).mono ?_
    rintro e w' ⟨rfl, hw⟩
    have hb := parse_bd h
    refine ⟨v, _, rfl, ?_, hb.1, hb.2, .inl ⟨rfl, h⟩⟩
    rcases hw with rfl | ⟨t, rfl⟩
    · exact Kept.refl _ _
    · exact kept_bytes w _ t
  | «syntax» =>
    obtain ⟨ev, hc, hev⟩ := hv.e1
    refine (Tryd.strconv_ParseInt_10_at64_syntax s (by omega) h ev w hc hev).mono ?_
    rintro e w' ⟨N, rfl, _, _, hb⟩
    exact ⟨0, _, rfl, Kept.of_below hb, by omega, by omega, .inr ⟨⟨_, rfl⟩, fun u hu => by rw [h] at hu; cases hu⟩⟩
  | range =>
    obtain ⟨ev, hc, hev⟩ := hv.e2
    refine (Tryd.strconv_ParseInt_10_at64_range s (by omega) h ev w hc hev).mono ?_
    rintro e w' ⟨N, rfl, _, _, hb⟩
    refine ⟨Lib.intSat 64 s.data.toList, _, rfl, Kept.of_below hb, ?_, ?_, .inr ⟨⟨_, rfl⟩, fun u hu => by rw [h] at hu; cases hu⟩⟩
    · unfold Lib.intSat; split <;> simp
    · unfold Lib.intSat; split <;> simp

def ParsePost (w : World) (s : ByteArray) (e : Ending) (w' : World) : Prop := ∃ v b, e = .returned (.tuple #[valV v, .bool b]) ∧ ParseRel s v b ∧ Kept [] w w'
theorem Blk.three {w : World} {B : Nat} {x y z : Value} {t : TypeId} (h : Blk w B #[x, y, z] t) : w.cell? ⟨B, 0, none⟩ = some x ∧ w.cell? ⟨B, 1, none⟩ = some y ∧ w.cell? ⟨B, 2, none⟩ = some z ∧ w.frozen? ⟨B, 0, none⟩ = false ∧ w.frozen? ⟨B, 1, none⟩ = false ∧ w.frozen? ⟨B, 2, none⟩ = false :=
  ⟨h.cell 0, h.cell 1, h.cell 2, h.free 0, h.free 1, h.free 2⟩
theorem toList_ne {a b : ByteArray} (h : a ≠ b) : (a.toList == b.toList) = false := by
  rw [beq_eq_false_iff_ne, ByteArray.toList_eq, ByteArray.toList_eq]
  exact fun e => h (ByteArray.ext (Array.toList_inj.1 e))

theorem only_int {s : ByteArray} {v : Int} (h : Lib.parseIntB 64 s.data.toList = .ok v) : ∀ v', Says s v' → v' = (1, v, { data := #[] }) := by
  intro v' hv'
  rcases okV_ways hv'.1 with ⟨f1, f2⟩ | ⟨f1, f2, _⟩
  · have b := says_int hv' f1
    rw [h] at b
    injection b with b
    obtain ⟨k, n, t⟩ := v'
    simp only at f1 f2 b
    rw [f1, f2, b]
  · have b := (says_str hv' f1).1
    rw [h] at b
    cases b
theorem only_str {s t : ByteArray} (h : ∀ u, Lib.parseIntB 64 s.data.toList ≠ .ok u) (ht : ∀ x : ByteArray, bI s = 34 :: ((bI x).flatMap escI ++ [34]) → t = x) : ∀ v', Says s v' → v' = (2, 0, t) := by
  intro v' hv'
  rcases okV_ways hv'.1 with ⟨f1, f2⟩ | ⟨f1, f2, _⟩
  · exact absurd (says_int hv' f1) (h _)
  · have b := ht _ (says_str hv' f1).2
    obtain ⟨k, n, t'⟩ := v'
    simp only at f1 f2 b
    rw [f1, f2, b]
theorem fits_str {t : ByteArray} (h : okV (2, 0, t) = true) : Fits (2, 0, t) := by
  rcases okV_ways h with ⟨f1, _⟩ | ⟨_, _, f3⟩
  · cases f1
  · exact ⟨by show (-9223372036854775808 : Int) ≤ 0; decide, by show (0 : Int) ≤ 9223372036854775807; decide, by simp only at f3 ⊢; omega⟩

set_option maxRecDepth 100000 in
set_option maxHeartbeats 4000000 in
theorem parse_any (s : ByteArray) (hs : s.size ≤ 140737488351232) (w : World) (hv : Vars w) : Calls Tryd.prog 87 #[.string s] w (ParsePost w s) := by
  have HV := Lib.hid hv
  have HI : Hid (∀ W, Kept [] w W → Calls Tryd.prog 96 #[.string s] W (InnerPost W s)) := fun W hk => inner_any s hs W (HV.out.e1.keep hk)
  have HP : Hid (∀ W, Kept [] w W → Calls Tryd.prog 84 #[.string s, .int .i64 10, .int .i64 64] W (NumPost W s)) := fun W hk => parseInt_any s hs W (HV.out.keep hk)
  have HCK : Hid (∀ (v : ValD) W, v.2.2.size ≤ maxLen → Calls Tryd.prog 65 #[.agg #[.int .i64 v.1, .int .i64 v.2.1, .string v.2.2]] W fun e w' => e = .returned (.int .i64 (chkV v)) ∧ Kept [] W w') := fun v W h => check_any v.1 v.2.1 v.2.2 h W
  have HTX : Hid (∀ (v : ValD) W, Fits v → Kept [] w W → Calls Tryd.prog 64 #[.agg #[.int .i64 v.1, .int .i64 v.2.1, .string v.2.2]] W fun e w' => e = .returned (.string (textV v)) ∧ Kept [] W w') := fun v W h hk => text_any v.1 v.2.1 v.2.2 h W (HV.out.tab.keep hk)
  have hk0 := ((Kept.refl [] w).alloc (.cells #[.int .i64 0, .int .i64 0, .string { data := #[] }] 59)).alloc (.cells #[.int .i64 1, .int .i64 0, .string { data := #[] }] 59)
  have HK0 := Lib.hid hk0
  have HBB : Hid (∀ W, Kept [] ((w.alloc (.cells #[.int .i64 0, .int .i64 0, .string { data := #[] }] 59)).alloc (.cells #[.int .i64 1, .int .i64 0, .string { data := #[] }] 59)) W → Blk W w.heap.size #[.int .i64 0, .int .i64 0, .string { data := #[] }] 59 ∧ Blk W (w.heap.size + 1) #[.int .i64 1, .int .i64 0, .string { data := #[] }] 59) := fun W hk => by
    have ha := (Blk.new w #[.int .i64 0, .int .i64 0, .string { data := #[] }] 59).alloc (.cells #[.int .i64 1, .int .i64 0, .string { data := #[] }] 59)
    have hb := Blk.new (w.alloc (.cells #[.int .i64 0, .int .i64 0, .string { data := #[] }] 59)) #[.int .i64 1, .int .i64 0, .string { data := #[] }] 59
    have e : (w.alloc (.cells #[.int .i64 0, .int .i64 0, .string { data := #[] }] 59)).heap.size = w.heap.size + 1 := by simp
    rw [e] at hb
    exact ⟨ha.kept hk (by simp), hb.kept hk (by simp)⟩
  clear hv hk0
  go_enter Tryd.func87, Tryd.ntmps87
  go_wp2_with fail
  refine (HP.out _ HK0.out).mono ?_
  rintro e w1 ⟨v, er, rfl, hk1, hv0, hv1, he⟩
  have HK1 := Lib.hid (HK0.out.trans hk1)
  have HB1 := Lib.hid (HBB.out _ hk1)
  obtain ⟨a0, a1, a2, fa0, fa1, fa2⟩ := HB1.out.1.three
  obtain ⟨b0, b1, b2, fb0, fb1, fb2⟩ := HB1.out.2.three
  clear hk1
  rcases he with ⟨rfl, hok⟩ | ⟨⟨p, rfl⟩, hbad⟩
  · have HOK := Lib.hid hok
    clear hok
    go_wp2_with fail
    have HKC : Hid (Kept [] w (w1.setCell ⟨w.heap.size + 1, 1, none⟩ (.int .i64 v))) := HK1.out.setCell (.inr (Nat.le_succ _)) _
    have HAC : Hid (Blk (w1.setCell ⟨w.heap.size + 1, 1, none⟩ (.int .i64 v)) w.heap.size #[.int .i64 0, .int .i64 0, .string { data := #[] }] 59) := HB1.out.1.set_other (by simp) _
    have HBC : Hid (Blk (w1.setCell ⟨w.heap.size + 1, 1, none⟩ (.int .i64 v)) (w.heap.size + 1) #[.int .i64 1, .int .i64 v, .string { data := #[] }] 59) := HB1.out.2.set 1 _
    have HU := Lib.hid (ParseRel.asks (s := s) (v := (1, v, { data := #[] })) hv0 hv1 (only_int HOK.out))
    refine (HCK.out (1, v, { data := #[] }) _ (by simp [ByteArray.size])).mono ?_
    rintro e w3 ⟨rfl, hk3⟩
    have HK3 := Lib.hid (HKC.out.trans hk3)
    have HA3 := Lib.hid (HAC.out.kept hk3 (by simp))
    have HB3 := Lib.hid (HBC.out.kept hk3 (by simp))
    clear hk3 a0 a1 a2 fa0 fa1 fa2 b0 b1 b2 fb0 fb1 fb2
    obtain ⟨a0, a1, a2, fa0, fa1, fa2⟩ := HA3.out.three
    obtain ⟨b0, b1, b2, fb0, fb1, fb2⟩ := HB3.out.three
    cases hok : okV (1, v, { data := #[] }) with
    | false =>
      have hc : chkV (1, v, { data := #[] }) = 30 := by unfold chkV; rw [hok]; rfl
      have HREL := Lib.hid (HU.out.2 (.inl hok))
      rw [hc]
      clear hok hc
      go_wp2_with fail
      have bF := ((HA3.out.set 0 (.int .i64 0)).set 1 (.int .i64 0)).set 2 (.string { data := #[] })
      have g0 := bF.cell 0
      have g1 := bF.cell 1
      have g2 := bF.cell 2
      simp at g0 g1 g2
      refine bodyPost_ret (v := .tuple #[.agg #[.int .i64 0, .int .i64 0, .string { data := #[] }], .bool false]) ?_ rfl ⟨(0, 0, { data := #[] }), false, rfl, ?_, ?_⟩
      · simp [results, Tryd.results87, go_sem, g0, g1, g2]
      · exact HREL.out
      · exact ((HK3.out.setCell (.inr (Nat.le_refl _)) _).setCell (.inr (Nat.le_refl _)) _).setCell (.inr (Nat.le_refl _)) _
    | true =>
      have hc : chkV (1, v, { data := #[] }) = 0 := by unfold chkV; rw [hok]; rfl
      have HOKV := Lib.hid hok
      rw [hc]
      clear hok hc
      go_wp2_with fail
      refine (HTX.out (1, v, { data := #[] }) _ ⟨hv0, hv1, by simp [ByteArray.size]⟩ HK3.out).mono ?_
      rintro e w4 ⟨rfl, hk4⟩
      have HK4 := Lib.hid (HK3.out.trans hk4)
      have HA4 := Lib.hid (HA3.out.kept hk4 (by simp))
      have HB4 := Lib.hid (HB3.out.kept hk4 (by simp))
      clear hk4 a0 a1 a2 fa0 fa1 fa2 b0 b1 b2 fb0 fb1 fb2
      obtain ⟨a0, a1, a2, fa0, fa1, fa2⟩ := HA4.out.three
      obtain ⟨b0, b1, b2, fb0, fb1, fb2⟩ := HB4.out.three
      obtain ⟨tx, htx⟩ : ∃ tx, textV (1, v, { data := #[] }) = tx := ⟨_, rfl⟩
      rw [htx] at HU ⊢
      clear htx
      by_cases hq : tx = s
      · subst hq
        have HREL := Lib.hid (HU.out.1 HOKV.out rfl)
        have hqq : (tx.toList == tx.toList) = true := beq_self_eq_true _
        go_wp2_with fail
        have bF := ((HA4.out.set 0 (.int .i64 1)).set 1 (.int .i64 v)).set 2 (.string { data := #[] })
        have g0 := bF.cell 0
        have g1 := bF.cell 1
        have g2 := bF.cell 2
        simp at g0 g1 g2
        refine bodyPost_ret (v := .tuple #[.agg #[.int .i64 1, .int .i64 v, .string { data := #[] }], .bool true]) ?_ rfl ⟨(1, v, { data := #[] }), true, rfl, ?_, ?_⟩
        · simp [results, Tryd.results87, go_sem, g0, g1, g2]
        · exact HREL.out
        · exact ((HK4.out.setCell (.inr (Nat.le_refl _)) _).setCell (.inr (Nat.le_refl _)) _).setCell (.inr (Nat.le_refl _)) _
      · have HREL := Lib.hid (HU.out.2 (.inr hq))
        have hqq := toList_ne hq
        clear hq
        go_wp2_with fail
        have bF := ((HA4.out.set 0 (.int .i64 0)).set 1 (.int .i64 0)).set 2 (.string { data := #[] })
        have g0 := bF.cell 0
        have g1 := bF.cell 1
        have g2 := bF.cell 2
        simp at g0 g1 g2
        refine bodyPost_ret (v := .tuple #[.agg #[.int .i64 0, .int .i64 0, .string { data := #[] }], .bool false]) ?_ rfl ⟨(0, 0, { data := #[] }), false, rfl, ?_, ?_⟩
        · simp [results, Tryd.results87, go_sem, g0, g1, g2]
        · exact HREL.out
        · exact ((HK4.out.setCell (.inr (Nat.le_refl _)) _).setCell (.inr (Nat.le_refl _)) _).setCell (.inr (Nat.le_refl _)) _
  · have HBAD := Lib.hid hbad
    clear hbad
    go_wp2_with fail
    have HKI : Hid (Kept [] w (w1.setCell ⟨w.heap.size + 1, 1, none⟩ (.int .i64 v))) := HK1.out.setCell (.inr (Nat.le_succ _)) _
    have HAI : Hid (Blk (w1.setCell ⟨w.heap.size + 1, 1, none⟩ (.int .i64 v)) w.heap.size #[.int .i64 0, .int .i64 0, .string { data := #[] }] 59) := HB1.out.1.set_other (by simp) _
    have HBI : Hid (Blk (w1.setCell ⟨w.heap.size + 1, 1, none⟩ (.int .i64 v)) (w.heap.size + 1) #[.int .i64 1, .int .i64 v, .string { data := #[] }] 59) := HB1.out.2.set 1 _
    refine (HI.out _ HKI.out).mono ?_
    rintro e w2 ⟨t, rfl, htz, hk2, hgot⟩
    have HGOT := Lib.hid hgot
    have HK2 := Lib.hid (HKI.out.trans hk2)
    have HA2 := Lib.hid (HAI.out.kept hk2 (by simp))
    have HB2 := Lib.hid (HBI.out.kept hk2 (by simp))
    clear hk2 hgot a0 a1 a2 fa0 fa1 fa2 b0 b1 b2 fb0 fb1 fb2
    obtain ⟨a0, a1, a2, fa0, fa1, fa2⟩ := HA2.out.three
    obtain ⟨b0, b1, b2, fb0, fb1, fb2⟩ := HB2.out.three
    go_wp2_with fail
    have HKC : Hid (Kept [] w (((w2.setCell ⟨w.heap.size + 1, 0, none⟩ (.int .i64 2)).setCell ⟨w.heap.size + 1, 1, none⟩ (.int .i64 0)).setCell ⟨w.heap.size + 1, 2, none⟩ (.string t))) := ((HK2.out.setCell (.inr (Nat.le_succ _)) _).setCell (.inr (Nat.le_succ _)) _).setCell (.inr (Nat.le_succ _)) _
    have HAC : Hid (Blk (((w2.setCell ⟨w.heap.size + 1, 0, none⟩ (.int .i64 2)).setCell ⟨w.heap.size + 1, 1, none⟩ (.int .i64 0)).setCell ⟨w.heap.size + 1, 2, none⟩ (.string t)) w.heap.size #[.int .i64 0, .int .i64 0, .string { data := #[] }] 59) := ((HA2.out.set_other (by simp) _).set_other (by simp) _).set_other (by simp) _
    have HBC : Hid (Blk (((w2.setCell ⟨w.heap.size + 1, 0, none⟩ (.int .i64 2)).setCell ⟨w.heap.size + 1, 1, none⟩ (.int .i64 0)).setCell ⟨w.heap.size + 1, 2, none⟩ (.string t)) (w.heap.size + 1) #[.int .i64 2, .int .i64 0, .string t] 59) := ((HB2.out.set 0 _).set 1 _).set 2 _
    have HU := Lib.hid (ParseRel.asks (s := s) (v := (2, 0, t)) (by show (-9223372036854775808 : Int) ≤ 0; decide) (by show (0 : Int) ≤ 9223372036854775807; decide) (only_str HBAD.out HGOT.out))
    refine (HCK.out (2, 0, t) _ (by show t.size ≤ maxLen; unfold maxLen; omega)).mono ?_
    rintro e w3 ⟨rfl, hk3⟩
    have HK3 := Lib.hid (HKC.out.trans hk3)
    have HA3 := Lib.hid (HAC.out.kept hk3 (by simp))
    have HB3 := Lib.hid (HBC.out.kept hk3 (by simp))
    clear hk3 a0 a1 a2 fa0 fa1 fa2 b0 b1 b2 fb0 fb1 fb2
    obtain ⟨a0, a1, a2, fa0, fa1, fa2⟩ := HA3.out.three
    obtain ⟨b0, b1, b2, fb0, fb1, fb2⟩ := HB3.out.three
    cases hok : okV (2, 0, t) with
    | false =>
      have hc : chkV (2, 0, t) = 30 := by unfold chkV; rw [hok]; rfl
      have HREL := Lib.hid (HU.out.2 (.inl hok))
      rw [hc]
      clear hok hc
      go_wp2_with fail
      have bF := ((HA3.out.set 0 (.int .i64 0)).set 1 (.int .i64 0)).set 2 (.string { data := #[] })
      have g0 := bF.cell 0
      have g1 := bF.cell 1
      have g2 := bF.cell 2
      simp at g0 g1 g2
      refine bodyPost_ret (v := .tuple #[.agg #[.int .i64 0, .int .i64 0, .string { data := #[] }], .bool false]) ?_ rfl ⟨(0, 0, { data := #[] }), false, rfl, ?_, ?_⟩
      · simp [results, Tryd.results87, go_sem, g0, g1, g2]
      · exact HREL.out
      · exact ((HK3.out.setCell (.inr (Nat.le_refl _)) _).setCell (.inr (Nat.le_refl _)) _).setCell (.inr (Nat.le_refl _)) _
    | true =>
      have hc : chkV (2, 0, t) = 0 := by unfold chkV; rw [hok]; rfl
      have HOKV := Lib.hid hok
      rw [hc]
      clear hok hc
      go_wp2_with fail
      refine (HTX.out (2, 0, t) _ (fits_str HOKV.out) HK3.out).mono ?_
      rintro e w4 ⟨rfl, hk4⟩
      have HK4 := Lib.hid (HK3.out.trans hk4)
      have HA4 := Lib.hid (HA3.out.kept hk4 (by simp))
      have HB4 := Lib.hid (HB3.out.kept hk4 (by simp))
      clear hk4 a0 a1 a2 fa0 fa1 fa2 b0 b1 b2 fb0 fb1 fb2
      obtain ⟨a0, a1, a2, fa0, fa1, fa2⟩ := HA4.out.three
      obtain ⟨b0, b1, b2, fb0, fb1, fb2⟩ := HB4.out.three
      obtain ⟨tx, htx⟩ : ∃ tx, textV (2, 0, t) = tx := ⟨_, rfl⟩
      rw [htx] at HU ⊢
      clear htx
      by_cases hq : tx = s
      · subst hq
        have HREL := Lib.hid (HU.out.1 HOKV.out rfl)
        have hqq : (tx.toList == tx.toList) = true := beq_self_eq_true _
        go_wp2_with fail
        have bF := ((HA4.out.set 0 (.int .i64 2)).set 1 (.int .i64 0)).set 2 (.string t)
        have g0 := bF.cell 0
        have g1 := bF.cell 1
        have g2 := bF.cell 2
        simp at g0 g1 g2
        refine bodyPost_ret (v := .tuple #[.agg #[.int .i64 2, .int .i64 0, .string t], .bool true]) ?_ rfl ⟨(2, 0, t), true, rfl, ?_, ?_⟩
        · simp [results, Tryd.results87, go_sem, g0, g1, g2]
        · exact HREL.out
        · exact ((HK4.out.setCell (.inr (Nat.le_refl _)) _).setCell (.inr (Nat.le_refl _)) _).setCell (.inr (Nat.le_refl _)) _
      · have HREL := Lib.hid (HU.out.2 (.inr hq))
        have hqq := toList_ne hq
        clear hq
        go_wp2_with fail
        have bF := ((HA4.out.set 0 (.int .i64 0)).set 1 (.int .i64 0)).set 2 (.string { data := #[] })
        have g0 := bF.cell 0
        have g1 := bF.cell 1
        have g2 := bF.cell 2
        simp at g0 g1 g2
        refine bodyPost_ret (v := .tuple #[.agg #[.int .i64 0, .int .i64 0, .string { data := #[] }], .bool false]) ?_ rfl ⟨(0, 0, { data := #[] }), false, rfl, ?_, ?_⟩
        · simp [results, Tryd.results87, go_sem, g0, g1, g2]
        · exact HREL.out
        · exact ((HK4.out.setCell (.inr (Nat.le_refl _)) _).setCell (.inr (Nat.le_refl _)) _).setCell (.inr (Nat.le_refl _)) _

end Go.Proofs.YthgenobbpaclhaaDoor

/- A value's text says it; a text that says a value is its text. -/
import Derived.Test.YthnfoiaahiopdaaDoorRows
import Derived.WalkKit
import Derived.WalkSpells
import Derived.WalkLawsBesides
import Derived.Deep.QuietTactic
import Derived.BigQuiet
import Derived.Lib.Hide
import Derived.Lib.ConvBytes
import Derived.Deep.Slices
import Derived.ProofKit
import Derived.SizedLaws
import Derived.Test.YthnfoiaahiopdaaDoorShelf
import Derived.Laws.BytesArg
import Derived.Laws.BitsLemmas
import Derived.Deep.RegionHeld3
import Derived.Deep.AppendLies
import Derived.Maps.AppendAt
import Derived.Lib.ItoaLen
import Derived.Lib.SmallJoins
import Derived.Test.YthnfoiaahiopdaaDoorV6
import Derived.Test.YthnfoiaahiopdaaDoorX8
set_option linter.unusedVariables false
set_option linter.unusedSimpArgs false
set_option linter.unnecessarySimpa false
namespace Go.Proofs.YthnfoiaahiopdaaDoor
open Go.RowKit Go.Shelf
attribute [local go_sem] Oper.semAt_some

theorem quote_size (s : ByteArray) : (strOfNums (quoteI s)).size ≤ 4 * s.size + 2 := by
  rw [strOfNums_size, quoteI, List.length_cons, List.length_append]
  have := escGo_le s s.size 0
  simp
  omega
theorem text_size {v : ValD} (h : okV v = true) (h0 : -9223372036854775808 ≤ v.2.1) (h1 : v.2.1 ≤ 9223372036854775807) : (textV v).size ≤ 300 ∧ Fits v := by
  rcases okV_ways h with ⟨f1, f2⟩ | ⟨f1, f2, f3⟩
  · rw [textV_int f1]
    have := Lib.itoa_length_le v.2.1 h0 h1
    refine ⟨by show ((Lib.itoa v.2.1).toArray).size ≤ 300; simp; omega, h0, h1, ?_⟩
    rw [f2]
    decide
  · rw [textV_str f1]
    have := quote_size v.2.2
    exact ⟨by omega, h0, h1, by omega⟩

set_option maxRecDepth 100000 in
set_option maxHeartbeats 4000000 in
theorem lawBack_any (k n : Int) (t s : ByteArray) (hn0 : -9223372036854775808 ≤ n) (hn1 : n ≤ 9223372036854775807) (ht : t.size ≤ maxLen) (hs : s.size ≤ 140737488351232) (w : World) (hv : Vars w) :
    Calls Tryd.prog 10 #[.agg #[.int .i64 k, .int .i64 n, .string t], .string s] w fun e w' => e = .returned (.bool true) ∧ Kept [] w w' := by
  have HCK : Hid (∀ (v : ValD) W, v.2.2.size ≤ maxLen → Calls Tryd.prog 27 #[.agg #[.int .i64 v.1, .int .i64 v.2.1, .string v.2.2]] W fun e w' => e = .returned (.int .i64 (chkV v)) ∧ Kept [] W w') := fun v W h => check_any v.1 v.2.1 v.2.2 h W
  have HRC : Hid (∀ W, Calls Tryd.prog 28 #[.agg #[.int .i64 k, .int .i64 n, .string t]] W fun e w' => e = .returned (.int .i64 (chkV (k, n, t))) ∧ Kept [] W w') := fun W => rcheck_any k n t ht W
  have HTX : Hid (∀ (v : ValD) W, Fits v → Kept [] w W → Calls Tryd.prog 36 #[.agg #[.int .i64 v.1, .int .i64 v.2.1, .string v.2.2]] W fun e w' => e = .returned (.string (textV v)) ∧ Kept [] W w') := fun v W h hk => text_any v.1 v.2.1 v.2.2 h W (hv.tab.keep hk)
  have HPS : Hid (∀ (x : ByteArray) W, x.size ≤ 140737488351232 → Kept [] w W → Calls Tryd.prog 34 #[.string x] W (ParsePost W x)) := fun x W h hk => parse_any x h W (hv.keep hk)
  have HK0 := Lib.hid ((Kept.refl [] w).alloc (.cells #[.int .i64 k, .int .i64 n, .string t] 23))
  have HA0 := Lib.hid (Blk.new w #[.int .i64 k, .int .i64 n, .string t] 23)
  have HTS := Lib.hid (fun h => text_size (v := (k, n, t)) h hn0 hn1)
  clear hv
  cases hok : okV (k, n, t) with
  | false =>
    have hc : chkV (k, n, t) = 30 := by unfold chkV; rw [hok]; rfl
    rw [hc] at HRC
    clear hc hok HTS
    go_enter Tryd.func10, Tryd.ntmps10
    go_wp2_with fail
    refine (HRC.out _).mono ?_
    rintro e w1 ⟨rfl, hk1⟩
    have HK1 := Lib.hid (HK0.out.trans hk1)
    clear hk1
    go_wp2_with fail
    refine (HPS.out s _ hs HK1.out).mono ?_
    rintro e w6 ⟨⟨x1, x2, x3⟩, b, rfl, hrel, hk6⟩
    have HK6 := Lib.hid (Kept.trans (by first | exact HK4.out | exact HK1.out) hk6)
    clear hk6
    simp only [valV]
    rcases hrel with ⟨rfl, hsay⟩ | ⟨rfl, he, _⟩
    · have HSAY := Lib.hid hsay
      obtain ⟨hf1, hf2⟩ := text_size HSAY.out.1 HSAY.out.2.1 HSAY.out.2.2.1
      have HF := Lib.hid hf2
      have hx3 : x3.size ≤ maxLen := by have := hf2.2.2; unfold maxLen; simp only at this; omega
      have hc0 : chkV (x1, x2, x3) = 0 := by unfold chkV; rw [HSAY.out.1]; rfl
      have HC0 := Lib.hid hc0
      have HT1 : Hid (textV (x1, x2, x3) = s) := HSAY.out.2.2.2
      have HK7 := Lib.hid (HK6.out.alloc (.cells #[.int .i64 x1, .int .i64 x2, .string x3] 23))
      have HA7 := Lib.hid (Blk.new w6 #[.int .i64 x1, .int .i64 x2, .string x3] 23)
      have HX3 : Hid (x3.size ≤ maxLen) := hx3
      clear hsay hf1 hf2 hc0 hx3
      go_wp2_with fail
      refine (HTX.out (x1, x2, x3) _ HF.out HK7.out).mono ?_
      rintro e w8 ⟨rfl, hk8⟩
      have HK8 := Lib.hid (HK7.out.trans hk8)
      obtain ⟨c0, c1, c2, fc0, fc1, fc2⟩ := (HA7.out.kept hk8 (by simp)).three
      clear hk8
      rw [HT1.out]
      have hself2 : (s.toList == s.toList) = true := beq_self_eq_true _
      go_wp2_with fail
      refine (HCK.out (x1, x2, x3) _ HX3.out).mono ?_
      rintro e w9 ⟨rfl, hk9⟩
      have HK9 := Lib.hid (HK8.out.trans hk9)
      clear hk9
      rw [HC0.out]
      go_wp2_with fail
      refine (live_any _).mono ?_
      rintro e w10 ⟨rfl, hk10⟩
      have HK10 := Lib.hid (HK9.out.trans hk10)
      clear hk10
      go_wp2_with fail
      go_ret
      exact ⟨rfl, HK10.out⟩
    · have HK7 := Lib.hid (HK6.out.alloc (.cells #[.int .i64 x1, .int .i64 x2, .string x3] 23))
      clear he
      go_wp2_with fail
      refine (live_any _).mono ?_
      rintro e w10 ⟨rfl, hk10⟩
      have HK10 := Lib.hid (HK7.out.trans hk10)
      clear hk10
      go_wp2_with fail
      go_ret
      exact ⟨rfl, HK10.out⟩
  | true =>
    have hc : chkV (k, n, t) = 0 := by unfold chkV; rw [hok]; rfl
    rw [hc] at HRC
    obtain ⟨hts, hft⟩ := HTS.out hok
    have HFT := Lib.hid hft
    have HSY : Hid (ParseRel (textV (k, n, t)) (k, n, t) true) := .inl ⟨rfl, hok, hn0, hn1, rfl⟩
    have HT0 := Lib.hid (fun W hk => HTX.out (k, n, t) W HFT.out hk)
    obtain ⟨tx, htx⟩ : ∃ tx, textV (k, n, t) = tx := ⟨_, rfl⟩
    rw [htx] at HSY HT0 hts
    clear hc hok HTS htx hft
    go_enter Tryd.func10, Tryd.ntmps10
    go_wp2_with fail
    refine (HRC.out _).mono ?_
    rintro e w1 ⟨rfl, hk1⟩
    have HK1 := Lib.hid (HK0.out.trans hk1)
    have HA1 := Lib.hid (HA0.out.kept hk1 (by simp))
    clear hk1
    obtain ⟨a0, a1, a2, fa0, fa1, fa2⟩ := HA1.out.three
    go_wp2_with fail
    refine (HT0.out _ HK1.out).mono ?_
    rintro e w2 ⟨rfl, hk2⟩
    have HK2 := Lib.hid (HK1.out.trans hk2)
    have HA2 := Lib.hid (HA1.out.kept hk2 (by simp))
    clear hk2 a0 a1 a2 fa0 fa1 fa2
    go_wp2_with fail
    refine (HPS.out tx _ (by omega) HK2.out).mono ?_
    rintro e w3 ⟨v', b', rfl, hrel, hk3⟩
    obtain ⟨rfl, rfl⟩ := HSY.out.one hrel
    have HK3 := Lib.hid (HK2.out.trans hk3)
    have HA3 := Lib.hid (HA2.out.kept hk3 (by simp))
    clear hk3 hrel
    simp only [valV]
    obtain ⟨a0, a1, a2, fa0, fa1, fa2⟩ := HA3.out.three
    have hlt3 := HA3.out.lt
    have hself : (t.toList == t.toList) = true := beq_self_eq_true _
    go_wp2_with fail
    have HK4 := Lib.hid (HK3.out.alloc (.cells #[.int .i64 k, .int .i64 n, .string t] 23))
    clear a0 a1 a2 fa0 fa1 fa2
    refine (HPS.out s _ hs HK4.out).mono ?_
    rintro e w6 ⟨⟨x1, x2, x3⟩, b, rfl, hrel, hk6⟩
    have HK6 := Lib.hid (Kept.trans (by first | exact HK4.out | exact HK1.out) hk6)
    clear hk6
    simp only [valV]
    rcases hrel with ⟨rfl, hsay⟩ | ⟨rfl, he, _⟩
    · have HSAY := Lib.hid hsay
      obtain ⟨hf1, hf2⟩ := text_size HSAY.out.1 HSAY.out.2.1 HSAY.out.2.2.1
      have HF := Lib.hid hf2
      have hx3 : x3.size ≤ maxLen := by have := hf2.2.2; unfold maxLen; simp only at this; omega
      have hc0 : chkV (x1, x2, x3) = 0 := by unfold chkV; rw [HSAY.out.1]; rfl
      have HC0 := Lib.hid hc0
      have HT1 : Hid (textV (x1, x2, x3) = s) := HSAY.out.2.2.2
      have HK7 := Lib.hid (HK6.out.alloc (.cells #[.int .i64 x1, .int .i64 x2, .string x3] 23))
      have HA7 := Lib.hid (Blk.new w6 #[.int .i64 x1, .int .i64 x2, .string x3] 23)
      have HX3 : Hid (x3.size ≤ maxLen) := hx3
      clear hsay hf1 hf2 hc0 hx3
      go_wp2_with fail
      refine (HTX.out (x1, x2, x3) _ HF.out HK7.out).mono ?_
      rintro e w8 ⟨rfl, hk8⟩
      have HK8 := Lib.hid (HK7.out.trans hk8)
      obtain ⟨c0, c1, c2, fc0, fc1, fc2⟩ := (HA7.out.kept hk8 (by simp)).three
      clear hk8
      rw [HT1.out]
      have hself2 : (s.toList == s.toList) = true := beq_self_eq_true _
      go_wp2_with fail
      refine (HCK.out (x1, x2, x3) _ HX3.out).mono ?_
      rintro e w9 ⟨rfl, hk9⟩
      have HK9 := Lib.hid (HK8.out.trans hk9)
      clear hk9
      rw [HC0.out]
      go_wp2_with fail
      refine (live_any _).mono ?_
      rintro e w10 ⟨rfl, hk10⟩
      have HK10 := Lib.hid (HK9.out.trans hk10)
      clear hk10
      go_wp2_with fail
      go_ret
      exact ⟨rfl, HK10.out⟩
    · have HK7 := Lib.hid (HK6.out.alloc (.cells #[.int .i64 x1, .int .i64 x2, .string x3] 23))
      clear he
      go_wp2_with fail
      refine (live_any _).mono ?_
      rintro e w10 ⟨rfl, hk10⟩
      have HK10 := Lib.hid (HK7.out.trans hk10)
      clear hk10
      go_wp2_with fail
      go_ret
      exact ⟨rfl, HK10.out⟩

end Go.Proofs.YthnfoiaahiopdaaDoor

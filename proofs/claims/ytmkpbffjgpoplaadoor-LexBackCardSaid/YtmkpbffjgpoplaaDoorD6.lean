/- What a text says: the document's Parse. -/
import Derived.Test.YtmkpbffjgpoplaaDoorRows
import Derived.WalkKit
import Derived.WalkSpells
import Derived.WalkLawsBesides
import Derived.Deep.QuietTactic
import Derived.BigQuiet
import Derived.Lib.Hide
import Derived.Laws.Runes
import Derived.Laws.Concat
import Derived.Laws.Cover4
import Derived.Lib.ConvBytes
import Derived.Deep.Slices
import Derived.ProofKit
import Derived.SizedLaws
import Derived.Test.YtmkpbffjgpoplaaDoorShelf
import Derived.Laws.BytesArg
import Derived.Laws.BitsLemmas
import Derived.Deep.RegionHeld3
import Derived.Deep.AppendLies
import Derived.Maps.AppendAt
import Derived.Lib.ItoaLen
import Derived.Lib.SmallJoins
import Derived.Test.YtmkpbffjgpoplaaDoorD4
import Derived.Test.YtmkpbffjgpoplaaDoorD5
set_option linter.unusedVariables false
set_option linter.unusedSimpArgs false
set_option linter.unnecessarySimpa false
namespace Go.Proofs.YtmkpbffjgpoplaaDoor
open Go.RowKit Go.Shelf
attribute [local go_sem] Oper.semAt_some

/-- The text begins with a quote, and more follows. -/
def Quo (s : ByteArray) : Prop := 1 < s.size ∧ byt s 0 = 34
theorem bI_quo {s : ByteArray} {L : List Int} (h : bI s = 34 :: (L ++ [34])) : Quo s := by
  have h1 := congrArg List.length h
  rw [bI_len] at h1
  simp at h1
  have h2 := bI_get s 0 (by omega)
  rw [h] at h2
  simp at h2
  exact ⟨by omega, h2.symm⟩
theorem quo_only {s t : ByteArray} (hq : Quo s) (ht : ∀ x : ByteArray, bI s = 34 :: ((bI x).flatMap escI ++ [34]) → t = x) : ∀ v', Says s v' → v' = (2, 0, t) := by
  refine only_str ?_ ht
  intro u hu
  have hd := bI_drop s (k := 0) (by have := hq.1; omega)
  rw [List.drop_zero, hq.2] at hd
  cases hl : s.data.toList with
  | nil =>
    have : s.size = 0 := by
      have : s.data.toList.length = 0 := by rw [hl]; rfl
      rw [Array.length_toList] at this
      exact this
    have := hq.1
    omega
  | cons b r =>
    unfold bI at hd
    rw [hl, List.map_cons] at hd
    injection hd with h1 h2
    have hb : b = 34 := by
      apply UInt8.toNat_inj.1
      have : ((34 : UInt8).toNat) = 34 := rfl
      omega
    rw [hl, hb, parse_quote r] at hu
    cases hu
theorem num_only {s : ByteArray} {n m : Int} {b : Bool} (hq : ¬ Quo s) (hn : numV (bI s) = (n, b)) (hm : b = true → m = n) : ∀ v', Says s v' → v' = (1, m, { data := #[] }) := by
  intro v' hv'
  rcases okV_ways hv'.1 with ⟨f1, f2⟩ | ⟨f1, f2, _⟩
  · obtain ⟨_, h0, h1, ht⟩ := hv'
    rw [textV_int f1] at ht
    have h := numV_itoa v'.2.1 h0 h1
    rw [ht, hn] at h
    injection h with h2 h3
    obtain ⟨k, x, t⟩ := v'
    simp only at f1 f2 h2
    rw [f1, f2, hm h3, h2]
  · exact absurd (bI_quo (says_str hv' f1).2) hq
theorem numV_bd (S : List Int) : -9223372036854775808 ≤ (numV S).1 ∧ (numV S).1 ≤ 9223372036854775807 := by
  have hF : ∀ (L : List Int) (n : Int), -9223372036854775808 ≤ n → n ≤ 0 → ∀ m, numF n L = some m → -9223372036854775808 ≤ m ∧ m ≤ 0 := by
    intro L
    induction L with
    | nil => intro n h0 h1 m hm; rw [numF] at hm; injection hm with hm; omega
    | cons c r ih =>
      intro n h0 h1 m hm
      rw [numF] at hm
      split at hm
      · cases hm
      · rename_i hc
        split at hm
        · cases hm
        · rename_i ho
          have ht : Int.tdiv (-9223372036854775808 + (c - 48)) 10 = -((9223372036854775808 - (c - 48)) / 10) := by
            have e2 : (-9223372036854775808 + (c - 48)) = -(9223372036854775808 - (c - 48)) := by omega
            rw [e2, Int.neg_tdiv, Int.tdiv_eq_ediv_of_nonneg (by omega)]
          rw [ht] at ho
          exact ih _ (by omega) (by omega) m hm
  unfold numV
  split
  · split
    · simp
    · rename_i n hn
      have := hF _ 0 (by omega) (by omega) n hn
      simp only
      omega
  · split
    · simp
    · rename_i n hn
      have := hF _ 0 (by omega) (by omega) n hn
      split
      · simp
      · simp only
        omega

set_option maxRecDepth 100000 in
set_option maxHeartbeats 4000000 in
theorem rparse_any (s : ByteArray) (hs : s.size ≤ 17592186044416) (w : World) : Calls Tryd.prog 38 #[.string s] w (ParsePost w s) := by
  have HI : Hid (∀ W, Calls Tryd.prog 46 #[.string s] W (InnerPost W s)) := fun W => quoted_any s (by omega) W
  have HNU : Hid (∀ W, Calls Tryd.prog 47 #[.string s] W (RnumPost s W)) := fun W => number_any s (by omega) W
  have HCK : Hid (∀ (v : ValD) W, v.2.2.size ≤ maxLen → Calls Tryd.prog 49 #[.agg #[.int .i64 v.1, .int .i64 v.2.1, .string v.2.2]] W fun e w' => e = .returned (.int .i64 (chkV v)) ∧ Kept [] W w') := fun v W h => rcheck_any v.1 v.2.1 v.2.2 h W
  have HTX : Hid (∀ (v : ValD) W, Fits v → Calls Tryd.prog 48 #[.agg #[.int .i64 v.1, .int .i64 v.2.1, .string v.2.2]] W fun e w' => e = .returned (.string (textV v)) ∧ Kept [] W w') := fun v W h => rtext_any v.1 v.2.1 v.2.2 h W
  have hk0 := ((Kept.refl [] w).alloc (.cells #[.int .i64 0, .int .i64 0, .string { data := #[] }] 38)).alloc (.cells #[.int .i64 1, .int .i64 0, .string { data := #[] }] 38)
  have HK0 := Lib.hid hk0
  have HBB : Hid (∀ W, Kept [] ((w.alloc (.cells #[.int .i64 0, .int .i64 0, .string { data := #[] }] 38)).alloc (.cells #[.int .i64 1, .int .i64 0, .string { data := #[] }] 38)) W → Blk W w.heap.size #[.int .i64 0, .int .i64 0, .string { data := #[] }] 38 ∧ Blk W (w.heap.size + 1) #[.int .i64 1, .int .i64 0, .string { data := #[] }] 38) := fun W hk => by
    have ha := (Blk.new w #[.int .i64 0, .int .i64 0, .string { data := #[] }] 38).alloc (.cells #[.int .i64 1, .int .i64 0, .string { data := #[] }] 38)
    have hb := Blk.new (w.alloc (.cells #[.int .i64 0, .int .i64 0, .string { data := #[] }] 38)) #[.int .i64 1, .int .i64 0, .string { data := #[] }] 38
    have e : (w.alloc (.cells #[.int .i64 0, .int .i64 0, .string { data := #[] }] 38)).heap.size = w.heap.size + 1 := by simp
    rw [e] at hb
    exact ⟨ha.kept hk (by simp), hb.kept hk (by simp)⟩
  clear hk0
  by_cases hq : Quo s
  · obtain ⟨z, hz⟩ : ∃ z, s.size = z := ⟨_, rfl⟩
    have HQU := Lib.hid hq
    have HZ := Lib.hid hz
    have hl := len_at s hz
    have hix := fun w => index_at s 0 (by have := hq.1; omega) w
    rw [hq.2, show ((0 : Nat) : Int) = 0 from rfl] at hix
    have h1 := hq.1
    rw [hz] at hs h1
    clear hq hz
    go_enter Tryd.func38, Tryd.ntmps38
    go_wp2_with fail
    refine (HI.out _).mono ?_
    rintro e w1 ⟨t, rfl, htz, hk1, hgot⟩
    have HK1 := Lib.hid (HK0.out.trans hk1)
    have HB1 := Lib.hid (HBB.out _ hk1)
    obtain ⟨a0, a1, a2, fa0, fa1, fa2⟩ := HB1.out.1.three
    obtain ⟨b0, b1, b2, fb0, fb1, fb2⟩ := HB1.out.2.three
    have HU := Lib.hid (ParseRel.asks (s := s) (v := (2, 0, t)) (by show (-9223372036854775808 : Int) ≤ 0; decide) (by show (0 : Int) ≤ 9223372036854775807; decide) (quo_only HQU.out hgot))
    rw [HZ.out] at htz
    have HSZ : Hid (t.size ≤ maxLen) := by show _ ≤ _; unfold maxLen; omega
    have HF0 : Hid (4 * t.size + 2 ≤ 140737488355328) := by show _ ≤ _; omega
    clear hk1 hgot
    go_wp2_with fail
    have HKC : Hid (Kept [] w (((w1.setCell ⟨w.heap.size + 1, 0, none⟩ (.int .i64 2)).setCell ⟨w.heap.size + 1, 1, none⟩ (.int .i64 0)).setCell ⟨w.heap.size + 1, 2, none⟩ (.string t))) := ((HK1.out.setCell (.inr (Nat.le_succ _)) _).setCell (.inr (Nat.le_succ _)) _).setCell (.inr (Nat.le_succ _)) _
    have HAC : Hid (Blk (((w1.setCell ⟨w.heap.size + 1, 0, none⟩ (.int .i64 2)).setCell ⟨w.heap.size + 1, 1, none⟩ (.int .i64 0)).setCell ⟨w.heap.size + 1, 2, none⟩ (.string t)) w.heap.size #[.int .i64 0, .int .i64 0, .string { data := #[] }] 38) := ((HB1.out.1.set_other (by simp) _).set_other (by simp) _).set_other (by simp) _
    have HBC : Hid (Blk (((w1.setCell ⟨w.heap.size + 1, 0, none⟩ (.int .i64 2)).setCell ⟨w.heap.size + 1, 1, none⟩ (.int .i64 0)).setCell ⟨w.heap.size + 1, 2, none⟩ (.string t)) (w.heap.size + 1) #[.int .i64 2, .int .i64 0, .string t] 38) := ((HB1.out.2.set 0 _).set 1 _).set 2 _
    refine (HTX.out (2, 0, t) _ ⟨by show (-9223372036854775808 : Int) ≤ 0; decide, by show (0 : Int) ≤ 9223372036854775807; decide, HF0.out⟩).mono ?_
    rintro e w3 ⟨rfl, hk3⟩
    have HK3 := Lib.hid (HKC.out.trans hk3)
    have HA3 := Lib.hid (HAC.out.kept hk3 (by simp))
    have HB3 := Lib.hid (HBC.out.kept hk3 (by simp))
    clear hk3 a0 a1 a2 fa0 fa1 fa2 b0 b1 b2 fb0 fb1 fb2
    obtain ⟨a0, a1, a2, fa0, fa1, fa2⟩ := HA3.out.three
    obtain ⟨b0, b1, b2, fb0, fb1, fb2⟩ := HB3.out.three
    obtain ⟨tx, htx⟩ : ∃ tx, textV (2, 0, t) = tx := ⟨_, rfl⟩
    rw [htx] at HU ⊢
    clear htx
    by_cases hq : tx = s
    · have HQ := Lib.hid hq
      have hqq : (tx.toList == s.toList) = true := by rw [hq]; exact beq_self_eq_true _
      have hqe : tx.toList = s.toList := by rw [hq]
      clear hq
      go_wp2_with fail
      refine (HCK.out (2, 0, t) _ HSZ.out).mono ?_
      rintro e w4 ⟨rfl, hk4⟩
      have HK4 := Lib.hid (HK3.out.trans hk4)
      have HA4 := Lib.hid (HA3.out.kept hk4 (by simp))
      have HB4 := Lib.hid (HB3.out.kept hk4 (by simp))
      clear hk4 a0 a1 a2 fa0 fa1 fa2 b0 b1 b2 fb0 fb1 fb2
      obtain ⟨a0, a1, a2, fa0, fa1, fa2⟩ := HA4.out.three
      obtain ⟨b0, b1, b2, fb0, fb1, fb2⟩ := HB4.out.three
      cases hok : okV (2, 0, t) with
      | false =>
        have hc : chkV (2, 0, t) = 30 := by unfold chkV; rw [hok]; rfl
        have HREL := Lib.hid (HU.out.2 (.inl hok))
        rw [hc]
        clear hok hc
        go_wp2_with fail
        have bF := ((HA4.out.set 0 (.int .i64 0)).set 1 (.int .i64 0)).set 2 (.string { data := #[] })
        have g0 := bF.cell 0
        have g1 := bF.cell 1
        have g2 := bF.cell 2
        simp at g0 g1 g2
        refine bodyPost_ret (v := .tuple #[.agg #[.int .i64 0, .int .i64 0, .string { data := #[] }], .bool false]) ?_ rfl ⟨(0, 0, { data := #[] }), false, rfl, ?_, ?_⟩
        · simp [results, Tryd.results38, go_sem, g0, g1, g2]
        · exact HREL.out
        · exact ((HK4.out.setCell (.inr (Nat.le_refl _)) _).setCell (.inr (Nat.le_refl _)) _).setCell (.inr (Nat.le_refl _)) _
      | true =>
        have hc : chkV (2, 0, t) = 0 := by unfold chkV; rw [hok]; rfl
        have HREL := Lib.hid (HU.out.1 hok HQ.out)
        rw [hc]
        clear hok hc
        go_wp2_with fail
        have bF := ((HA4.out.set 0 (.int .i64 2)).set 1 (.int .i64 0)).set 2 (.string t)
        have g0 := bF.cell 0
        have g1 := bF.cell 1
        have g2 := bF.cell 2
        simp at g0 g1 g2
        refine bodyPost_ret (v := .tuple #[.agg #[.int .i64 2, .int .i64 0, .string t], .bool true]) ?_ rfl ⟨(2, 0, t), true, rfl, ?_, ?_⟩
        · simp [results, Tryd.results38, go_sem, g0, g1, g2]
        · exact HREL.out
        · exact ((HK4.out.setCell (.inr (Nat.le_refl _)) _).setCell (.inr (Nat.le_refl _)) _).setCell (.inr (Nat.le_refl _)) _
    · have HREL := Lib.hid (HU.out.2 (.inr hq))
      have hqq := toList_ne hq
      have hqe : ¬ tx.toList = s.toList := by simpa using hqq
      clear hq
      go_wp2_with fail
      have bF := ((HA3.out.set 0 (.int .i64 0)).set 1 (.int .i64 0)).set 2 (.string { data := #[] })
      have g0 := bF.cell 0
      have g1 := bF.cell 1
      have g2 := bF.cell 2
      simp at g0 g1 g2
      refine bodyPost_ret (v := .tuple #[.agg #[.int .i64 0, .int .i64 0, .string { data := #[] }], .bool false]) ?_ rfl ⟨(0, 0, { data := #[] }), false, rfl, ?_, ?_⟩
      · simp [results, Tryd.results38, go_sem, g0, g1, g2]
      · exact HREL.out
      · exact ((HK3.out.setCell (.inr (Nat.le_refl _)) _).setCell (.inr (Nat.le_refl _)) _).setCell (.inr (Nat.le_refl _)) _
  · obtain ⟨z, hz⟩ : ∃ z, s.size = z := ⟨_, rfl⟩
    have HNQ : Hid (¬ Quo s) := hq
    have hl := len_at s hz
    by_cases h1 : 1 < z
    · have hix := fun w => index_at s 0 (by omega) w
      have hc0 : byt s 0 ≠ 34 := fun h => hq ⟨by omega, h⟩
      obtain ⟨c0, hc⟩ : ∃ c0, byt s 0 = c0 := ⟨_, rfl⟩
      rw [hc, show ((0 : Nat) : Int) = 0 from rfl] at hix
      rw [hc] at hc0
      have b0 : (c0 == 34) = false := by rw [beq_eq_false_iff_ne]; exact hc0
      rw [hz] at hs
      clear hq hz hc hc0
      go_enter Tryd.func38, Tryd.ntmps38
      go_wp2_with fail
      refine (HNU.out _).mono ?_
      rintro e w1 ⟨rfl, hw1⟩
      have hk1 : Kept [] ((w.alloc (.cells #[.int .i64 0, .int .i64 0, .string { data := #[] }] 38)).alloc (.cells #[.int .i64 1, .int .i64 0, .string { data := #[] }] 38)) w1 := by rw [← hw1]; exact Kept.refl _ _
      clear hw1
      have HK1 := Lib.hid (HK0.out.trans hk1)
      have HB1 := Lib.hid (HBB.out _ hk1)
      obtain ⟨a0, a1, a2, fa0, fa1, fa2⟩ := HB1.out.1.three
      obtain ⟨b0, b1, b2, fb0, fb1, fb2⟩ := HB1.out.2.three
      clear hk1
      have HBN := Lib.hid (numV_bd (bI s))
      obtain ⟨n, hn⟩ : ∃ n, (numV (bI s)).1 = n := ⟨_, rfl⟩
      obtain ⟨ok, ho⟩ : ∃ ok, (numV (bI s)).2 = ok := ⟨_, rfl⟩
      have HNV : Hid (numV (bI s) = (n, ok)) := by show _ = _; rw [← hn, ← ho]
      rw [hn] at HBN ⊢
      rw [ho]
      clear hn ho
      have HSZ : Hid (({ data := #[] } : ByteArray).size ≤ maxLen) := by show _ ≤ _; simp [ByteArray.size]
      have HF0 : Hid (4 * ({ data := #[] } : ByteArray).size + 2 ≤ 140737488355328) := by show _ ≤ _; simp [ByteArray.size]
      cases ok with
      | true =>
        have HU := Lib.hid (ParseRel.asks (s := s) (v := (1, n, { data := #[] })) HBN.out.1 HBN.out.2 (num_only HNQ.out HNV.out (fun _ => rfl)))
        go_wp2_with fail
        have HKC : Hid (Kept [] w (w1.setCell ⟨w.heap.size + 1, 1, none⟩ (.int .i64 n))) := HK1.out.setCell (.inr (Nat.le_succ _)) _
        have HAC : Hid (Blk (w1.setCell ⟨w.heap.size + 1, 1, none⟩ (.int .i64 n)) w.heap.size #[.int .i64 0, .int .i64 0, .string { data := #[] }] 38) := HB1.out.1.set_other (by simp) _
        have HBC : Hid (Blk (w1.setCell ⟨w.heap.size + 1, 1, none⟩ (.int .i64 n)) (w.heap.size + 1) #[.int .i64 1, .int .i64 n, .string { data := #[] }] 38) := HB1.out.2.set 1 _
        refine (HTX.out (1, n, { data := #[] }) _ ⟨HBN.out.1, HBN.out.2, HF0.out⟩).mono ?_
        rintro e w3 ⟨rfl, hk3⟩
        have HK3 := Lib.hid (HKC.out.trans hk3)
        have HA3 := Lib.hid (HAC.out.kept hk3 (by simp))
        have HB3 := Lib.hid (HBC.out.kept hk3 (by simp))
        clear hk3 a0 a1 a2 fa0 fa1 fa2 b0 b1 b2 fb0 fb1 fb2
        obtain ⟨a0, a1, a2, fa0, fa1, fa2⟩ := HA3.out.three
        obtain ⟨b0, b1, b2, fb0, fb1, fb2⟩ := HB3.out.three
        obtain ⟨tx, htx⟩ : ∃ tx, textV (1, n, (({ data := #[] }))) = tx := ⟨_, rfl⟩
        rw [htx] at HU ⊢
        clear htx
        by_cases hq : tx = s
        · have HQ := Lib.hid hq
          have hqq : (tx.toList == s.toList) = true := by rw [hq]; exact beq_self_eq_true _
          have hqe : tx.toList = s.toList := by rw [hq]
          clear hq
          go_wp2_with fail
          refine (HCK.out (1, n, (({ data := #[] }))) _ HSZ.out).mono ?_
          rintro e w4 ⟨rfl, hk4⟩
          have HK4 := Lib.hid (HK3.out.trans hk4)
          have HA4 := Lib.hid (HA3.out.kept hk4 (by simp))
          have HB4 := Lib.hid (HB3.out.kept hk4 (by simp))
          clear hk4 a0 a1 a2 fa0 fa1 fa2 b0 b1 b2 fb0 fb1 fb2
          obtain ⟨a0, a1, a2, fa0, fa1, fa2⟩ := HA4.out.three
          obtain ⟨b0, b1, b2, fb0, fb1, fb2⟩ := HB4.out.three
          cases hok : okV (1, n, (({ data := #[] }))) with
          | false =>
            have hc : chkV (1, n, (({ data := #[] }))) = 30 := by unfold chkV; rw [hok]; rfl
            have HREL := Lib.hid (HU.out.2 (.inl hok))
            rw [hc]
            clear hok hc
            go_wp2_with fail
            have bF := ((HA4.out.set 0 (.int .i64 0)).set 1 (.int .i64 0)).set 2 (.string { data := #[] })
            have g0 := bF.cell 0
            have g1 := bF.cell 1
            have g2 := bF.cell 2
            simp at g0 g1 g2
            refine bodyPost_ret (v := .tuple #[.agg #[.int .i64 0, .int .i64 0, .string { data := #[] }], .bool false]) ?_ rfl ⟨(0, 0, { data := #[] }), false, rfl, ?_, ?_⟩
            · simp [results, Tryd.results38, go_sem, g0, g1, g2]
            · exact HREL.out
            · exact ((HK4.out.setCell (.inr (Nat.le_refl _)) _).setCell (.inr (Nat.le_refl _)) _).setCell (.inr (Nat.le_refl _)) _
          | true =>
            have hc : chkV (1, n, (({ data := #[] }))) = 0 := by unfold chkV; rw [hok]; rfl
            have HREL := Lib.hid (HU.out.1 hok HQ.out)
            rw [hc]
            clear hok hc
            go_wp2_with fail
            have bF := ((HA4.out.set 0 (.int .i64 1)).set 1 (.int .i64 n)).set 2 (.string (({ data := #[] })))
            have g0 := bF.cell 0
            have g1 := bF.cell 1
            have g2 := bF.cell 2
            simp at g0 g1 g2
            refine bodyPost_ret (v := .tuple #[.agg #[.int .i64 1, .int .i64 n, .string (({ data := #[] }))], .bool true]) ?_ rfl ⟨(1, n, (({ data := #[] }))), true, rfl, ?_, ?_⟩
            · simp [results, Tryd.results38, go_sem, g0, g1, g2]
            · exact HREL.out
            · exact ((HK4.out.setCell (.inr (Nat.le_refl _)) _).setCell (.inr (Nat.le_refl _)) _).setCell (.inr (Nat.le_refl _)) _
        · have HREL := Lib.hid (HU.out.2 (.inr hq))
          have hqq := toList_ne hq
          have hqe : ¬ tx.toList = s.toList := by simpa using hqq
          clear hq
          go_wp2_with fail
          have bF := ((HA3.out.set 0 (.int .i64 0)).set 1 (.int .i64 0)).set 2 (.string { data := #[] })
          have g0 := bF.cell 0
          have g1 := bF.cell 1
          have g2 := bF.cell 2
          simp at g0 g1 g2
          refine bodyPost_ret (v := .tuple #[.agg #[.int .i64 0, .int .i64 0, .string { data := #[] }], .bool false]) ?_ rfl ⟨(0, 0, { data := #[] }), false, rfl, ?_, ?_⟩
          · simp [results, Tryd.results38, go_sem, g0, g1, g2]
          · exact HREL.out
          · exact ((HK3.out.setCell (.inr (Nat.le_refl _)) _).setCell (.inr (Nat.le_refl _)) _).setCell (.inr (Nat.le_refl _)) _
      | false =>
        have HU := Lib.hid (ParseRel.asks (s := s) (v := (1, 0, { data := #[] })) (by show (-9223372036854775808 : Int) ≤ 0; decide) (by show (0 : Int) ≤ 9223372036854775807; decide) (num_only HNQ.out HNV.out (fun h => by cases h)))
        go_wp2_with fail
        have HKC := HK1
        have HAC := Lib.hid HB1.out.1
        have HBC := Lib.hid HB1.out.2
        refine (HTX.out (1, 0, { data := #[] }) _ ⟨by show (-9223372036854775808 : Int) ≤ 0; decide, by show (0 : Int) ≤ 9223372036854775807; decide, HF0.out⟩).mono ?_
        rintro e w3 ⟨rfl, hk3⟩
        have HK3 := Lib.hid (HKC.out.trans hk3)
        have HA3 := Lib.hid (HAC.out.kept hk3 (by simp))
        have HB3 := Lib.hid (HBC.out.kept hk3 (by simp))
        clear hk3 a0 a1 a2 fa0 fa1 fa2 b0 b1 b2 fb0 fb1 fb2
        obtain ⟨a0, a1, a2, fa0, fa1, fa2⟩ := HA3.out.three
        obtain ⟨b0, b1, b2, fb0, fb1, fb2⟩ := HB3.out.three
        obtain ⟨tx, htx⟩ : ∃ tx, textV (1, 0, (({ data := #[] }))) = tx := ⟨_, rfl⟩
        rw [htx] at HU ⊢
        clear htx
        by_cases hq : tx = s
        · have HQ := Lib.hid hq
          have hqq : (tx.toList == s.toList) = true := by rw [hq]; exact beq_self_eq_true _
          have hqe : tx.toList = s.toList := by rw [hq]
          clear hq
          go_wp2_with fail
          refine (HCK.out (1, 0, (({ data := #[] }))) _ HSZ.out).mono ?_
          rintro e w4 ⟨rfl, hk4⟩
          have HK4 := Lib.hid (HK3.out.trans hk4)
          have HA4 := Lib.hid (HA3.out.kept hk4 (by simp))
          have HB4 := Lib.hid (HB3.out.kept hk4 (by simp))
          clear hk4 a0 a1 a2 fa0 fa1 fa2 b0 b1 b2 fb0 fb1 fb2
          obtain ⟨a0, a1, a2, fa0, fa1, fa2⟩ := HA4.out.three
          obtain ⟨b0, b1, b2, fb0, fb1, fb2⟩ := HB4.out.three
          cases hok : okV (1, 0, (({ data := #[] }))) with
          | false =>
            have hc : chkV (1, 0, (({ data := #[] }))) = 30 := by unfold chkV; rw [hok]; rfl
            have HREL := Lib.hid (HU.out.2 (.inl hok))
            rw [hc]
            clear hok hc
            go_wp2_with fail
            have bF := ((HA4.out.set 0 (.int .i64 0)).set 1 (.int .i64 0)).set 2 (.string { data := #[] })
            have g0 := bF.cell 0
            have g1 := bF.cell 1
            have g2 := bF.cell 2
            simp at g0 g1 g2
            refine bodyPost_ret (v := .tuple #[.agg #[.int .i64 0, .int .i64 0, .string { data := #[] }], .bool false]) ?_ rfl ⟨(0, 0, { data := #[] }), false, rfl, ?_, ?_⟩
            · simp [results, Tryd.results38, go_sem, g0, g1, g2]
            · exact HREL.out
            · exact ((HK4.out.setCell (.inr (Nat.le_refl _)) _).setCell (.inr (Nat.le_refl _)) _).setCell (.inr (Nat.le_refl _)) _
          | true =>
            have hc : chkV (1, 0, (({ data := #[] }))) = 0 := by unfold chkV; rw [hok]; rfl
            have HREL := Lib.hid (HU.out.1 hok HQ.out)
            rw [hc]
            clear hok hc
            go_wp2_with fail
            have bF := ((HA4.out.set 0 (.int .i64 1)).set 1 (.int .i64 0)).set 2 (.string (({ data := #[] })))
            have g0 := bF.cell 0
            have g1 := bF.cell 1
            have g2 := bF.cell 2
            simp at g0 g1 g2
            refine bodyPost_ret (v := .tuple #[.agg #[.int .i64 1, .int .i64 0, .string (({ data := #[] }))], .bool true]) ?_ rfl ⟨(1, 0, (({ data := #[] }))), true, rfl, ?_, ?_⟩
            · simp [results, Tryd.results38, go_sem, g0, g1, g2]
            · exact HREL.out
            · exact ((HK4.out.setCell (.inr (Nat.le_refl _)) _).setCell (.inr (Nat.le_refl _)) _).setCell (.inr (Nat.le_refl _)) _
        · have HREL := Lib.hid (HU.out.2 (.inr hq))
          have hqq := toList_ne hq
          have hqe : ¬ tx.toList = s.toList := by simpa using hqq
          clear hq
          go_wp2_with fail
          have bF := ((HA3.out.set 0 (.int .i64 0)).set 1 (.int .i64 0)).set 2 (.string { data := #[] })
          have g0 := bF.cell 0
          have g1 := bF.cell 1
          have g2 := bF.cell 2
          simp at g0 g1 g2
          refine bodyPost_ret (v := .tuple #[.agg #[.int .i64 0, .int .i64 0, .string { data := #[] }], .bool false]) ?_ rfl ⟨(0, 0, { data := #[] }), false, rfl, ?_, ?_⟩
          · simp [results, Tryd.results38, go_sem, g0, g1, g2]
          · exact HREL.out
          · exact ((HK3.out.setCell (.inr (Nat.le_refl _)) _).setCell (.inr (Nat.le_refl _)) _).setCell (.inr (Nat.le_refl _)) _
    · rw [hz] at hs
      clear hq hz
      go_enter Tryd.func38, Tryd.ntmps38
      go_wp2_with fail
      refine (HNU.out _).mono ?_
      rintro e w1 ⟨rfl, hw1⟩
      have hk1 : Kept [] ((w.alloc (.cells #[.int .i64 0, .int .i64 0, .string { data := #[] }] 38)).alloc (.cells #[.int .i64 1, .int .i64 0, .string { data := #[] }] 38)) w1 := by rw [← hw1]; exact Kept.refl _ _
      clear hw1
      have HK1 := Lib.hid (HK0.out.trans hk1)
      have HB1 := Lib.hid (HBB.out _ hk1)
      obtain ⟨a0, a1, a2, fa0, fa1, fa2⟩ := HB1.out.1.three
      obtain ⟨b0, b1, b2, fb0, fb1, fb2⟩ := HB1.out.2.three
      clear hk1
      have HBN := Lib.hid (numV_bd (bI s))
      obtain ⟨n, hn⟩ : ∃ n, (numV (bI s)).1 = n := ⟨_, rfl⟩
      obtain ⟨ok, ho⟩ : ∃ ok, (numV (bI s)).2 = ok := ⟨_, rfl⟩
      have HNV : Hid (numV (bI s) = (n, ok)) := by show _ = _; rw [← hn, ← ho]
      rw [hn] at HBN ⊢
      rw [ho]
      clear hn ho
      have HSZ : Hid (({ data := #[] } : ByteArray).size ≤ maxLen) := by show _ ≤ _; simp [ByteArray.size]
      have HF0 : Hid (4 * ({ data := #[] } : ByteArray).size + 2 ≤ 140737488355328) := by show _ ≤ _; simp [ByteArray.size]
      cases ok with
      | true =>
        have HU := Lib.hid (ParseRel.asks (s := s) (v := (1, n, { data := #[] })) HBN.out.1 HBN.out.2 (num_only HNQ.out HNV.out (fun _ => rfl)))
        go_wp2_with fail
        have HKC : Hid (Kept [] w (w1.setCell ⟨w.heap.size + 1, 1, none⟩ (.int .i64 n))) := HK1.out.setCell (.inr (Nat.le_succ _)) _
        have HAC : Hid (Blk (w1.setCell ⟨w.heap.size + 1, 1, none⟩ (.int .i64 n)) w.heap.size #[.int .i64 0, .int .i64 0, .string { data := #[] }] 38) := HB1.out.1.set_other (by simp) _
        have HBC : Hid (Blk (w1.setCell ⟨w.heap.size + 1, 1, none⟩ (.int .i64 n)) (w.heap.size + 1) #[.int .i64 1, .int .i64 n, .string { data := #[] }] 38) := HB1.out.2.set 1 _
        refine (HTX.out (1, n, { data := #[] }) _ ⟨HBN.out.1, HBN.out.2, HF0.out⟩).mono ?_
        rintro e w3 ⟨rfl, hk3⟩
        have HK3 := Lib.hid (HKC.out.trans hk3)
        have HA3 := Lib.hid (HAC.out.kept hk3 (by simp))
        have HB3 := Lib.hid (HBC.out.kept hk3 (by simp))
        clear hk3 a0 a1 a2 fa0 fa1 fa2 b0 b1 b2 fb0 fb1 fb2
        obtain ⟨a0, a1, a2, fa0, fa1, fa2⟩ := HA3.out.three
        obtain ⟨b0, b1, b2, fb0, fb1, fb2⟩ := HB3.out.three
        obtain ⟨tx, htx⟩ : ∃ tx, textV (1, n, (({ data := #[] }))) = tx := ⟨_, rfl⟩
        rw [htx] at HU ⊢
        clear htx
        by_cases hq : tx = s
        · have HQ := Lib.hid hq
          have hqq : (tx.toList == s.toList) = true := by rw [hq]; exact beq_self_eq_true _
          have hqe : tx.toList = s.toList := by rw [hq]
          clear hq
          go_wp2_with fail
          refine (HCK.out (1, n, (({ data := #[] }))) _ HSZ.out).mono ?_
          rintro e w4 ⟨rfl, hk4⟩
          have HK4 := Lib.hid (HK3.out.trans hk4)
          have HA4 := Lib.hid (HA3.out.kept hk4 (by simp))
          have HB4 := Lib.hid (HB3.out.kept hk4 (by simp))
          clear hk4 a0 a1 a2 fa0 fa1 fa2 b0 b1 b2 fb0 fb1 fb2
          obtain ⟨a0, a1, a2, fa0, fa1, fa2⟩ := HA4.out.three
          obtain ⟨b0, b1, b2, fb0, fb1, fb2⟩ := HB4.out.three
          cases hok : okV (1, n, (({ data := #[] }))) with
          | false =>
            have hc : chkV (1, n, (({ data := #[] }))) = 30 := by unfold chkV; rw [hok]; rfl
            have HREL := Lib.hid (HU.out.2 (.inl hok))
            rw [hc]
            clear hok hc
            go_wp2_with fail
            have bF := ((HA4.out.set 0 (.int .i64 0)).set 1 (.int .i64 0)).set 2 (.string { data := #[] })
            have g0 := bF.cell 0
            have g1 := bF.cell 1
            have g2 := bF.cell 2
            simp at g0 g1 g2
            refine bodyPost_ret (v := .tuple #[.agg #[.int .i64 0, .int .i64 0, .string { data := #[] }], .bool false]) ?_ rfl ⟨(0, 0, { data := #[] }), false, rfl, ?_, ?_⟩
            · simp [results, Tryd.results38, go_sem, g0, g1, g2]
            · exact HREL.out
            · exact ((HK4.out.setCell (.inr (Nat.le_refl _)) _).setCell (.inr (Nat.le_refl _)) _).setCell (.inr (Nat.le_refl _)) _
          | true =>
            have hc : chkV (1, n, (({ data := #[] }))) = 0 := by unfold chkV; rw [hok]; rfl
            have HREL := Lib.hid (HU.out.1 hok HQ.out)
            rw [hc]
            clear hok hc
            go_wp2_with fail
            have bF := ((HA4.out.set 0 (.int .i64 1)).set 1 (.int .i64 n)).set 2 (.string (({ data := #[] })))
            have g0 := bF.cell 0
            have g1 := bF.cell 1
            have g2 := bF.cell 2
            simp at g0 g1 g2
            refine bodyPost_ret (v := .tuple #[.agg #[.int .i64 1, .int .i64 n, .string (({ data := #[] }))], .bool true]) ?_ rfl ⟨(1, n, (({ data := #[] }))), true, rfl, ?_, ?_⟩
            · simp [results, Tryd.results38, go_sem, g0, g1, g2]
            · exact HREL.out
            · exact ((HK4.out.setCell (.inr (Nat.le_refl _)) _).setCell (.inr (Nat.le_refl _)) _).setCell (.inr (Nat.le_refl _)) _
        · have HREL := Lib.hid (HU.out.2 (.inr hq))
          have hqq := toList_ne hq
          have hqe : ¬ tx.toList = s.toList := by simpa using hqq
          clear hq
          go_wp2_with fail
          have bF := ((HA3.out.set 0 (.int .i64 0)).set 1 (.int .i64 0)).set 2 (.string { data := #[] })
          have g0 := bF.cell 0
          have g1 := bF.cell 1
          have g2 := bF.cell 2
          simp at g0 g1 g2
          refine bodyPost_ret (v := .tuple #[.agg #[.int .i64 0, .int .i64 0, .string { data := #[] }], .bool false]) ?_ rfl ⟨(0, 0, { data := #[] }), false, rfl, ?_, ?_⟩
          · simp [results, Tryd.results38, go_sem, g0, g1, g2]
          · exact HREL.out
          · exact ((HK3.out.setCell (.inr (Nat.le_refl _)) _).setCell (.inr (Nat.le_refl _)) _).setCell (.inr (Nat.le_refl _)) _
      | false =>
        have HU := Lib.hid (ParseRel.asks (s := s) (v := (1, 0, { data := #[] })) (by show (-9223372036854775808 : Int) ≤ 0; decide) (by show (0 : Int) ≤ 9223372036854775807; decide) (num_only HNQ.out HNV.out (fun h => by cases h)))
        go_wp2_with fail
        have HKC := HK1
        have HAC := Lib.hid HB1.out.1
        have HBC := Lib.hid HB1.out.2
        refine (HTX.out (1, 0, { data := #[] }) _ ⟨by show (-9223372036854775808 : Int) ≤ 0; decide, by show (0 : Int) ≤ 9223372036854775807; decide, HF0.out⟩).mono ?_
        rintro e w3 ⟨rfl, hk3⟩
        have HK3 := Lib.hid (HKC.out.trans hk3)
        have HA3 := Lib.hid (HAC.out.kept hk3 (by simp))
        have HB3 := Lib.hid (HBC.out.kept hk3 (by simp))
        clear hk3 a0 a1 a2 fa0 fa1 fa2 b0 b1 b2 fb0 fb1 fb2
        obtain ⟨a0, a1, a2, fa0, fa1, fa2⟩ := HA3.out.three
        obtain ⟨b0, b1, b2, fb0, fb1, fb2⟩ := HB3.out.three
        obtain ⟨tx, htx⟩ : ∃ tx, textV (1, 0, (({ data := #[] }))) = tx := ⟨_, rfl⟩
        rw [htx] at HU ⊢
        clear htx
        by_cases hq : tx = s
        · have HQ := Lib.hid hq
          have hqq : (tx.toList == s.toList) = true := by rw [hq]; exact beq_self_eq_true _
          have hqe : tx.toList = s.toList := by rw [hq]
          clear hq
          go_wp2_with fail
          refine (HCK.out (1, 0, (({ data := #[] }))) _ HSZ.out).mono ?_
          rintro e w4 ⟨rfl, hk4⟩
          have HK4 := Lib.hid (HK3.out.trans hk4)
          have HA4 := Lib.hid (HA3.out.kept hk4 (by simp))
          have HB4 := Lib.hid (HB3.out.kept hk4 (by simp))
          clear hk4 a0 a1 a2 fa0 fa1 fa2 b0 b1 b2 fb0 fb1 fb2
          obtain ⟨a0, a1, a2, fa0, fa1, fa2⟩ := HA4.out.three
          obtain ⟨b0, b1, b2, fb0, fb1, fb2⟩ := HB4.out.three
          cases hok : okV (1, 0, (({ data := #[] }))) with
          | false =>
            have hc : chkV (1, 0, (({ data := #[] }))) = 30 := by unfold chkV; rw [hok]; rfl
            have HREL := Lib.hid (HU.out.2 (.inl hok))
            rw [hc]
            clear hok hc
            go_wp2_with fail
            have bF := ((HA4.out.set 0 (.int .i64 0)).set 1 (.int .i64 0)).set 2 (.string { data := #[] })
            have g0 := bF.cell 0
            have g1 := bF.cell 1
            have g2 := bF.cell 2
            simp at g0 g1 g2
            refine bodyPost_ret (v := .tuple #[.agg #[.int .i64 0, .int .i64 0, .string { data := #[] }], .bool false]) ?_ rfl ⟨(0, 0, { data := #[] }), false, rfl, ?_, ?_⟩
            · simp [results, Tryd.results38, go_sem, g0, g1, g2]
            · exact HREL.out
            · exact ((HK4.out.setCell (.inr (Nat.le_refl _)) _).setCell (.inr (Nat.le_refl _)) _).setCell (.inr (Nat.le_refl _)) _
          | true =>
            have hc : chkV (1, 0, (({ data := #[] }))) = 0 := by unfold chkV; rw [hok]; rfl
            have HREL := Lib.hid (HU.out.1 hok HQ.out)
            rw [hc]
            clear hok hc
            go_wp2_with fail
            have bF := ((HA4.out.set 0 (.int .i64 1)).set 1 (.int .i64 0)).set 2 (.string (({ data := #[] })))
            have g0 := bF.cell 0
            have g1 := bF.cell 1
            have g2 := bF.cell 2
            simp at g0 g1 g2
            refine bodyPost_ret (v := .tuple #[.agg #[.int .i64 1, .int .i64 0, .string (({ data := #[] }))], .bool true]) ?_ rfl ⟨(1, 0, (({ data := #[] }))), true, rfl, ?_, ?_⟩
            · simp [results, Tryd.results38, go_sem, g0, g1, g2]
            · exact HREL.out
            · exact ((HK4.out.setCell (.inr (Nat.le_refl _)) _).setCell (.inr (Nat.le_refl _)) _).setCell (.inr (Nat.le_refl _)) _
        · have HREL := Lib.hid (HU.out.2 (.inr hq))
          have hqq := toList_ne hq
          have hqe : ¬ tx.toList = s.toList := by simpa using hqq
          clear hq
          go_wp2_with fail
          have bF := ((HA3.out.set 0 (.int .i64 0)).set 1 (.int .i64 0)).set 2 (.string { data := #[] })
          have g0 := bF.cell 0
          have g1 := bF.cell 1
          have g2 := bF.cell 2
          simp at g0 g1 g2
          refine bodyPost_ret (v := .tuple #[.agg #[.int .i64 0, .int .i64 0, .string { data := #[] }], .bool false]) ?_ rfl ⟨(0, 0, { data := #[] }), false, rfl, ?_, ?_⟩
          · simp [results, Tryd.results38, go_sem, g0, g1, g2]
          · exact HREL.out
          · exact ((HK3.out.setCell (.inr (Nat.le_refl _)) _).setCell (.inr (Nat.le_refl _)) _).setCell (.inr (Nat.le_refl _)) _

end Go.Proofs.YtmkpbffjgpoplaaDoor

/- An order. -/
import Derived.Test.YthnfoiaahiopdaaDoorRows
import Derived.WalkKit
import Derived.WalkSpells
import Derived.WalkLawsBesides
import Derived.Deep.QuietTactic
import Derived.BigQuiet
import Derived.Lib.Hide
import Derived.Lib.ConvBytes
import Derived.Deep.Slices
import Derived.ProofKit
import Derived.SizedLaws
import Derived.Test.YthnfoiaahiopdaaDoorShelf
import Derived.Laws.BytesArg
import Derived.Laws.BitsLemmas
import Derived.Deep.RegionHeld3
import Derived.Deep.AppendLies
import Derived.Maps.AppendAt
import Derived.Test.YthnfoiaahiopdaaDoorV3
import Derived.Test.YthnfoiaahiopdaaDoorV6
set_option linter.unusedVariables false
set_option linter.unusedSimpArgs false
set_option linter.unnecessarySimpa false
namespace Go.Proofs.YthnfoiaahiopdaaDoor
open Go.RowKit Go.Shelf
attribute [local go_sem] Oper.semAt_some

/-- The cells of three values, each in a block of its own. -/
structure Three (w : World) (A : Nat) (k1 n1 k2 n2 k3 n3 : Int) (s1 s2 s3 : ByteArray) : Prop where
  a0 : w.cell? ⟨A, 0, none⟩ = some (.int .i64 k1)
  a1 : w.cell? ⟨A, 1, none⟩ = some (.int .i64 n1)
  a2 : w.cell? ⟨A, 2, none⟩ = some (.string s1)
  b0 : w.cell? ⟨A + 1, 0, none⟩ = some (.int .i64 k2)
  b1 : w.cell? ⟨A + 1, 1, none⟩ = some (.int .i64 n2)
  b2 : w.cell? ⟨A + 1, 2, none⟩ = some (.string s2)
  c0 : w.cell? ⟨A + 1 + 1, 0, none⟩ = some (.int .i64 k3)
  c1 : w.cell? ⟨A + 1 + 1, 1, none⟩ = some (.int .i64 n3)
  c2 : w.cell? ⟨A + 1 + 1, 2, none⟩ = some (.string s3)
theorem Three.keep {w w' : World} {A : Nat} {k1 n1 k2 n2 k3 n3 : Int} {s1 s2 s3 : ByteArray} (h : Three w A k1 n1 k2 n2 k3 n3 s1 s2 s3) (hk : Kept [] w w') : Three w' A k1 n1 k2 n2 k3 n3 s1 s2 s3 :=
  ⟨hk.cell (by simp) h.a0, hk.cell (by simp) h.a1, hk.cell (by simp) h.a2, hk.cell (by simp) h.b0, hk.cell (by simp) h.b1, hk.cell (by simp) h.b2, hk.cell (by simp) h.c0, hk.cell (by simp) h.c1, hk.cell (by simp) h.c2⟩
theorem Three.new (w : World) (k1 n1 k2 n2 k3 n3 : Int) (s1 s2 s3 : ByteArray) (t : TypeId) :
    Three (((w.alloc (.cells #[.int .i64 k1, .int .i64 n1, .string s1] t)).alloc (.cells #[.int .i64 k2, .int .i64 n2, .string s2] t)).alloc (.cells #[.int .i64 k3, .int .i64 n3, .string s3] t)) w.heap.size k1 n1 k2 n2 k3 n3 s1 s2 s3 := by
  have h2 := (Two.new w k1 n1 k2 n2 s1 s2 t).keep ((Kept.refl [] _).alloc (.cells #[.int .i64 k3, .int .i64 n3, .string s3] t))
  have hc := Blk.new ((w.alloc (.cells #[.int .i64 k1, .int .i64 n1, .string s1] t)).alloc (.cells #[.int .i64 k2, .int .i64 n2, .string s2] t)) #[.int .i64 k3, .int .i64 n3, .string s3] t
  have e : ((w.alloc (.cells #[.int .i64 k1, .int .i64 n1, .string s1] t)).alloc (.cells #[.int .i64 k2, .int .i64 n2, .string s2] t)).heap.size = w.heap.size + 1 + 1 := by simp
  rw [e] at hc
  exact ⟨h2.a0, h2.a1, h2.a2, h2.b0, h2.b1, h2.b2, hc.cell 0, hc.cell 1, hc.cell 2⟩

set_option maxRecDepth 100000 in
set_option maxHeartbeats 16000000 in
theorem lawOrder_any (k1 n1 k2 n2 k3 n3 : Int) (s1 s2 s3 : ByteArray) (w : World) :
    Calls Tryd.prog 3 #[.agg #[.int .i64 k1, .int .i64 n1, .string s1], .agg #[.int .i64 k2, .int .i64 n2, .string s2], .agg #[.int .i64 k3, .int .i64 n3, .string s3]] w fun e w' => e = .returned (.bool true) ∧ Kept [] w w' := by
  have HK0 := Lib.hid ((((Kept.refl [] w).alloc (.cells #[.int .i64 k1, .int .i64 n1, .string s1] 23)).alloc (.cells #[.int .i64 k2, .int .i64 n2, .string s2] 23)).alloc (.cells #[.int .i64 k3, .int .i64 n3, .string s3] 23))
  have HT0 := Lib.hid (Three.new w k1 n1 k2 n2 k3 n3 s1 s2 s3 23)
  have HSW := Lib.hid (cmpV_swap (k1, n1, s1) (k2, n2, s2))
  have HR1 := Lib.hid (cmpV_range (k1, n1, s1) (k2, n2, s2))
  have HR2 := Lib.hid (cmpV_range (k2, n2, s2) (k3, n3, s3))
  have HR3 := Lib.hid (cmpV_range (k1, n1, s1) (k3, n3, s3))
  have HZ := Lib.hid (fun a b => cmpV_zero (k1, n1, s1) (k2, n2, s2) a b)
  have HTR := Lib.hid (fun a b => cmpV_trans (k1, n1, s1) (k2, n2, s2) (k3, n3, s3) a b)
  obtain ⟨c, hc⟩ : ∃ c, cmpV (k1, n1, s1) (k2, n2, s2) = c := ⟨_, rfl⟩
  obtain ⟨d, hd⟩ : ∃ d, cmpV (k2, n2, s2) (k3, n3, s3) = d := ⟨_, rfl⟩
  obtain ⟨f, hf⟩ : ∃ f, cmpV (k1, n1, s1) (k3, n3, s3) = f := ⟨_, rfl⟩
  rw [hc] at HR1 HZ HTR HSW
  rw [hd] at HR2 HTR
  rw [hf] at HR3 HTR
  have HC := Lib.hid hc
  have HD := Lib.hid hd
  have HF := Lib.hid hf
  clear hc hd hf
  obtain ⟨x, ab⟩ := c
  obtain ⟨z, bc⟩ := d
  obtain ⟨v, ac⟩ := f
  go_enter Tryd.func3, Tryd.ntmps3
  go_wp2_with fail
  refine (compare_any k1 n1 k2 n2 s1 s2 _).mono ?_
  rintro e w1 ⟨rfl, hk1⟩
  have HK1 := Lib.hid (HK0.out.trans hk1)
  have HT1 := Lib.hid (HT0.out.keep hk1)
  clear hk1
  rw [HC.out]
  obtain ⟨a0, a1, a2, b0, b1, b2, c0, c1, c2⟩ := HT1.out
  go_wp2_with fail
  refine (compare_any k2 n2 k1 n1 s2 s1 _).mono ?_
  rintro e w2 ⟨rfl, hk2⟩
  have HK2 := Lib.hid (HK1.out.trans hk2)
  have HT2 := Lib.hid (HT1.out.keep hk2)
  clear hk2 a0 a1 a2 b0 b1 b2 c0 c1 c2
  rw [HSW.out]
  obtain ⟨a0, a1, a2, b0, b1, b2, c0, c1, c2⟩ := HT2.out
  go_wp2_with fail
  refine (compare_any k2 n2 k3 n3 s2 s3 _).mono ?_
  rintro e w3 ⟨rfl, hk3⟩
  have HK3 := Lib.hid (HK2.out.trans hk3)
  have HT3 := Lib.hid (HT2.out.keep hk3)
  clear hk3 a0 a1 a2 b0 b1 b2 c0 c1 c2
  rw [HD.out]
  obtain ⟨a0, a1, a2, b0, b1, b2, c0, c1, c2⟩ := HT3.out
  go_wp2_with fail
  refine (compare_any k1 n1 k3 n3 s1 s3 _).mono ?_
  rintro e w4 ⟨rfl, hk4⟩
  have HK4 := Lib.hid (HK3.out.trans hk4)
  have HT4 := Lib.hid (HT3.out.keep hk4)
  clear hk4 a0 a1 a2 b0 b1 b2 c0 c1 c2
  rw [HF.out]
  go_wp2_with fail
  refine (live_any _).mono ?_
  rintro e w5 ⟨rfl, hk5⟩
  have HK5 := Lib.hid (HK4.out.trans hk5)
  have HT5 := Lib.hid (HT4.out.keep hk5)
  clear hk5
  clear HC HD HF HSW
  obtain ⟨a0, a1, a2, b0, b1, b2, c0, c1, c2⟩ := HT5.out
  have hr1 := HR1.out
  have hr2 := HR2.out
  have hr3 := HR3.out
  clear HR1 HR2 HR3
  cases ab with
  | false =>
    clear HZ HTR
    clear hr2 hr3
    rcases hr1 with rfl | rfl | rfl
    all_goals
      go_wp2_with fail
      all_goals (go_ret; exact ⟨rfl, HK5.out⟩)
  | true =>
    have hz := HZ.out rfl
    have htr := HTR.out rfl
    clear HZ HTR
    have HTRI := Lib.hid htr
    clear htr
    have hz2 : x = 0 → (k1 = 1 ∧ n1 = n2) ∨ (k1 = 2 ∧ s1 = s2) := hz
    clear hz
    have HZ2 := Lib.hid hz2
    clear hz2
    rcases hr1 with rfl | rfl | rfl
    · cases bc with
      | false =>
        clear hr2 hr3
        go_wp2_with fail
        all_goals (go_ret; exact ⟨rfl, HK5.out⟩)
      | true =>
        obtain ⟨hac, h3⟩ := HTRI.out rfl
        obtain rfl : ac = true := hac
        have h3' : z ≤ 0 → v < 0 := fun hz => (h3 (by decide) hz).2 (.inl (by decide))
        clear h3
        rcases hr2 with rfl | rfl | rfl
        · obtain rfl : v = -1 := by have := h3' (by decide); have : v = -1 ∨ v = 0 ∨ v = 1 := hr3; omega
          clear h3' hr3
          go_wp2_with fail
          all_goals (go_ret; exact ⟨rfl, HK5.out⟩)
        · obtain rfl : v = -1 := by have := h3' (by decide); have : v = -1 ∨ v = 0 ∨ v = 1 := hr3; omega
          clear h3' hr3
          go_wp2_with fail
          all_goals (go_ret; exact ⟨rfl, HK5.out⟩)
        · clear h3'
          rcases hr3 with rfl | rfl | rfl
          all_goals
            go_wp2_with fail
            all_goals (go_ret; exact ⟨rfl, HK5.out⟩)
    · have hw := HZ2.out rfl
      cases bc with
      | false =>
        clear hr2 hr3
        rcases hw with ⟨rfl, rfl⟩ | ⟨rfl, rfl⟩
        · cases hq : (s1.toList == s2.toList)
          all_goals
            go_wp2_with fail
            all_goals (go_ret; exact ⟨rfl, HK5.out⟩)
        · have hq0 : (s1.toList == s1.toList) = true := beq_self_eq_true _
          cases hq : (n1 == n2)
          all_goals
            go_wp2_with fail
            all_goals (go_ret; exact ⟨rfl, HK5.out⟩)
      | true =>
        obtain ⟨hac, h3⟩ := HTRI.out rfl
        obtain rfl : ac = true := hac
        have h3' : z ≤ 0 → v ≤ 0 ∧ (z < 0 → v < 0) := fun hz => ⟨(h3 (by decide) hz).1, fun h => (h3 (by decide) hz).2 (.inr h)⟩
        clear h3
        rcases hw with ⟨rfl, rfl⟩ | ⟨rfl, rfl⟩
        · cases hq : (s1.toList == s2.toList)
          all_goals
            rcases hr2 with rfl | rfl | rfl
            · obtain rfl : v = -1 := by have := (h3' (by decide)).2 (by decide); have : v = -1 ∨ v = 0 ∨ v = 1 := hr3; omega
              clear h3' hr3
              go_wp2_with fail
              all_goals (go_ret; exact ⟨rfl, HK5.out⟩)
            · have h4 := (h3' (by decide)).1
              clear h3'
              rcases hr3 with rfl | rfl | rfl
              · go_wp2_with fail
                all_goals (go_ret; exact ⟨rfl, HK5.out⟩)
              · go_wp2_with fail
                all_goals (go_ret; exact ⟨rfl, HK5.out⟩)
              · exact absurd h4 (by decide)
            · clear h3'
              rcases hr3 with rfl | rfl | rfl
              all_goals
                go_wp2_with fail
                all_goals (go_ret; exact ⟨rfl, HK5.out⟩)
        · have hq0 : (s1.toList == s1.toList) = true := beq_self_eq_true _
          cases hq : (n1 == n2)
          all_goals
            rcases hr2 with rfl | rfl | rfl
            · obtain rfl : v = -1 := by have := (h3' (by decide)).2 (by decide); have : v = -1 ∨ v = 0 ∨ v = 1 := hr3; omega
              clear h3' hr3
              go_wp2_with fail
              all_goals (go_ret; exact ⟨rfl, HK5.out⟩)
            · have h4 := (h3' (by decide)).1
              clear h3'
              rcases hr3 with rfl | rfl | rfl
              · go_wp2_with fail
                all_goals (go_ret; exact ⟨rfl, HK5.out⟩)
              · go_wp2_with fail
                all_goals (go_ret; exact ⟨rfl, HK5.out⟩)
              · exact absurd h4 (by decide)
            · clear h3'
              rcases hr3 with rfl | rfl | rfl
              all_goals
                go_wp2_with fail
                all_goals (go_ret; exact ⟨rfl, HK5.out⟩)
    · cases bc with
      | false =>
        clear hr2 hr3
        go_wp2_with fail
        all_goals (go_ret; exact ⟨rfl, HK5.out⟩)
      | true =>
        obtain ⟨hac, h3⟩ := HTRI.out rfl
        obtain rfl : ac = true := hac
        clear h3
        rcases hr2 with rfl | rfl | rfl
        all_goals
          rcases hr3 with rfl | rfl | rfl
          all_goals
            go_wp2_with fail
            all_goals (go_ret; exact ⟨rfl, HK5.out⟩)

end Go.Proofs.YthnfoiaahiopdaaDoor

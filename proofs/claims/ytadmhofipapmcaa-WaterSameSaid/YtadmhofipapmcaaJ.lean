/- Marks that no call made; the document's Same. -/
import Derived.Test.YtadmhofipapmcaaI
set_option linter.unusedVariables false
set_option linter.unusedSimpArgs false
namespace Go.Proofs.Ytadmhofipapmcaa
open Go.RowKit

/-- p leads to no marks: nil, or to the zero struct. -/
def NoneW (w : World) (p : Option Addr) : Prop := p = none ∨ ∃ b, p = some ⟨b, 0, none⟩ ∧ WaterAt w b 0 l00
theorem NoneW.keep {w w' : World} {p : Option Addr} (h : NoneW w p) (k : Kept [] w w') : NoneW w' p := by
  rcases h with rfl | ⟨b, rfl, h⟩
  · exact .inl rfl
  · exact .inr ⟨b, rfl, h.kept k (by simp)⟩

theorem none_true (p : Option Addr) (w : World) (h : NoneW w p) : Calls Try.prog 25 #[.pointer p] w fun e w' => e = .returned (.bool true) ∧ w = w' := by
  rcases h with rfl | ⟨b, rfl, h⟩
  · exact none_nil w
  · exact none_zero b _ w h
theorem mark_none (p : Option Addr) (i t : Int) (w : World) (h : NoneW w p) : Calls Try.prog 9 #[.pointer p, .int .i64 i, .int .i64 t] w fun e w' => e = .returned (.tuple #[.bool false, .int .i64 2]) ∧ w = w' := by
  go_enter Try.func9, Try.ntmps9
  go_wp2_with (go_at_call 25; refine (none_true p _ h).mono ?_; rintro e w' ⟨rfl, rfl⟩)
  go_ret2
  exact ⟨rfl, rfl⟩
theorem merged_none (p : Option Addr) (w : World) (h : NoneW w p) : Calls Try.prog 14 #[.pointer p] w fun e w' => e = .returned (.int .i64 0) ∧ w = w' := by
  go_enter Try.func14, Try.ntmps14
  go_wp2_with (go_at_call 25; refine (none_true p _ h).mono ?_; rintro e w' ⟨rfl, rfl⟩)
  go_ret
  exact ⟨rfl, rfl⟩
theorem marks_none (p : Option Addr) (w : World) (h : NoneW w p) : Calls Try.prog 13 #[.pointer p] w fun e w' => e = .returned (.slice none 0 0) ∧ w = w' := by
  go_enter Try.func13, Try.ntmps13
  go_wp2_with (go_at_call 25; refine (none_true p _ h).mono ?_; rintro e w' ⟨rfl, rfl⟩)
  go_ret
  exact ⟨rfl, rfl⟩
theorem clone_none (p : Option Addr) (w : World) (h : NoneW w p) : Calls Try.prog 18 #[.pointer p] w fun e w' => e = .returned (.pointer none) ∧ w = w' := by
  go_enter Try.func18, Try.ntmps18
  go_wp2_with (go_at_call 25; refine (none_true p _ h).mono ?_; rintro e w' ⟨rfl, rfl⟩)
  go_ret
  exact ⟨rfl, rfl⟩
theorem is_none (p : Option Addr) (i : Int) (w : World) (h : NoneW w p) : Calls Try.prog 26 #[.pointer p, .int .i64 i] w fun e w' => e = .returned (.bool false) ∧ w = w' := by
  go_enter Try.func26, Try.ntmps26
  go_wp2_with (go_at_call 25; refine (none_true p _ h).mono ?_; rintro e w' ⟨rfl, rfl⟩)
  go_ret
  exact ⟨rfl, rfl⟩
theorem at_none (p : Option Addr) (i : Int) (w : World) (h : NoneW w p) : Calls Try.prog 22 #[.pointer p, .int .i64 i] w fun e w' => e = .returned (.int .i64 0) ∧ w = w' := by
  go_enter Try.func22, Try.ntmps22
  go_wp2_with (go_at_call 26; refine (is_none p _ _ h).mono ?_; rintro e w' ⟨rfl, rfl⟩)
  go_ret
  exact ⟨rfl, rfl⟩
theorem late_none (p : Option Addr) (i t : Int) (w : World) (h : NoneW w p) : Calls Try.prog 11 #[.pointer p, .int .i64 i, .int .i64 t] w fun e w' => e = .returned (.bool false) ∧ w = w' := by
  go_enter Try.func11, Try.ntmps11
  go_wp2_with (go_at_call 25; refine (none_true p _ h).mono ?_; rintro e w' ⟨rfl, rfl⟩)
  go_ret
  exact ⟨rfl, rfl⟩
theorem horizon_none (p : Option Addr) (w : World) (h : NoneW w p) : Calls Try.prog 10 #[.pointer p, .int .i64 1] w fun e w' => e = .returned (.int .i64 0) ∧ w = w' := by
  go_enter Try.func10, Try.ntmps10
  go_wp2_with (go_at_call 14; refine (merged_none p _ h).mono ?_; rintro e w' ⟨rfl, rfl⟩)
  go_ret
  exact ⟨rfl, rfl⟩
theorem done_none (p : Option Addr) (w : World) (h : NoneW w p) : Calls Try.prog 12 #[.pointer p] w fun e w' => e = .returned (.bool false) ∧ w = w' := by
  go_enter Try.func12, Try.ntmps12
  go_wp2_with (go_at_call 14; refine (merged_none p _ h).mono ?_; rintro e w' ⟨rfl, rfl⟩)
  go_ret
  exact ⟨rfl, rfl⟩
theorem same_l (p q : Option Addr) (w : World) (h : NoneW w p) : Calls Try.prog 19 #[.pointer p, .pointer q] w fun e w' => e = .returned (.bool false) ∧ w = w' := by
  go_enter Try.func19, Try.ntmps19
  go_wp2_with (go_at_call 25; refine (none_true p _ h).mono ?_; rintro e w' ⟨rfl, rfl⟩)
  go_ret
  exact ⟨rfl, rfl⟩
theorem same_r (b n : Nat) (l : List Int) (p : Option Addr) (w : World) (hb : WaterAt w b n l) (hn : 1 ≤ n) (h : NoneW w p) : Calls Try.prog 19 #[.pointer (some ⟨b, 0, none⟩), .pointer p] w fun e w' => e = .returned (.bool false) ∧ w = w' := by
  go_enter Try.func19, Try.ntmps19
  go_wp2_with fail
  refine (none_no b n l _ hb hn).mono ?_
  rintro e w' ⟨rfl, rfl⟩
  go_wp2_with fail
  refine (none_true p _ h).mono ?_
  rintro e w' ⟨rfl, rfl⟩
  go_wp2_with fail
  go_ret
  exact ⟨rfl, rfl⟩

set_option maxHeartbeats 1000000 in
theorem refsame_any (b g b2 g2 : Nat) (r s : List Int) (w : World) (hr : RefAt w b g r) (hs : RefAt w b2 g2 s) :
    Calls Try.prog 23 #[.pointer (some ⟨b, 0, none⟩), .pointer (some ⟨b2, 0, none⟩)] w fun e w' => e = .returned (.bool (decide (r = s))) ∧ ∃ m, w' = w.drewN m := by
  obtain ⟨c1, h1⟩ := hr.head
  obtain ⟨c2, h2⟩ := hs.head
  have hx := hr.cell
  have hy := hs.cell
  have hl12 := hr.2.2.1
  clear hr hs
  by_cases hl : r.length = s.length
  · obtain ⟨n, hn⟩ : ∃ n, n = r.length := ⟨_, rfl⟩
    rw [← hl, ← hn] at h2
    rw [← hn] at h1 hl12 hl
    have HN := Lib.hid hn
    have HL := Lib.hid hl
    have HX := Lib.hid hx
    have HY := Lib.hid hy
    clear hn hl hx hy
    have hb : ((n : Int) != (n : Int)) = false := by simp
    have HE : Hid (∀ W : World, (∀ j, j < n → r[j]? = s[j]?) → r = s) := fun W h => by
      apply List.ext_getElem?
      intro j
      rcases Nat.lt_or_ge j n with h0 | h0
      · exact h j h0
      · have h1 := HN.out; have h2 := HL.out
        rw [List.getElem?_eq_none (by omega), List.getElem?_eq_none (by omega)]
    go_enter Try.func23, Try.ntmps23
    go_wp2_with fail
    go_quiet (fail)
    go_wp2_with fail
    go_loopw [5] (fun i wr => ∃ (j m : Nat), j ≤ n ∧ i = .int .i64 j ∧ wr = w.drewN m ∧ ∀ q, q < j → r[q]? = s[q]?) (fun i _ => n - (intOf i).toNat)
    case atStart => exact ⟨0, _, Nat.zero_le _, rfl, rfl, fun q hq => absurd hq (by omega)⟩
    case round =>
      obtain ⟨j, m, hj, rfl, rfl, hE⟩ := hrel
      have HQ := Lib.hid hE
      clear hE
      by_cases hlt : j < n
      · have hjx : j < r.length := by have := HN.out; omega
        have hjy : j < s.length := by have := HN.out; have := HL.out; omega
        have e1 := HX.out j _ (List.getElem?_eq_getElem hjx)
        have e2 := HY.out j _ (List.getElem?_eq_getElem hjy)
        obtain ⟨x, hx⟩ : ∃ x, x = r[j] := ⟨_, rfl⟩
        obtain ⟨y, hy⟩ : ∃ y, y = s[j] := ⟨_, rfl⟩
        rw [← hx] at e1
        rw [← hy] at e2
        have HX' : Hid (x = r[j]) := hx
        have HY' : Hid (y = s[j]) := hy
        clear hx hy
        by_cases hxy : x = y
        · have hne : (x != y) = false := by simp [hxy]
          have HXY := Lib.hid hxy
          clear hxy
          go_wp2_with fail
          go_quiet (fail)
          go_wp2
          go_roundw
          case rel => exact ⟨j + 1, m + nq, by omega, by go_num, by first | rfl | rw [World.drewN_drewN], fun q hq => by
            rcases Nat.lt_succ_iff_lt_or_eq.1 hq with h | rfl
            · exact HQ.out q h
            · rw [List.getElem?_eq_getElem hjx, List.getElem?_eq_getElem hjy, ← HX'.out, ← HY'.out, HXY.out]⟩
          case measure => simp [intOf]; omega
        · have hne : (x != y) = true := by simp [hxy]
          have HXY := Lib.hid hxy
          clear hxy
          go_wp2_with fail
          go_quiet (fail)
          go_wp2
          go_ret
          refine ⟨ret_bool ?_, m + nq, by first | rfl | rw [World.drewN_drewN]⟩
          symm
          simp only [decide_eq_false_iff_not]
          intro e
          subst e
          exact HXY.out (by rw [HX'.out, HY'.out])
      · go_wp2
        go_ret
        refine ⟨ret_bool ?_, _, rfl⟩
        symm
        simp only [decide_eq_true_eq]
        exact HE.out w (fun q hq => HQ.out q (by omega))
  · have hne : ((r.length : Int) != (s.length : Int)) = true := by simp; omega
    have HL := Lib.hid hl
    clear hl
    go_enter Try.func23, Try.ntmps23
    go_wp2_with fail
    go_quiet (fail)
    go_wp2
    go_ret
    refine ⟨ret_bool ?_, _, rfl⟩
    symm
    simp only [decide_eq_false_iff_not]
    intro e
    exact HL.out (by rw [e])

end Go.Proofs.Ytadmhofipapmcaa

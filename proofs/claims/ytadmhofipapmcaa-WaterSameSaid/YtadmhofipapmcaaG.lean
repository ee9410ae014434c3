/- New and From of both, Clone and Same of the marks, and the look at both. -/
import Derived.Test.YtadmhofipapmcaaF
import Derived.Deep.SlicePairs
import Derived.Deep.OwnRows
set_option linter.unusedVariables false
set_option linter.unusedSimpArgs false
namespace Go.Proofs.Ytadmhofipapmcaa
open Go.RowKit

theorem refnew_no (k : Int) (w : World) (h1 : k < 1 ∨ 12 < k) :
    Calls Try.prog 15 #[.int .i64 k] w fun e w' => e = .returned (.tuple #[.pointer none, .int .i64 1]) ∧ w = w' := by
  rcases h1 with h1 | h1
  · go_enter Try.func15, Try.ntmps15
    go_wp2
    go_ret2
    exact ⟨rfl, rfl⟩
  · have h2 : ¬ k < 1 := by omega
    go_enter Try.func15, Try.ntmps15
    go_wp2
    go_ret2
    exact ⟨rfl, rfl⟩

def RefMade (w : World) (r : List Int) (e : Ending) (w' : World) : Prop :=
  ∃ b g, e = .returned (.tuple #[.pointer (some ⟨b, 0, none⟩), .int .i64 0]) ∧ w.heap.size ≤ b ∧ w.heap.size ≤ g ∧ RefAt w' b g r ∧ Kept [] w w'
def RefNone (w : World) (e : Ending) (w' : World) : Prop := e = .returned (.tuple #[.pointer none, .int .i64 1]) ∧ Kept [] w w'

theorem refnew_ok (k : Nat) (w : World) (h1 : 1 ≤ k) (h2 : k ≤ 12) :
    Calls Try.prog 15 #[.int .i64 k] w (RefMade w (List.replicate k 0)) := by
  have h3 : ¬ ((k : Int) < 1) := by omega
  have h4 : ¬ (12 < (k : Int)) := by omega
  have hmk : ∀ W : World, (Instr.makeSlice 35 (.int .i64 (k : Int)) (.int .i64 (k : Int))).run Try.prog W = .ok (.slice (some ⟨W.heap.size, 0, none⟩) k k) (W.alloc (.cells (madeCells #[.int .i64 0] k) 2)) :=
    fun W => run_make_row' 35 2 (.int .i64 0) 8 Try.underlying35 info2 rfl .i64 .i64 k (by omega) (by omega) W
  go_enter Try.func15, Try.ntmps15
  go_wp2
  go_ret2
  have hl : (List.replicate k (0 : Int)).length = k := by simp
  have hown : (w.alloc (.cells (madeCells #[.int .i64 0] k) 2)).ownsRow w.heap.size 2 1 (.slice (some ⟨w.heap.size, 0, none⟩) k k) k ((List.replicate k (0:Int)).map (.int .i64)) := by
    have h := World.ownsRow_lit (base := w.heap.size) (e := 2) (size := 1) w (madeCells #[.int .i64 0] k) k (Nat.le_refl _) (by unfold maxLen; omega) (by simp [size_madeCells])
    rw [toList_madeCells_one] at h
    simpa using h
  refine ⟨w.heap.size + 1, w.heap.size, rfl, by omega, by omega, ⟨by omega, by intro e; have := congrArg List.length e; simp at this; omega, by simpa using h2, k, ?_, ?_⟩, ?_⟩
  · rw [hl]
    have := Blk.new (w.alloc (.cells (madeCells #[.int .i64 0] k) 2)) #[.slice (some ⟨w.heap.size, 0, none⟩) k k] 60
    rwa [World.size_alloc] at this
  · have := ((RdI.of_own hown).1).keep ((Kept.refl [] _).alloc (.cells #[.slice (some ⟨w.heap.size, 0, none⟩) k k] 60))
    rwa [hl]
  · exact ((Kept.refl [] w).alloc _).alloc _

/-- May all marks be? -/
def mayAll (xs : List Int) : Bool := xs.all mayB
def fromOk (xs : List Int) : Bool := decide (1 ≤ xs.length) && decide (xs.length ≤ 12) && mayAll xs

def RefFrom (w : World) (xs : List Int) (e : Ending) (w' : World) : Prop := (fromOk xs = false ∧ RefNone w e w') ∨ (fromOk xs = true ∧ RefMade w xs e w')

set_option maxHeartbeats 1000000 in
theorem reffrom_any (v : Value) (xs : List Int) (w : World) (hx : RdI w .i64 v xs) :
    Calls Try.prog 17 #[v] w (RefFrom w xs) := by
  obtain ⟨i0, hi, hz0, hz1, hz2⟩ := info_parts info2
  obtain ⟨A, c, rfl, hmx, hx⟩ := hx
  unfold maxLen at hmx
  by_cases c1 : xs.length < 1
  · have e : fromOk xs = false := by unfold fromOk; have : decide (1 ≤ xs.length) = false := by simpa using c1
                                     rw [this]; simp
    have c1' : (xs.length : Int) < 1 := by omega
    go_enter Try.func17, Try.ntmps17
    go_wp2
    go_ret2
    exact .inl ⟨e, rfl, Kept.refl _ _⟩
  · by_cases c2 : 12 < xs.length
    · have e : fromOk xs = false := by unfold fromOk; have : decide (xs.length ≤ 12) = false := by simpa using c2
                                       rw [this]; simp
      have c1' : ¬ (xs.length : Int) < 1 := by omega
      have c2' : (12 : Int) < xs.length := by omega
      go_enter Try.func17, Try.ntmps17
      go_wp2
      go_ret2
      exact .inl ⟨e, rfl, Kept.refl _ _⟩
    · obtain ⟨b, off, rfl, hc⟩ := hx (by intro e; subst e; simp at c1)
      have c1' : ¬ (xs.length : Int) < 1 := by omega
      have c2' : ¬ (12 : Int) < xs.length := by omega
      obtain ⟨n, hn⟩ : ∃ n, n = xs.length := ⟨_, rfl⟩
      rw [← hn] at c1 c2 c1' c2' hmx ⊢
      have HN := Lib.hid hn
      have HC := Lib.hid hc
      clear hn hc hx
      have hb1 : decide ((n : Int) < 1) = false := by simp; omega
      have hb2 : decide ((12 : Int) < (n : Int)) = false := by simp; omega
      go_enter Try.func17, Try.ntmps17
      go_wp2
      go_loop [4] (fun i => ∃ k : Nat, k ≤ n ∧ i = .int .i64 k ∧ (xs.take k).all mayB = true) (fun i => n - (intOf i).toNat)
      case atStart => exact ⟨0, Nat.zero_le _, rfl, rfl⟩
      case round =>
        obtain ⟨k, hk, rfl, hall⟩ := hrel
        have HA := Lib.hid hall
        clear hall
        by_cases hlt : k < n
        · have hl : k < xs.length := by have := HN.out; omega
          have hck := HC.out k _ (List.getElem?_eq_getElem hl)
          obtain ⟨x, hxk⟩ : ∃ x, xs[k] = x := ⟨_, rfl⟩
          rw [hxk] at hck
          have HX := Lib.hid hxk
          clear hxk
          cases hm : mayB x with
          | true =>
            have HM := Lib.hid hm
            clear hm
            go_wp2_with (go_at_call 30; refine (refmay_any x _).mono ?_; rintro e w' ⟨rfl, rfl⟩; rw [HM.out])
            go_round
            case rel => exact ⟨k + 1, by omega, by go_num, by rw [List.take_succ_eq_append_getElem hl, List.all_append, HA.out, HX.out]; simp [HM.out]⟩
            case measure => simp [intOf]; omega
          | false =>
            have HM := Lib.hid hm
            clear hm
            go_wp2_with (go_at_call 30; refine (refmay_any x _).mono ?_; rintro e w' ⟨rfl, rfl⟩; rw [HM.out])
            go_ret2
            refine .inl ⟨?_, rfl, Kept.refl _ _⟩
            have : mayAll xs = false := by
              unfold mayAll
              rw [List.all_eq_false]
              exact ⟨x, by rw [← HX.out]; exact List.getElem_mem hl, by rw [HM.out]; simp⟩
            unfold fromOk; rw [this]; simp
        · have hca : ∀ j u, (xs.map (Value.int .i64))[j]? = some u → w.cell? ((⟨b, off, none⟩ : Addr).add j) = some u := by
            intro j u hu
            rw [List.getElem?_map] at hu
            obtain ⟨y, hy, rfl⟩ := Option.map_eq_some_iff.1 hu
            have ha : (⟨b, off, none⟩ : Addr).add j = ⟨b, off + j, none⟩ := by unfold Addr.add; split <;> simp_all
            rw [ha]
            exact HC.out j y hy
          have HCA := Lib.hid hca
          clear hca
          have hlm : (xs.map (Value.int .i64)).length = n * 1 := by simp; exact HN.out.symm
          have HLM := Lib.hid hlm
          clear hlm
          go_wp2_with (at_builtin; refine wpList_append_own _ rfl _ _ 35 rfl w.heap.size 2 i0 (.int .i64 0) 1 8 Try.underlying35 hi hz0 hz1 hz2 rfl (by decide) _ 0 [] rfl (World.ownsRow_nil _ _ _ _) ⟨b, off, none⟩ n c (xs.map (.int .i64)) rfl HLM.out HCA.out (by simp [Value.oneCell']) (by unfold maxLen; omega) (by omega) (Nat.le_refl _) ?_; intro v' w1 hown hgrow _; obtain ⟨g', cap, rfl, hgb, hgl⟩ := hown.form (by omega))
          go_ret2
          have hk1 : Kept [] w w1 := (Kept.refl [] w).grown hgrow (fun k hk => by cases hk)
          rw [Nat.zero_add] at hown
          have hl : xs.length = n := HN.out.symm
          refine .inr ⟨?_, w1.heap.size, g', rfl, hk1.size, hgb, ⟨by omega, by intro e; rw [e] at hl; simp at hl; omega, by omega, cap, ?_, ?_⟩, hk1.alloc _⟩
          · have h1 : mayAll xs = true := by
              have := HA.out
              rwa [List.take_of_length_le (by omega)] at this
            unfold fromOk
            rw [h1, hl]
            simp
            omega
          · rw [hl]; exact Blk.new w1 _ 60
          · rw [hl]; exact (RdI.of_own hown).1.keep ((Kept.refl [] _).alloc _)


def WMade (w : World) (n : Nat) (l : List Int) (e : Ending) (w' : World) : Prop :=
  ∃ b, e = .returned (.tuple #[.pointer (some ⟨b, 0, none⟩), .int .i64 0]) ∧ w.heap.size ≤ b ∧ WaterAt w' b n l ∧ Kept [] w w'
def filled (xs : List Int) (k : Nat) : List Int := xs.take k ++ List.replicate (12 - k) 0
def WFrom (w : World) (xs : List Int) (e : Ending) (w' : World) : Prop := (fromOk xs = false ∧ RefNone w e w') ∨ (fromOk xs = true ∧ WMade w xs.length (filled xs xs.length) e w')
theorem filled_length (xs : List Int) (k : Nat) (hk : k ≤ xs.length) (hk2 : k ≤ 12) : (filled xs k).length = 12 := by unfold filled; simp; omega
theorem filled_set (xs : List Int) (k : Nat) (hk : k < xs.length) (hk2 : k < 12) : (filled xs k).set k xs[k] = filled xs (k + 1) := by
  unfold filled
  obtain ⟨m, hm⟩ : ∃ m, 12 - k = m + 1 := ⟨11 - k, by omega⟩
  have hm2 : 12 - (k + 1) = m := by omega
  rw [hm, hm2, List.replicate_succ, List.take_succ_eq_append_getElem hk, List.set_append_right _ _ (by simp; omega)]
  have : k - (xs.take k).length = 0 := by simp; omega
  rw [this, List.set_cons_zero, List.append_assoc]
  rfl

set_option maxHeartbeats 1000000 in
theorem from_any (v : Value) (xs : List Int) (w : World) (hx : RdI w .i64 v xs) :
    Calls Try.prog 16 #[v] w (WFrom w xs) := by
  obtain ⟨A, c, rfl, hmx, hx⟩ := hx
  unfold maxLen at hmx
  by_cases c0 : xs.length < 1 ∨ 12 < xs.length
  · have e : fromOk xs = false := by
      unfold fromOk
      rcases c0 with c0 | c0
      · have : decide (1 ≤ xs.length) = false := by simpa using c0
        rw [this]; simp
      · have : decide (xs.length ≤ 12) = false := by simpa using c0
        rw [this]; simp
    have c1 : (xs.length : Int) < 1 ∨ (12 : Int) < xs.length := by omega
    clear c0
    go_enter Try.func16, Try.ntmps16
    go_wp2_with (go_at_call 7; refine (new_no _ _ c1).mono ?_; rintro e w' ⟨rfl, rfl⟩)
    go_ret2
    exact .inl ⟨e, rfl, Kept.refl _ _⟩
  · obtain ⟨b, off, rfl, hc⟩ := hx (by intro e; subst e; simp at c0)
    obtain ⟨n, hn⟩ : ∃ n, n = xs.length := ⟨_, rfl⟩
    have hn1 : 1 ≤ n := by omega
    have hn2 : n ≤ 12 := by omega
    rw [← hn] at hmx ⊢
    have HN := Lib.hid hn
    have HC := Lib.hid hc
    clear hn hc hx c0
    go_enter Try.func16, Try.ntmps16
    go_wp2_with fail
    refine (new_ok n _ (by omega) (by omega)).mono ?_
    rintro e w1 ⟨rfl, hw1⟩
    have hA : WaterAt w1 w.heap.size n l00 := by rw [hw1]; exact WaterAt.new w n l00 hn2 rfl
    have hk1 : Kept [] w w1 := by rw [hw1]; exact (Kept.refl [] w).alloc _
    clear hw1
    go_wp2_with fail
    go_loopw [19] (fun i wr => ∃ k : Nat, k ≤ n ∧ i = .int .i64 k ∧ (xs.take k).all mayB = true ∧ WaterAt wr w.heap.size n (filled xs k) ∧ Kept [] w wr) (fun i _ => n - (intOf i).toNat)
    case atStart => exact ⟨0, Nat.zero_le _, rfl, rfl, hA, hk1⟩
    case round =>
      obtain ⟨k, hk, rfl, hall, hAr, hKr⟩ := hrel
      have HA := Lib.hid hall
      clear hall
      by_cases hlt : k < n
      · have hl : k < xs.length := by have := HN.out; omega
        have hck := hKr.cell (by simp) (HC.out k _ (List.getElem?_eq_getElem hl))
        obtain ⟨x, hxk⟩ : ∃ x, xs[k] = x := ⟨_, rfl⟩
        rw [hxk] at hck
        have HX := Lib.hid hxk
        clear hxk
        have hcell := hAr.idx k hlt
        have hf := hAr.free (1 + k)
        cases hm : mayB x with
        | true =>
          have HM := Lib.hid hm
          clear hm
          go_wp2_with (go_at_call 27; refine (may_any x _).mono ?_; rintro e w' ⟨rfl, rfl⟩; rw [HM.out])
          go_roundw
          case rel => exact ⟨k + 1, by omega, by go_num, by rw [List.take_succ_eq_append_getElem hl, List.all_append, HA.out, HX.out]; simp [HM.out], by rw [← filled_set xs k hl (by omega), HX.out]; exact hAr.set k (by omega) x, hKr.setCell (.inr (Nat.le_refl _)) _⟩
          case measure => simp [intOf]; omega
        | false =>
          have HM := Lib.hid hm
          clear hm
          go_wp2_with (go_at_call 27; refine (may_any x _).mono ?_; rintro e w' ⟨rfl, rfl⟩; rw [HM.out])
          go_ret2
          refine .inl ⟨?_, rfl, hKr⟩
          have : mayAll xs = false := by
            unfold mayAll
            rw [List.all_eq_false]
            exact ⟨x, by rw [← HX.out]; exact List.getElem_mem hl, by rw [HM.out]; simp⟩
          unfold fromOk; rw [this]; simp
      · go_wp2
        go_ret2
        have hl : xs.length = n := HN.out.symm
        have hkn : k = n := by omega
        subst hkn
        refine .inr ⟨?_, _, rfl, Nat.le_refl _, by rw [hl]; exact hAr, hKr⟩
        have h1 : mayAll xs = true := by
          have := HA.out
          rwa [List.take_of_length_le (by omega)] at this
        unfold fromOk
        rw [h1, hl]
        simp
        omega

theorem twelve (l : List Int) (h : l.length = 12) : ∃ a b c d e f g i j k m n, l = [a, b, c, d, e, f, g, i, j, k, m, n] := by
  match l, h with
  | [a, b, c, d, e, f, g, i, j, k, m, n], _ => exact ⟨a, b, c, d, e, f, g, i, j, k, m, n, rfl⟩

set_option maxHeartbeats 1000000 in
theorem clone_water (b n : Nat) (l : List Int) (w : World) (h : WaterAt w b n l) (hn : 1 ≤ n) :
    Calls Try.prog 18 #[.pointer (some ⟨b, 0, none⟩)] w fun e w' => e = .returned (.pointer (some ⟨w.heap.size, 0, none⟩)) ∧ w' = w.alloc (.cells (wcells n l) 50) := by
  have h0 := h.head
  have ha := h.at
  obtain ⟨x0, x1, x2, x3, x4, x5, x6, x7, x8, x9, x10, x11, rfl⟩ := twelve l h.2.1
  have a0 := ha 0 (by omega)
  have a1 := ha 1 (by omega)
  have a2 := ha 2 (by omega)
  have a3 := ha 3 (by omega)
  have a4 := ha 4 (by omega)
  have a5 := ha 5 (by omega)
  have a6 := ha 6 (by omega)
  have a7 := ha 7 (by omega)
  have a8 := ha 8 (by omega)
  have a9 := ha 9 (by omega)
  have a10 := ha 10 (by omega)
  have a11 := ha 11 (by omega)
  clear ha
  simp only [List.getD_cons_zero, List.getD_cons_succ, Nat.add_zero, Nat.reduceAdd] at a0 a1 a2 a3 a4 a5 a6 a7 a8 a9 a10 a11
  go_enter Try.func18, Try.ntmps18
  go_wp2_with (go_at_call 25; refine (none_no b n _ _ h hn).mono ?_; rintro e w' ⟨rfl, rfl⟩)
  go_ret
  exact ⟨rfl, rfl⟩

theorem clone_nil (w : World) : Calls Try.prog 18 #[.pointer none] w fun e w' => e = .returned (.pointer none) ∧ w = w' := by
  go_enter Try.func18, Try.ntmps18
  go_wp2_with (go_at_call 25; refine (none_nil _).mono ?_; rintro e w' ⟨rfl, rfl⟩)
  go_ret
  exact ⟨rfl, rfl⟩
theorem clone_zero (b : Nat) (l : List Int) (w : World) (h : WaterAt w b 0 l) : Calls Try.prog 18 #[.pointer (some ⟨b, 0, none⟩)] w fun e w' => e = .returned (.pointer none) ∧ w = w' := by
  go_enter Try.func18, Try.ntmps18
  go_wp2_with (go_at_call 25; refine (none_zero b l _ h).mono ?_; rintro e w' ⟨rfl, rfl⟩)
  go_ret
  exact ⟨rfl, rfl⟩

set_option maxHeartbeats 1000000 in
theorem same_any (b b' n n' : Nat) (l l' : List Int) (w : World) (h : WaterAt w b n l) (hn : 1 ≤ n) (h' : WaterAt w b' n' l') (hn' : 1 ≤ n') :
    Calls Try.prog 19 #[.pointer (some ⟨b, 0, none⟩), .pointer (some ⟨b', 0, none⟩)] w fun e w' => e = .returned (.bool (decide (l.take n = l'.take n'))) ∧ Kept [] w w' := by
  go_enter Try.func19, Try.ntmps19
  go_wp2_with fail
  refine (none_no b n l _ h hn).mono ?_
  rintro e w' ⟨rfl, rfl⟩
  go_wp2_with fail
  refine (none_no b' n' l' _ h' hn').mono ?_
  rintro e w' ⟨rfl, rfl⟩
  go_wp2_with fail
  refine (marks_any b n l _ h hn).mono ?_
  rintro e w1 ⟨v1, rfl, ho1, hk1⟩
  go_wp2_with fail
  refine (marks_any b' n' l' _ (h'.kept hk1 (by simp)) hn').mono ?_
  rintro e w2 ⟨v2, rfl, ho2, hk2⟩
  go_wp2_with fail
  refine (equal_any .i64 v1 v2 (l.take n) (l'.take n') _ ((RdI.of_own ho1).1.keep hk2) (RdI.of_own ho2).1).mono ?_
  rintro e w3 ⟨rfl, m, rfl⟩
  go_wp2_with fail
  go_ret
  exact ⟨rfl, (hk1.trans hk2).drewN _⟩

end Go.Proofs.Ytadmhofipapmcaa

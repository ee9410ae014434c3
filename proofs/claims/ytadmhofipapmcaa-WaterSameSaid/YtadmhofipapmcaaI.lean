/- WaterDoes: each answer of marks, whatever is marked, is the document's. -/
import Derived.Test.YtadmhofipapmcaaH
set_option linter.unusedVariables false
set_option linter.unusedSimpArgs false
namespace Go.Proofs.Ytadmhofipapmcaa
open Go.RowKit

theorem filled_range (xs : List Int) (h : fromOk xs = true) : InRange (filled xs xs.length) := by
  intro x hx
  unfold filled at hx
  simp only [fromOk, Bool.and_eq_true, mayAll, List.all_eq_true] at h
  rcases List.mem_append.1 hx with hx | hx
  · have := h.2 x (List.mem_of_mem_take hx)
    simp [mayB] at this
    exact this
  · have := List.eq_of_mem_replicate hx
    omega
theorem filled_take (xs : List Int) : (filled xs xs.length).take xs.length = xs := by
  unfold filled
  rw [List.take_length]
  simp
theorem fromOk_len (xs : List Int) (h : fromOk xs = true) : 1 ≤ xs.length ∧ xs.length ≤ 12 := by
  simp only [fromOk, Bool.and_eq_true, decide_eq_true_eq] at h
  exact h.1
theorem zeros_take (k : Nat) (h : k ≤ 12) : l00.take k = List.replicate k 0 := by
  show (List.replicate 12 (0 : Int)).take k = _
  rw [List.take_replicate]
  congr 1
  omega
theorem zeros_range : InRange l00 := by unfold InRange; decide

set_option maxRecDepth 100000 in
set_option maxHeartbeats 4000000 in
theorem does_new (w : World) (k0 : Nat) (v : Value) (A : Option Addr) (n cap : Nat) (xs : List (Int × Int × Bool)) (hx : (Rk.slice opK).K w xs [.slice A n cap]) (win fin : Int) (hk1 : 1 ≤ k0) (hk2 : k0 ≤ 12) :
    Calls Try.prog 5 #[.int .i64 k0, v, .bool false, .slice A n cap, .int .i64 win, .int .i64 fin] w fun e w' => e = .returned (.bool true) ∧ Below w.heap.size w w' := by
  obtain ⟨hnl, hnc, hcm⟩ := slice_len hx
  unfold maxLen at hcm
  have HNL := Lib.hid hnl
  clear hnl
  obtain ⟨N, hN⟩ : ∃ N, N = k0 := ⟨_, rfl⟩
  have hN1 : 1 ≤ N := by omega
  have hNN : N ≤ 12 := by omega
  rw [← hN]
  clear hN hk1 hk2
  · go_enter Try.func5, Try.ntmps5
    go_wp2_with fail
    refine (new_ok N _ (by omega) (by omega)).mono ?_
    rintro e w1 ⟨rfl, hw1⟩
    obtain ⟨b0, hb0⟩ : ∃ b0, w.heap.size = b0 := ⟨_, rfl⟩
    have hA1 : WaterAt w1 b0 N l00 := by rw [hw1, ← hb0]; exact WaterAt.new w N l00 hNN rfl
    have hK1 : Kept [] w w1 := by rw [hw1]; exact (Kept.refl [] w).alloc _
    have hs1 : w1.heap.size = b0 + 1 := by rw [hw1, World.size_alloc, hb0]
    clear hw1
    have HB0 := Lib.hid hb0
    rw [hb0]
    clear hb0
    have HS1 := Lib.hid hs1
    clear hs1
    go_wp2_with fail
    refine (refnew_ok N _ hN1 hNN).mono ?_
    rintro e w2 ⟨b', g0, rfl, hbs, hgs, hR2, hK2⟩
    rw [← zeros_take N hNN] at hR2
    go_wp2_with fail
    refine (begun_ok _).mono ?_
    rintro e w3 ⟨rfl, hK3⟩
    have hA0 := (hA1.kept hK2 (by simp)).kept hK3 (by simp)
    have hR0 := hR2.keep hK3
    have hI0 := zeros_range
    have hK0 := (hK1.trans hK2).trans hK3
    have hne1 : b0 ≠ b' := by have := HS1.out; omega
    have hne2 : b0 ≠ g0 := by have := HS1.out; omega
    have hge1 : w.heap.size ≤ b0 := by have := HB0.out; omega
    have hgeb : w.heap.size ≤ b' := by have := HS1.out; have := HB0.out; omega
    have hge2 : w.heap.size ≤ g0 := by have := HS1.out; have := HB0.out; omega
    obtain ⟨l0, hl0⟩ : ∃ l0, l0 = l00 := ⟨_, rfl⟩
    rw [← hl0] at hA0 hR0 hI0
    clear hl0 hR2 hA1 hK2 hK3 hbs hgs
    go_wp2_with fail
    go_loopw [13, 63] (fun p i wr => ∃ (k bw g : Nat) (l : List Int), k ≤ n ∧ i = .int .i64 k ∧ p = .pointer (some ⟨bw, 0, none⟩) ∧ WaterAt wr bw N l ∧ RefAt wr b' g (l.take N) ∧ InRange l ∧ Kept [] w wr ∧ bw ≠ b' ∧ bw ≠ g ∧ w.heap.size ≤ bw ∧ w.heap.size ≤ g) (fun _ i _ => n - (intOf i).toNat)
    case atStart => exact ⟨0, b0, g0, l0, Nat.zero_le _, rfl, rfl, hA0, hR0, hI0, hK0, hne1, hne2, hge1, hge2⟩
    case round =>
      obtain ⟨k, bw, g, l, hkn, rfl, rfl, hAr, hRr, hI, hKr, hn1, hn2, hg1, hg2⟩ := hrel
      by_cases hlt : k < n
      · obtain ⟨b, off, i, t, c, rfl, _, wi1, wt1, c0, c1, c2⟩ := op_cells hx k hlt hKr
        have hsz := hKr.size
        have hl12 := hAr.2.1
        have hN12 := hAr.1
        have SM : Hid (markErr N l i t = rmarkErr (l.take N) i t ∧ (markL N l i t).take N = rmarkL (l.take N) i t ∧ markRose N l i t = rmarkRose (l.take N) i t) := mark_same N l i t hl12 hN12
        have hKb := hKr.alloc (.cells #[.int .i64 i, .int .i64 t, .bool c] 29)
        have hAb := hAr.alloc (.cells #[.int .i64 i, .int .i64 t, .bool c] 29)
        have hRb := hRr.keep ((Kept.refl [] wr).alloc (.cells #[.int .i64 i, .int .i64 t, .bool c] 29))
        have hIr : InRange (l.take N) := fun x hx => hI x (List.mem_of_mem_take hx)
        have hBx := Blk.new wr #[.int .i64 i, .int .i64 t, .bool c] 29
        have hlb := hAr.2.2.lt
        have hlb' : b' < wr.heap.size := by obtain ⟨_, _, _, _, h4, _⟩ := hRr; exact h4.lt
        have hlg : g < wr.heap.size := by
          have hc := hRr.cell 0 _ (List.getElem?_eq_getElem (by have := hRr.pos; omega))
          exact World.block_lt_of_cell? wr _ hc
        obtain ⟨W1, hW1⟩ : ∃ W1, W1 = wr.alloc (.cells #[.int .i64 i, .int .i64 t, .bool c] 29) := ⟨_, rfl⟩
        have hsz1 : W1.heap.size = wr.heap.size + 1 := by rw [hW1, World.size_alloc]
        cases c with
        | false =>
          go_wp2_with fail
          rw [← hW1] at hKb hAb hRb hBx ⊢
          clear hW1
          have bx0 : W1.cell? ⟨wr.heap.size, 0, none⟩ = some (.int .i64 i) := hBx.cell 0
          have bx1 : W1.cell? ⟨wr.heap.size, 1, none⟩ = some (.int .i64 t) := hBx.cell 1
          have HSZ1 := Lib.hid hsz1
          clear hsz1
          refine (mark_any bw N l i t _ hAb hN1).mono ?_
          rintro e w4 ⟨rfl, hA4, hK4⟩
          have hR4 := hRb.kept hK4 (by simp; omega) (by simp; omega)
          have bx0' := hK4.cell (by simp; omega) bx0
          have bx1' := hK4.cell (by simp; omega) bx1
          rw [SM.out.1, SM.out.2.2]
          go_wp2_with fail
          refine (refmark_any b' g (l.take N) i t _ hR4 hIr).mono ?_
          rintro e w5 ⟨rfl, g', hg', hR5, hK5⟩
          have hA5 := hA4.kept hK5 (by simp; omega)
          rw [← SM.out.2.1] at hR5
          have hK05 : Kept [] w w5 := Kept.after (Kept.after hKb hK4 (by simp; omega)) hK5 (by simp; omega)
          have hgg : bw ≠ g' ∧ w.heap.size ≤ g' := by
            have := hK4.size
            have := HSZ1.out
            rcases hg' with rfl | h <;> omega
          go_wp2_with fail
          refine (look_any bw b' g' N (markL N l i t) win fin _ hA5 hN1 (hI.markL N i t) hR5).mono ?_
          rintro e w6 ⟨rfl, hK6⟩
          go_wp2_with fail
          go_roundw
          case rel => exact ⟨k + 1, bw, g', markL N l i t, by omega, by go_num, rfl, hA5.kept hK6 (by simp), hR5.keep hK6, hI.markL N i t, hK05.trans hK6, hn1, hgg.1, hg1, hgg.2⟩
          case measure => simp [intOf]; omega
        | true =>
          go_wp2_with fail
          rw [← hW1] at hKb hAb hRb hBx ⊢
          clear hW1
          have HSZ1 := Lib.hid hsz1
          clear hsz1
          refine (clone_water bw N l _ hAb hN1).mono ?_
          rintro e w2 ⟨rfl, hw2⟩
          obtain ⟨bc, hbc⟩ : ∃ bc, W1.heap.size = bc := ⟨_, rfl⟩
          have hAc : WaterAt w2 bc N l := by rw [hw2, ← hbc]; exact WaterAt.new W1 N l hN12 hl12
          have hK2 : Kept [] W1 w2 := by rw [hw2]; exact (Kept.refl [] W1).alloc _
          have hsz2 : w2.heap.size = bc + 1 := by rw [hw2, World.size_alloc, hbc]
          clear hw2
          rw [hbc]
          have hbc' : bc = wr.heap.size + 1 := by rw [← hbc]; exact HSZ1.out
          have HBC := Lib.hid hbc'
          have HSZ2 := Lib.hid hsz2
          have HW1 := Lib.hid hbc
          clear hbc hbc' hsz2
          have hA2 := hAb.kept hK2 (by simp)
          have hR2 := hRb.keep hK2
          have hB2 := hBx.kept hK2 (by simp)
          go_wp2_with fail
          refine (same_any bc bw N N l l _ hAc hN1 hA2 hN1).mono ?_
          rintro e w3 ⟨rfl, hK3⟩
          rw [dec_self]
          have hA3 := hA2.kept hK3 (by simp)
          have hAc3 := hAc.kept hK3 (by simp)
          have hR3 := hR2.keep hK3
          have hB3 := hB2.kept hK3 (by simp)
          have bx0 : w3.cell? ⟨wr.heap.size, 0, none⟩ = some (.int .i64 i) := hB3.cell 0
          have bx1 : w3.cell? ⟨wr.heap.size, 1, none⟩ = some (.int .i64 t) := hB3.cell 1
          go_wp2_with fail
          refine (mark_any bw N l i t _ hA3 hN1).mono ?_
          rintro e w4 ⟨rfl, _, hK4⟩
          have hbcne : bc ≠ bw ∧ bc ≠ b' ∧ bc ≠ g ∧ bc ≠ wr.heap.size ∧ w.heap.size ≤ bc := by have := HBC.out; omega
          have hAc4 := hAc3.kept hK4 (by simp; omega)
          have hR4 := hR3.kept hK4 (by simp; omega) (by simp; omega)
          have hB4 := hB3.kept hK4 (by simp; omega)
          have by0 : w4.cell? ⟨wr.heap.size, 0, none⟩ = some (.int .i64 i) := hB4.cell 0
          have by1 : w4.cell? ⟨wr.heap.size, 1, none⟩ = some (.int .i64 t) := hB4.cell 1
          go_wp2_with fail
          refine (mark_any bc N l i t _ hAc4 hN1).mono ?_
          rintro e w5 ⟨rfl, hA5, hK5⟩
          have hR5 := hR4.kept hK5 (by simp; omega) (by simp; omega)
          have hB5 := hB4.kept hK5 (by simp; omega)
          have bz0 : w5.cell? ⟨wr.heap.size, 0, none⟩ = some (.int .i64 i) := hB5.cell 0
          have bz1 : w5.cell? ⟨wr.heap.size, 1, none⟩ = some (.int .i64 t) := hB5.cell 1
          rw [SM.out.1, SM.out.2.2]
          go_wp2_with fail
          refine (refmark_any b' g (l.take N) i t _ hR5 hIr).mono ?_
          rintro e w6 ⟨rfl, g', hg', hR6, hK6⟩
          have hA6 := hA5.kept hK6 (by simp; omega)
          rw [← SM.out.2.1] at hR6
          have hK06 : Kept [] w w6 := Kept.after (Kept.after (Kept.after ((hKb.trans hK2).trans hK3) hK4 (by simp; omega)) hK5 (by simp; omega)) hK6 (by simp; omega)
          have hgg : bc ≠ g' ∧ w.heap.size ≤ g' := by
            have := hK4.size
            have := hK3.size
            have := hK5.size
            have := HSZ2.out
            rcases hg' with rfl | h <;> omega
          go_wp2_with fail
          refine (look_any bc b' g' N (markL N l i t) win fin _ hA6 hN1 (hI.markL N i t) hR6).mono ?_
          rintro e w7 ⟨rfl, hK7⟩
          go_wp2_with fail
          go_roundw
          case rel => exact ⟨k + 1, bc, g', markL N l i t, by omega, by go_num, rfl, hA6.kept hK7 (by simp), hR6.keep hK7, hI.markL N i t, hK06.trans hK7, by omega, hgg.1, by omega, hgg.2⟩
          case measure => simp [intOf]; omega
      · go_wp2_with fail
        refine (look_any bw b' g N l win fin _ hAr hN1 hI hRr).mono ?_
        rintro e w6 ⟨rfl, hK6⟩
        go_wp2_with fail
        go_ret
        exact ⟨rfl, (hKr.trans hK6).below⟩

def NewAny (w : World) (e : Ending) (w' : World) : Prop := ∃ p c, e = .returned (.tuple #[.pointer p, .int .i64 c]) ∧ Kept [] w w'
theorem new_any (k : Int) (w : World) : Calls Try.prog 7 #[.int .i64 k] w (NewAny w) := by
  by_cases h : 1 ≤ k ∧ k ≤ 12
  · refine (new_ok k w h.1 h.2).mono ?_
    rintro e w' ⟨rfl, rfl⟩
    exact ⟨_, _, rfl, (Kept.refl [] w).alloc _⟩
  · refine (new_no k w (by omega)).mono ?_
    rintro e w' ⟨rfl, rfl⟩
    exact ⟨_, _, rfl, Kept.refl [] w⟩
theorem refnew_any (k : Int) (w : World) : Calls Try.prog 15 #[.int .i64 k] w (NewAny w) := by
  by_cases h : 1 ≤ k ∧ k ≤ 12
  · obtain ⟨j, rfl⟩ := Int.eq_ofNat_of_zero_le (show 0 ≤ k by omega)
    refine (refnew_ok j w (by omega) (by omega)).mono ?_
    rintro e w' ⟨b, g, rfl, _, _, _, hk⟩
    exact ⟨_, _, rfl, hk⟩
  · refine (refnew_no k w (by omega)).mono ?_
    rintro e w' ⟨rfl, rfl⟩
    exact ⟨_, _, rfl, Kept.refl [] w⟩

set_option maxRecDepth 100000 in
set_option maxHeartbeats 4000000 in
theorem does_none (w : World) (k0 : Int) (v : Value) (A : Option Addr) (n cap : Nat) (win fin : Int) (hk : k0 < 1 ∨ 12 < k0) :
    Calls Try.prog 5 #[.int .i64 k0, v, .bool false, .slice A n cap, .int .i64 win, .int .i64 fin] w fun e w' => e = .returned (.bool true) ∧ Below w.heap.size w w' := by
  go_enter Try.func5, Try.ntmps5
  go_wp2_with fail
  refine (new_no k0 _ hk).mono ?_
  rintro e w1 ⟨rfl, rfl⟩
  go_wp2_with fail
  refine (refnew_no k0 _ hk).mono ?_
  rintro e w1 ⟨rfl, rfl⟩
  go_wp2_with fail
  refine (begun_ok _).mono ?_
  rintro e w3 ⟨rfl, hK3⟩
  go_wp2_with fail
  go_ret
  exact ⟨rfl, hK3.below⟩

set_option maxRecDepth 100000 in
set_option maxHeartbeats 4000000 in
theorem does_from (w : World) (k0 : Int) (B : Option Addr) (m c : Nat) (fs : List Int) (hv : (Rk.slice (Rk.int .i64)).K w fs [.slice B m c]) (A : Option Addr) (n cap : Nat) (xs : List (Int × Int × Bool)) (hx : (Rk.slice opK).K w xs [.slice A n cap]) (win fin : Int) :
    Calls Try.prog 5 #[.int .i64 k0, .slice B m c, .bool true, .slice A n cap, .int .i64 win, .int .i64 fin] w fun e w' => e = .returned (.bool true) ∧ Below w.heap.size w w' := by
  obtain ⟨hnl, hnc, hcm⟩ := slice_len hx
  unfold maxLen at hcm
  have HNL := Lib.hid hnl
  clear hnl
  have hrd := RdI.of_rk hv
  · go_enter Try.func5, Try.ntmps5
    go_wp2_with fail
    refine (new_any k0 _).mono ?_
    rintro e w1 ⟨p1, c1, rfl, hK1⟩
    go_wp2_with fail
    refine (refnew_any k0 _).mono ?_
    rintro e w2 ⟨p2, c2, rfl, hK2⟩
    have hK02 := hK1.trans hK2
    go_wp2_with fail
    refine (from_any _ fs _ (hrd.keep hK02)).mono ?_
    rintro e w3 (⟨hbad, rfl, hK3⟩ | ⟨hok, b0, rfl, hb0, hA3, hK3⟩)
    · have HB := Lib.hid hbad
      clear hbad
      go_wp2_with fail
      refine (reffrom_any _ fs _ (hrd.keep (hK02.trans hK3))).mono ?_
      rintro e w4 (⟨_, rfl, hK4⟩ | ⟨hok, _⟩)
      · go_wp2_with fail
        refine (begun_ok _).mono ?_
        rintro e w5 ⟨rfl, hK5⟩
        go_wp2_with fail
        go_ret
        exact ⟨rfl, (((hK02.trans hK3).trans hK4).trans hK5).below⟩
      · rw [HB.out] at hok; cases hok
    · have HOK := Lib.hid hok
      clear hok
      go_wp2_with fail
      refine (reffrom_any _ fs _ (hrd.keep (hK02.trans hK3))).mono ?_
      rintro e w4 (⟨hbad, _⟩ | ⟨_, b', g0, rfl, hbs, hgs, hR4, hK4⟩)
      · rw [HOK.out] at hbad; cases hbad
      · obtain ⟨hN1, hNN⟩ := fromOk_len fs HOK.out
        have hb0l := hA3.2.2.lt
        obtain ⟨N, hN⟩ : ∃ N, fs.length = N := ⟨_, rfl⟩
        obtain ⟨l0, hl0⟩ : ∃ l0, filled fs fs.length = l0 := ⟨_, rfl⟩
        have hI0 : InRange l0 := by rw [← hl0]; exact filled_range fs HOK.out
        have hfs : fs = l0.take N := by rw [← hl0, ← hN]; exact (filled_take fs).symm
        rw [hl0, hN] at hA3
        rw [hN] at hN1 hNN
        have HFS := Lib.hid hfs
        clear hl0 hN hfs
        go_wp2_with fail
        refine (begun_ok _).mono ?_
        rintro e w5 ⟨rfl, hK5⟩
        have hA0 := (hA3.kept hK4 (by simp)).kept hK5 (by simp)
        have hR0 := hR4.keep hK5
        rw [HFS.out] at hR0
        have hK0 := ((hK02.trans hK3).trans hK4).trans hK5
        have hs0 := hK02.size
        have hne1 : b0 ≠ b' := by omega
        have hne2 : b0 ≠ g0 := by omega
        have hge1 : w.heap.size ≤ b0 := by omega
        have hgeb : w.heap.size ≤ b' := by have := hK3.size; omega
        have hge2 : w.heap.size ≤ g0 := by have := hK3.size; omega
        clear hR4 hA3 hK3 hK4 hK5 hbs hgs hb0 hb0l hs0
        go_wp2_with fail
        go_loopw [13, 63] (fun p i wr => ∃ (k bw g : Nat) (l : List Int), k ≤ n ∧ i = .int .i64 k ∧ p = .pointer (some ⟨bw, 0, none⟩) ∧ WaterAt wr bw N l ∧ RefAt wr b' g (l.take N) ∧ InRange l ∧ Kept [] w wr ∧ bw ≠ b' ∧ bw ≠ g ∧ w.heap.size ≤ bw ∧ w.heap.size ≤ g) (fun _ i _ => n - (intOf i).toNat)
        case atStart => exact ⟨0, b0, g0, l0, Nat.zero_le _, rfl, rfl, hA0, hR0, hI0, hK0, hne1, hne2, hge1, hge2⟩
        case round =>
          obtain ⟨k, bw, g, l, hkn, rfl, rfl, hAr, hRr, hI, hKr, hn1, hn2, hg1, hg2⟩ := hrel
          by_cases hlt : k < n
          · obtain ⟨b, off, i, t, c, rfl, _, wi1, wt1, c0, c1, c2⟩ := op_cells hx k hlt hKr
            have hsz := hKr.size
            have hl12 := hAr.2.1
            have hN12 := hAr.1
            have SM : Hid (markErr N l i t = rmarkErr (l.take N) i t ∧ (markL N l i t).take N = rmarkL (l.take N) i t ∧ markRose N l i t = rmarkRose (l.take N) i t) := mark_same N l i t hl12 hN12
            have hKb := hKr.alloc (.cells #[.int .i64 i, .int .i64 t, .bool c] 29)
            have hAb := hAr.alloc (.cells #[.int .i64 i, .int .i64 t, .bool c] 29)
            have hRb := hRr.keep ((Kept.refl [] wr).alloc (.cells #[.int .i64 i, .int .i64 t, .bool c] 29))
            have hIr : InRange (l.take N) := fun x hx => hI x (List.mem_of_mem_take hx)
            have hBx := Blk.new wr #[.int .i64 i, .int .i64 t, .bool c] 29
            have hlb := hAr.2.2.lt
            have hlb' : b' < wr.heap.size := by obtain ⟨_, _, _, _, h4, _⟩ := hRr; exact h4.lt
            have hlg : g < wr.heap.size := by
              have hc := hRr.cell 0 _ (List.getElem?_eq_getElem (by have := hRr.pos; omega))
              exact World.block_lt_of_cell? wr _ hc
            obtain ⟨W1, hW1⟩ : ∃ W1, W1 = wr.alloc (.cells #[.int .i64 i, .int .i64 t, .bool c] 29) := ⟨_, rfl⟩
            have hsz1 : W1.heap.size = wr.heap.size + 1 := by rw [hW1, World.size_alloc]
            cases c with
            | false =>
              go_wp2_with fail
              rw [← hW1] at hKb hAb hRb hBx ⊢
              clear hW1
              have bx0 : W1.cell? ⟨wr.heap.size, 0, none⟩ = some (.int .i64 i) := hBx.cell 0
              have bx1 : W1.cell? ⟨wr.heap.size, 1, none⟩ = some (.int .i64 t) := hBx.cell 1
              have HSZ1 := Lib.hid hsz1
              clear hsz1
              refine (mark_any bw N l i t _ hAb hN1).mono ?_
              rintro e w4 ⟨rfl, hA4, hK4⟩
              have hR4 := hRb.kept hK4 (by simp; omega) (by simp; omega)
              have bx0' := hK4.cell (by simp; omega) bx0
              have bx1' := hK4.cell (by simp; omega) bx1
              rw [SM.out.1, SM.out.2.2]
              go_wp2_with fail
              refine (refmark_any b' g (l.take N) i t _ hR4 hIr).mono ?_
              rintro e w5 ⟨rfl, g', hg', hR5, hK5⟩
              have hA5 := hA4.kept hK5 (by simp; omega)
              rw [← SM.out.2.1] at hR5
              have hK05 : Kept [] w w5 := Kept.after (Kept.after hKb hK4 (by simp; omega)) hK5 (by simp; omega)
              have hgg : bw ≠ g' ∧ w.heap.size ≤ g' := by
                have := hK4.size
                have := HSZ1.out
                rcases hg' with rfl | h <;> omega
              go_wp2_with fail
              refine (look_any bw b' g' N (markL N l i t) win fin _ hA5 hN1 (hI.markL N i t) hR5).mono ?_
              rintro e w6 ⟨rfl, hK6⟩
              go_wp2_with fail
              go_roundw
              case rel => exact ⟨k + 1, bw, g', markL N l i t, by omega, by go_num, rfl, hA5.kept hK6 (by simp), hR5.keep hK6, hI.markL N i t, hK05.trans hK6, hn1, hgg.1, hg1, hgg.2⟩
              case measure => simp [intOf]; omega
            | true =>
              go_wp2_with fail
              rw [← hW1] at hKb hAb hRb hBx ⊢
              clear hW1
              have HSZ1 := Lib.hid hsz1
              clear hsz1
              refine (clone_water bw N l _ hAb hN1).mono ?_
              rintro e w2 ⟨rfl, hw2⟩
              obtain ⟨bc, hbc⟩ : ∃ bc, W1.heap.size = bc := ⟨_, rfl⟩
              have hAc : WaterAt w2 bc N l := by rw [hw2, ← hbc]; exact WaterAt.new W1 N l hN12 hl12
              have hK2 : Kept [] W1 w2 := by rw [hw2]; exact (Kept.refl [] W1).alloc _
              have hsz2 : w2.heap.size = bc + 1 := by rw [hw2, World.size_alloc, hbc]
              clear hw2
              rw [hbc]
              have hbc' : bc = wr.heap.size + 1 := by rw [← hbc]; exact HSZ1.out
              have HBC := Lib.hid hbc'
              have HSZ2 := Lib.hid hsz2
              have HW1 := Lib.hid hbc
              clear hbc hbc' hsz2
              have hA2 := hAb.kept hK2 (by simp)
              have hR2 := hRb.keep hK2
              have hB2 := hBx.kept hK2 (by simp)
              go_wp2_with fail
              refine (same_any bc bw N N l l _ hAc hN1 hA2 hN1).mono ?_
              rintro e w3 ⟨rfl, hK3⟩
              rw [dec_self]
              have hA3 := hA2.kept hK3 (by simp)
              have hAc3 := hAc.kept hK3 (by simp)
              have hR3 := hR2.keep hK3
              have hB3 := hB2.kept hK3 (by simp)
              have bx0 : w3.cell? ⟨wr.heap.size, 0, none⟩ = some (.int .i64 i) := hB3.cell 0
              have bx1 : w3.cell? ⟨wr.heap.size, 1, none⟩ = some (.int .i64 t) := hB3.cell 1
              go_wp2_with fail
              refine (mark_any bw N l i t _ hA3 hN1).mono ?_
              rintro e w4 ⟨rfl, _, hK4⟩
              have hbcne : bc ≠ bw ∧ bc ≠ b' ∧ bc ≠ g ∧ bc ≠ wr.heap.size ∧ w.heap.size ≤ bc := by have := HBC.out; omega
              have hAc4 := hAc3.kept hK4 (by simp; omega)
              have hR4 := hR3.kept hK4 (by simp; omega) (by simp; omega)
              have hB4 := hB3.kept hK4 (by simp; omega)
              have by0 : w4.cell? ⟨wr.heap.size, 0, none⟩ = some (.int .i64 i) := hB4.cell 0
              have by1 : w4.cell? ⟨wr.heap.size, 1, none⟩ = some (.int .i64 t) := hB4.cell 1
              go_wp2_with fail
              refine (mark_any bc N l i t _ hAc4 hN1).mono ?_
              rintro e w5 ⟨rfl, hA5, hK5⟩
              have hR5 := hR4.kept hK5 (by simp; omega) (by simp; omega)
              have hB5 := hB4.kept hK5 (by simp; omega)
              have bz0 : w5.cell? ⟨wr.heap.size, 0, none⟩ = some (.int .i64 i) := hB5.cell 0
              have bz1 : w5.cell? ⟨wr.heap.size, 1, none⟩ = some (.int .i64 t) := hB5.cell 1
              rw [SM.out.1, SM.out.2.2]
              go_wp2_with fail
              refine (refmark_any b' g (l.take N) i t _ hR5 hIr).mono ?_
              rintro e w6 ⟨rfl, g', hg', hR6, hK6⟩
              have hA6 := hA5.kept hK6 (by simp; omega)
              rw [← SM.out.2.1] at hR6
              have hK06 : Kept [] w w6 := Kept.after (Kept.after (Kept.after ((hKb.trans hK2).trans hK3) hK4 (by simp; omega)) hK5 (by simp; omega)) hK6 (by simp; omega)
              have hgg : bc ≠ g' ∧ w.heap.size ≤ g' := by
                have := hK4.size
                have := hK3.size
                have := hK5.size
                have := HSZ2.out
                rcases hg' with rfl | h <;> omega
              go_wp2_with fail
              refine (look_any bc b' g' N (markL N l i t) win fin _ hA6 hN1 (hI.markL N i t) hR6).mono ?_
              rintro e w7 ⟨rfl, hK7⟩
              go_wp2_with fail
              go_roundw
              case rel => exact ⟨k + 1, bc, g', markL N l i t, by omega, by go_num, rfl, hA6.kept hK7 (by simp), hR6.keep hK7, hI.markL N i t, hK06.trans hK7, by omega, hgg.1, by omega, hgg.2⟩
              case measure => simp [intOf]; omega
          · go_wp2_with fail
            refine (look_any bw b' g N l win fin _ hAr hN1 hI hRr).mono ?_
            rintro e w6 ⟨rfl, hK6⟩
            go_wp2_with fail
            go_ret
            exact ⟨rfl, (hKr.trans hK6).below⟩

theorem does_walk (w : World) (k0 : Int) (wk : (Lit.int .i64 k0).wf = true) (B : Option Addr) (m c : Nat) (fs : List Int) (hv : (Rk.slice (Rk.int .i64)).K w fs [.slice B m c]) (given : Bool)
    (A : Option Addr) (n cap : Nat) (xs : List (Int × Int × Bool)) (hx : (Rk.slice opK).K w xs [.slice A n cap]) (win : Int) (_ : (Lit.int .i64 win).wf = true) (fin : Int) (_ : (Lit.int .i64 fin).wf = true) :
    Calls Try.prog 5 #[.int .i64 k0, .slice B m c, .bool given, .slice A n cap, .int .i64 win, .int .i64 fin] w fun e w' => e = .returned (.bool true) ∧ Below w.heap.size w w' := by
  cases given with
  | true => exact does_from w k0 B m c fs hv A n cap xs hx win fin
  | false =>
    by_cases h : k0 < 1 ∨ 12 < k0
    · exact does_none w k0 _ A n cap win fin h
    · obtain ⟨j, rfl⟩ := Int.eq_ofNat_of_zero_le (show 0 ≤ k0 by omega)
      exact does_new w j _ A n cap xs hx win fin (by omega) (by omega)

end Go.Proofs.Ytadmhofipapmcaa

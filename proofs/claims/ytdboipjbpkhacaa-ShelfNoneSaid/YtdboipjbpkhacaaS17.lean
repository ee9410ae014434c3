/- Oldest; the closure of does; does. -/
import Derived.Test.YtdboipjbpkhacaaS16
import Derived.Deep.RegionHeld3
set_option linter.unusedVariables false
set_option linter.unusedSimpArgs false
set_option linter.unnecessarySimpa false
namespace Go.Proofs.Ytdboipjbpkhacaa
open Go.RowKit Go.Shelf

theorem field_span (x1 x2 : Int) (xt : ByteArray) (w : World) : (Instr.field 75 (.agg #[.int .i64 x1, .int .i64 x2, .string xt]) 0).run Try.prog w = .ok (.agg #[.int .i64 x1, .int .i64 x2]) w := by kernel_rfl
theorem field_begin (x1 x2 : Int) (w : World) : (Instr.field 29 (.agg #[.int .i64 x1, .int .i64 x2]) 0).run Try.prog w = .ok (.int .i64 x1) w := by kernel_rfl
attribute [local go_sem] field_span field_begin

set_option maxRecDepth 100000 in
set_option maxHeartbeats 2000000 in
theorem oldest_any (F : List Nat) (b : Nat) (m : Int) (L : List Th) (w : World) (h : Sh w F b m L) : Calls Try.prog 17 #[.pointer (some ⟨b, 0, none⟩)] w (OldPost w L) := by
  have HL := Lib.hid (len_any F b m L w h)
  obtain ⟨hm0, hm1, hl, lv, hb, ho, hF, hn⟩ := h
  have c1 := hb.cell 1
  simp at c1
  have hrd := (RdT.of_own ho hl).1
  obtain ⟨AA, cc, rfl⟩ := own_len ho
  clear ho hF hn hb
  cases L with
  | nil =>
    go_enter Try.func17, Try.ntmps17
    go_wp2_with fail
    refine HL.out.mono ?_
    rintro e w' ⟨rfl, rfl⟩
    go_wp2_with fail
    go_ret2
    exact ⟨rfl, Kept.refl _ _⟩
  | cons x0 xs =>
    have MF := Lib.hid (minfunc_any _ x0 xs w hrd)
    unfold OldPost
    obtain ⟨n, hn⟩ : ∃ n, (x0 :: xs).length = n := ⟨_, rfl⟩
    have hn1 : 1 ≤ n := by rw [← hn]; simp
    rw [hn] at HL MF c1 hl ⊢
    have hd : decide (0 < n) = true := by simp; omega
    rw [hd]
    have hne : ((n : Int) == 0) = false := by simp; omega
    obtain ⟨G, hG⟩ : ∃ G, oldB (x0 :: xs) = G := ⟨_, rfl⟩
    have HG : Hid (oldGo x0.1 xs = G) := hG
    rw [hG]
    clear hn hrd hd hG
    go_enter Try.func17, Try.ntmps17
    go_wp2_with fail
    refine HL.out.mono ?_
    rintro e w' ⟨rfl, rfl⟩
    go_wp2_with fail
    refine MF.out.mono ?_
    rintro e w2 ⟨⟨x1, x2, xt⟩, rfl, hx, hk⟩
    dsimp only at hx
    rw [HG.out] at hx
    dsimp only
    subst hx
    go_wp2_with fail
    go_ret2
    exact ⟨rfl, hk⟩
theorem oldest_nil (w : World) : Calls Try.prog 17 #[.pointer none] w fun e w' => e = .returned (.tuple #[.int .i64 0, .bool false]) ∧ w = w' := by
  go_enter Try.func17, Try.ntmps17
  go_wp2_with fail
  refine (len_nil _).mono ?_
  rintro e w' ⟨rfl, rfl⟩
  go_wp2_with fail
  go_ret2
  exact ⟨rfl, rfl⟩

theorem str_eq_f {x y : ByteArray} (h : x ≠ y) : (x.toList == y.toList) = false := by
  have := str_ne h
  simpa using this
theorem does1_any (ob : Nat) (s : ByteArray) (x1 x2 : Int) (xs : ByteArray) (w : World) (hc : w.cell? ⟨ob, 3, none⟩ = some (.string s)) :
    Calls Try.prog 35 #[.agg #[.int .i64 x1, .int .i64 x2], .string xs, .pointer (some ⟨ob, 0, none⟩)] w fun e w' => e = .returned (.bool (textIs s (x1, x2, xs))) ∧ Kept [] w w' := by
  have hl := World.block_lt_of_cell? w _ hc
  dsimp only at hl
  unfold textIs
  by_cases h : xs = s
  · subst h
    go_enter Try.func35, Try.ntmps35
    go_wp2_with fail
    go_ret
    exact ⟨by simp, (Kept.refl [] w).alloc _⟩
  · have hne := str_eq_f h
    go_enter Try.func35, Try.ntmps35
    go_wp2_with fail
    go_ret
    exact ⟨by simp [h], (Kept.refl [] w).alloc _⟩

end Go.Proofs.Ytdboipjbpkhacaa

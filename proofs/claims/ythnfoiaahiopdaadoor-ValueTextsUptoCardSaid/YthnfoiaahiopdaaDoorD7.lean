/- Any value's text, and what any text says: the law's walk. -/
import Derived.Test.YthnfoiaahiopdaaDoorD6
import Derived.Test.YthnfoiaahiopdaaDoorXL
import Derived.Deep.DeepCutAuto
import Derived.Deep.Strs
set_option linter.unusedVariables false
set_option linter.unusedSimpArgs false
set_option linter.unnecessarySimpa false
namespace Go.Proofs.YthnfoiaahiopdaaDoor
open Go.RowKit Go.Shelf Go.Deep Go.ChangeShapes
attribute [local go_sem] Oper.semAt_some

set_option maxRecDepth 100000 in
set_option maxHeartbeats 4000000 in
theorem lawTexts_any (k n : Int) (t s : ByteArray) (hn0 : -9223372036854775808 ≤ n) (hn1 : n ≤ 9223372036854775807) (ht : t.size ≤ 17592186044416) (hs : s.size ≤ 17592186044416) (w : World) (hv : Vars w) :
    Calls Tryd.prog 9 #[.agg #[.int .i64 k, .int .i64 n, .string t], .string s] w fun e w' => e = .returned (.bool true) ∧ Kept [] w w' := by
  have hf : Fits (k, n, t) := ⟨hn0, hn1, by show 4 * t.size + 2 ≤ _; omega⟩
  have HTX : Hid (∀ W, Kept [] w W → Calls Tryd.prog 36 #[.agg #[.int .i64 k, .int .i64 n, .string t]] W fun e w' => e = .returned (.string (textV (k, n, t))) ∧ Kept [] W w') := fun W hk => text_any k n t hf W (hv.tab.keep hk)
  have HRX : Hid (∀ W, Calls Tryd.prog 37 #[.agg #[.int .i64 k, .int .i64 n, .string t]] W fun e w' => e = .returned (.string (textV (k, n, t))) ∧ Kept [] W w') := fun W => rtext_any k n t hf W
  have HPS : Hid (∀ W, Kept [] w W → Calls Tryd.prog 34 #[.string s] W (ParsePost W s)) := fun W hk => parse_any s (by omega) W (hv.keep hk)
  have HRP : Hid (∀ W, Calls Tryd.prog 35 #[.string s] W (ParsePost W s)) := fun W => rparse_any s hs W
  have HLV : Hid (∀ W, Calls Tryd.prog 12 #[] W fun e w' => e = .returned (.bool true) ∧ Kept [] W w') := fun W => live_any W
  have HK0 := Lib.hid ((Kept.refl [] w).alloc (.cells #[.int .i64 k, .int .i64 n, .string t] 23))
  have HA0 := Lib.hid (Blk.new w #[.int .i64 k, .int .i64 n, .string t] 23)
  obtain ⟨X, hX⟩ : ∃ X, textV (k, n, t) = X := ⟨_, rfl⟩
  rw [hX] at HTX HRX
  clear hv hX hf
  go_enter Tryd.func9, Tryd.ntmps9
  go_wp2_with fail
  refine (HPS.out _ HK0.out).mono ?_
  rintro e w1 ⟨⟨x1, x2, x3⟩, b, rfl, hr1, hk1⟩
  have HK1 := Lib.hid (HK0.out.trans hk1)
  have HA1 := Lib.hid (HA0.out.kept hk1 (by simp))
  have HB1 := Lib.hid (Blk.new w1 #[.int .i64 x1, .int .i64 x2, .string x3] 23)
  have HR1 := Lib.hid hr1
  clear hk1 hr1
  simp only [valV]
  go_wp2_with fail
  refine (HRP.out _).mono ?_
  rintro e w2 ⟨⟨y1, y2, y3⟩, b', rfl, hr2, hk2⟩
  obtain ⟨e1, rfl⟩ := HR1.out.one hr2
  injection e1 with e1 e2
  injection e2 with e2 e3
  subst e1 e2 e3
  have HK2 := Lib.hid ((HK1.out.alloc _).trans hk2)
  have HA2 := Lib.hid ((HA1.out.alloc _).kept hk2 (by simp))
  have HB2 := Lib.hid (HB1.out.kept hk2 (by simp))
  have HC2 := Lib.hid (Blk.new w2 #[.int .i64 x1, .int .i64 x2, .string x3] 23)
  clear hk2 hr2
  simp only [valV]
  go_upto_region 3 with fail
  obtain ⟨wD, hwD⟩ : ∃ wD, w2.alloc (.cells #[.int .i64 x1, .int .i64 x2, .string x3] 23) = wD := ⟨_, rfl⟩
  have HKD : Hid (Kept [] w wD) := by show Kept _ _ _; rw [← hwD]; exact HK2.out.alloc _
  have HAD : Hid (Blk wD w.heap.size #[.int .i64 k, .int .i64 n, .string t] 23) := by show Blk _ _ _ _; rw [← hwD]; exact HA2.out.alloc _
  have HBD : Hid (Blk wD w1.heap.size #[.int .i64 x1, .int .i64 x2, .string x3] 23) := by show Blk _ _ _ _; rw [← hwD]; exact HB2.out.alloc _
  have HCD : Hid (Blk wD w2.heap.size #[.int .i64 x1, .int .i64 x2, .string x3] 23) := by show Blk _ _ _ _; rw [← hwD]; exact HC2.out
  rw [hwD]
  clear hwD
  have a0 : ∀ x : SW (Kept [] wD), x.to.cell? ⟨w.heap.size, 0, none⟩ = some (.int .i64 k) := fun x => (HAD.out.kept x.ok (by simp)).three.1
  have a1 : ∀ x : SW (Kept [] wD), x.to.cell? ⟨w.heap.size, 1, none⟩ = some (.int .i64 n) := fun x => (HAD.out.kept x.ok (by simp)).three.2.1
  have a2 : ∀ x : SW (Kept [] wD), x.to.cell? ⟨w.heap.size, 2, none⟩ = some (.string t) := fun x => (HAD.out.kept x.ok (by simp)).three.2.2.1
  have b0 : ∀ x : SW (Kept [] wD), x.to.cell? ⟨w1.heap.size, 0, none⟩ = some (.int .i64 x1) := fun x => (HBD.out.kept x.ok (by simp)).three.1
  have b1 : ∀ x : SW (Kept [] wD), x.to.cell? ⟨w1.heap.size, 1, none⟩ = some (.int .i64 x2) := fun x => (HBD.out.kept x.ok (by simp)).three.2.1
  have b2 : ∀ x : SW (Kept [] wD), x.to.cell? ⟨w1.heap.size, 2, none⟩ = some (.string x3) := fun x => (HBD.out.kept x.ok (by simp)).three.2.2.1
  have c0 : ∀ x : SW (Kept [] wD), x.to.cell? ⟨w2.heap.size, 0, none⟩ = some (.int .i64 x1) := fun x => (HCD.out.kept x.ok (by simp)).three.1
  have c1 : ∀ x : SW (Kept [] wD), x.to.cell? ⟨w2.heap.size, 1, none⟩ = some (.int .i64 x2) := fun x => (HCD.out.kept x.ok (by simp)).three.2.1
  have c2 : ∀ x : SW (Kept [] wD), x.to.cell? ⟨w2.heap.size, 2, none⟩ = some (.string x3) := fun x => (HCD.out.kept x.ok (by simp)).three.2.2.1
  have hall : ∀ x : SW (Kept [] wD), Kept [] wD x.to := fun x => x.ok
  refine wp_region_sw (Kept [] wD) (stays_kept wD) (Kept.refl _ _) (by kernel_rfl) (by kernel_rfl) (fun hne => ?_)
  repeat (go_big_quiet_step (first
    | (go_at_call 12; exact SW.calls (stays_kept wD) (HLV.out _))
    | (go_at_call 36; exact SW.calls (stays_kept wD) (HTX.out _ (HKD.out.trans (hall _))))
    | (go_at_call 37; exact SW.calls (stays_kept wD) (HRX.out _))))
  refine wpQuiet_nil ?_
  intro w7 hs7
  have HK7 := Lib.hid (HKD.out.trans hs7)
  clear hs7 a0 a1 a2 b0 b1 b2 c0 c1 c2 hall
  go_wp2_with fail
  go_ret
  exact ⟨rfl, HK7.out⟩

theorem bulk_part {H : Type} {d : DataW H} {l : List (DataW H)} (h : d ∈ l) : Rows.uptoBulk d ≤ Rows.uptoBulkAll l := by
  induction l with
  | nil => cases h
  | cons x r ih =>
    simp only [Rows.uptoBulkAll]
    cases List.mem_cons.1 h with
    | inl e => subst e; omega
    | inr e => have := ih e; omega

/-- A value's weight: its text's letters. -/
def valW (x : ValD) : Nat := x.2.2.size
theorem valR_ofB {H : Type} {enc : TypeId × Value → H} {w : World} {base : Nat} {spare : Nat → Bool} {held : Bool} {fuel : Nat} {cs : List Value} {x : DataW H × List MemPlace}
    (h : DataW.trod enc Tryd.prog w base spare held fuel 23 cs = some x) : ∃ a, valR.K w a cs ∧ valW a + 1 ≤ Rows.uptoBulk x.1 := by
  obtain ⟨y0, y1, y2, n, rfl, hl, h0, h1, h2⟩ := trod_struct3 Tryd.underlying23 h
  have hl3 : cs.length = 3 := hl.trans (by kernel_rfl)
  obtain ⟨a, b, c, rfl⟩ : ∃ a b c, cs = [a, b, c] := by
    clear h h0 h1 h2 hl
    match cs with
    | [a, b, c] => exact ⟨a, b, c, rfl⟩
    | [] => simp at hl3
    | [_] => simp at hl3
    | [_, _] => simp at hl3
    | _ :: _ :: _ :: _ :: _ => simp at hl3
  obtain ⟨x, hx⟩ := valR_of h
  refine ⟨x, hx, ?_⟩
  have hc := (valR_cells (c := #[a, b, c]) hx).1
  have e0 : Tryd.prog.cellsOf 3 = 1 := by kernel_rfl
  have e1 : Tryd.prog.cellsOf 2 = 1 := by kernel_rfl
  have e2 : Tryd.prog.cellsOf 9 = 1 := by kernel_rfl
  simp [e0, e1, e2] at h2
  have hcc : c = .string x.2.2 := by
    have := congrArg (fun q : Array Value => q[2]?) hc
    simpa using this
  subst hcc
  obtain ⟨s', hs, hx2, _⟩ := DataW.trod_string Tryd.underlying9 h2
  simp [Value.cells] at hs
  subst hs
  have hq := bulk_part (d := y2.1) (l := [y0.1, y1.1, y2.1]) (by simp)
  show valW x + 1 ≤ Rows.uptoBulkAll [y0.1, y1.1, y2.1] + 1
  have hz : Rows.uptoBulk y2.1 = x.2.2.data.size + 1 := by rw [hx2]; simp [Rows.uptoBulk]
  rw [hz] at hq
  exact Nat.succ_le_succ (Nat.le_of_succ_le hq)
theorem texts_row (w : World) (hL : laidMetH Tryd.prog Rows.valueTextsUptoRow.laid w) (c1 : Array Value) (x1 : ValD) (h1 : valR.K w x1 c1.toList) (b1 : valW x1 + 1 ≤ 1048576) (s : ByteArray) (hs : s.size ≤ 1048576) :
    Calls Tryd.prog 9 #[.agg c1, .string s] w fun e w' => e = .returned (.bool true) ∧ Below w.heap.size w w' := by
  have hw := valR_wf h1
  obtain ⟨rfl, hz⟩ := valR_cells h1
  unfold valW at b1
  exact (lawTexts_any _ _ _ s hw.1 hw.2 (by omega) (by omega) w (vars_of_laid hL)).mono fun e w' ⟨he, hk⟩ => ⟨he, hk.below⟩

end Go.Proofs.YthnfoiaahiopdaaDoor

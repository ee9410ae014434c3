/- Scripts, the document's: a step's line (printed by gen_z23.py). -/
import Derived.Test.YthgenobbpaclhaaDoorZ9
import Derived.Test.YthgenobbpaclhaaDoorZ10
import Derived.Test.YthgenobbpaclhaaDoorZ20
import Derived.Test.YthgenobbpaclhaaDoorZ22
set_option linter.unusedVariables false
set_option linter.unusedSimpArgs false
set_option linter.unnecessarySimpa false
namespace Go.Proofs.YthgenobbpaclhaaDoor
open Go.RowKit Go.Shelf
attribute [local go_sem] Oper.semAt_some

theorem lineT_no {x : StepD} (h : ¬ (x = bareS x ∧ allOk x = true)) : lineT x = none := by
  unfold lineT lineW
  rw [if_neg (fun hh => h ⟨hh.2.2.1, hh.2.2.2⟩)]
  rfl
theorem lineT_yes {x : StepD} (h1 : 1 ≤ x.kind) (h2 : x.kind ≤ 12) (h3 : x = bareS x) (h4 : allOk x = true) : lineT x = some (wordK x.kind ++ tailT ((fieldsK x.kind).flatMap (fW · x))) := by
  unfold lineT lineW
  rw [if_pos ⟨h1, h2, h3, h4⟩]
  show some (joinT (allW x)) = _
  unfold allW
  rw [joinT_tail]
theorem sameS_true {x y : StepD} (h : sameS x y = true) : x = y := by
  by_cases e : x = y
  · exact e
  · rw [sameS_ne e] at h
    cases h
theorem sameS_false {x y : StepD} (h : sameS x y = false) : ¬ x = y := by
  intro e
  subst e
  rw [sameS_self] at h
  cases h
theorem injT_size {x : StepD} (h : StepSm x) : (tailT (injW x)).size ≤ 8900000000000 := by
  have h1 := tailT_size (injW x) 4194306 (fun u hu => by
    unfold injW at hu
    rcases List.mem_append.1 hu with hu | hu
    · simp at hu
      rcases hu with rfl | rfl | rfl
      · have := num_size h.source; omega
      · have := num_size h.time; omega
      · have := quo_size x.type; have := h.type; omega
    · exact fW_size h 5 u hu)
  have h2 : (injW x).length = 4 + 2 * x.attrs.length := by
    unfold injW attrsW
    simp only [List.length_append, List.length_cons, List.length_nil, attrsW_len]
    omega
  have h3 := h.alen
  rw [h2] at h1
  omega
theorem ints_tail (l : List Int) : { data := #[32] } ++ intsT l = tailT (listW l) := by
  unfold intsT listW
  rw [joinT_tail, tailT_cons, ba_assoc]
theorem tail1 (a u : ByteArray) : a ++ tailT [u] = a ++ ({ data := #[32] } ++ u) := by
  rw [tailT_cons, tailT_nil]
  apply ba_ext
  simp [Joins.data_append]
theorem tail3 (a u v z : ByteArray) : a ++ tailT [u, v, z] = a ++ ((((({ data := #[32] } ++ u) ++ { data := #[32] }) ++ v) ++ { data := #[32] }) ++ z) := by
  rw [tailT_cons, tailT_cons, tailT_cons, tailT_nil]
  apply ba_ext
  simp [Joins.data_append]
theorem tailR (a u : ByteArray) (l : List Int) : a ++ tailT ([u] ++ listW l) = a ++ ((({ data := #[32] } ++ u) ++ { data := #[32] }) ++ intsT l) := by
  rw [tailT_app, ← ints_tail, tailT_cons, tailT_nil]
  apply ba_ext
  simp [Joins.data_append]
theorem tail0 (a : ByteArray) : a ++ tailT [] = a := by
  rw [tailT_nil]
  apply ba_ext
  simp [Joins.data_append]
/-- What the document's Line of a step is asked of. -/
structure RAsk (w : World) (x : StepD) (pv av : Value) : Prop where
  v : StepV w x pv av
  sm : StepSm x
  tab : TabVar w
set_option maxRecDepth 100000 in
set_option maxHeartbeats 4000000 in
theorem rline_out (x : StepD) (pv av : Value) (w : World) (ha : RAsk w x pv av) (hk : ¬ (1 ≤ x.kind ∧ x.kind ≤ 12)) : Calls Tryd.prog 21 #[.agg (stepC x pv av)] w (LinePost w (lineT x)) := by
  obtain ⟨PA, pc, rfl, _⟩ := ha.v.1
  obtain ⟨AA, ac, rfl, _⟩ := ha.v.2.form
  have HN : Hid (lineT x = none) := lineT_out x hk
  have HWE : Hid (wordK x.kind = { data := #[] }) := by
    show _ = _
    unfold wordK
    repeat (first | rfl | (rw [if_neg (by omega)]))
  have HWD : Hid (∀ W, Calls Tryd.prog 38 #[.int .i64 x.kind] W fun e w' => e = .returned (.string { data := #[] }) ∧ Kept [] W w') := fun W => by have := rword_any x.kind W; rwa [HWE.out] at this
  obtain ⟨W0, hW0⟩ : ∃ W0, w.alloc (.cells (stepC x (.slice PA x.place.length pc) (.slice AA x.attrs.length ac)) 40) = W0 := ⟨_, rfl⟩
  have HK0 : Hid (Kept [] w W0) := by show Kept _ _ _; rw [← hW0]; exact (Kept.refl [] w).alloc _
  have HB0 : Hid (Blk W0 w.heap.size (stepC x (.slice PA x.place.length pc) (.slice AA x.attrs.length ac)) 40) := by show Blk _ _ _ _; rw [← hW0]; exact Blk.new w _ _
  have HW0 := Lib.hid hW0
  clear ha hk hW0
  dsimp only [stepC]
  go_enter Tryd.func21, Tryd.ntmps21
  go_upto_region 1 with fail
  rw [show w.alloc (.cells #[.int .i64 x.kind, .string x.text, .slice PA x.place.length pc, .int .i64 x.source, .int .i64 x.time, .string x.type, .slice AA x.attrs.length ac, .int .i64 x.pattern, .int .i64 x.op, .int .i64 x.dest, .int .i64 x.broker, .int .i64 x.number, .int .i64 x.at_, .int .u8 x.wth] 40) = W0 from HW0.out]
  have z0 : W0.cell? ⟨w.heap.size, 0, none⟩ = some (.int .i64 x.kind) := HB0.out.cell 0
  go_wp2_with fail
  refine (HWD.out _).mono ?_
  rintro e w1 ⟨rfl, hk1⟩
  have HK1 := Lib.hid hk1
  clear hk1 z0
  go_upto_region 2 with fail
  refine wp_region_sw (Kept [] w1) (stays_kept w1) (Kept.refl _ _) (by kernel_rfl) (by kernel_rfl) (fun hne => ?_)
  repeat (go_big_quiet_step (fail))
  refine wpQuiet_nil ?_
  intro w2 hs2
  have HK2 := Lib.hid (HK1.out.trans hs2)
  clear hs2
  go_wp2_with fail
  go_ret2
  exact LinePost.no HN.out (HK0.out.trans HK2.out)
set_option maxRecDepth 100000 in
set_option maxHeartbeats 8000000 in
theorem rline_1 (x : StepD) (pv av : Value) (w : World) (ha : RAsk w x pv av) (hk : x.kind = 1) : Calls Tryd.prog 21 #[.agg (stepC x pv av)] w (LinePost w (lineT x)) := by
  obtain ⟨PA, pc, rfl, _⟩ := ha.v.1
  obtain ⟨AA, ac, rfl, _⟩ := ha.v.2.form
  obtain ⟨kind, text, place, source, time, type, attrs, pattern, op, dest, broker, number, at_, wth⟩ := x
  dsimp only at hk ha
  subst hk
  have HA := Lib.hid ha
  obtain ⟨W0, hW0⟩ : ∃ W0, w.alloc (.cells #[.int .i64 1, .string text, .slice PA place.length pc, .int .i64 source, .int .i64 time, .string type, .slice AA attrs.length ac, .int .i64 pattern, .int .i64 op, .int .i64 dest, .int .i64 broker, .int .i64 number, .int .i64 at_, .int .u8 wth] 40) = W0 := ⟨_, rfl⟩
  have HK0 : Hid (Kept [] w W0) := by show Kept _ _ _; rw [← hW0]; exact (Kept.refl [] w).alloc _
  have HB0 : Hid (Blk W0 w.heap.size (stepC ⟨1, text, place, source, time, type, attrs, pattern, op, dest, broker, number, at_, wth⟩ (.slice PA place.length pc) (.slice AA attrs.length ac)) 40) := by show Blk _ _ _ _; rw [← hW0]; exact Blk.new w #[.int .i64 1, .string text, .slice PA place.length pc, .int .i64 source, .int .i64 time, .string type, .slice AA attrs.length ac, .int .i64 pattern, .int .i64 op, .int .i64 dest, .int .i64 broker, .int .i64 number, .int .i64 at_, .int .u8 wth] _
  have HWD : Hid (∀ W, Calls Tryd.prog 38 #[.int .i64 1] W fun e w' => e = .returned (.string { data := #[114, 101, 103, 105, 115, 116, 101, 114] }) ∧ Kept [] W w') := fun W => rword_any 1 W
  have HBA : Hid (∀ W, Kept [] w W → Calls Tryd.prog 39 #[.agg #[.int .i64 1, .string text, .slice PA place.length pc, .int .i64 source, .int .i64 time, .string type, .slice AA attrs.length ac, .int .i64 pattern, .int .i64 op, .int .i64 dest, .int .i64 broker, .int .i64 number, .int .i64 at_, .int .u8 wth]] W fun e w' => e = .returned (.agg (stepC (bareS ⟨1, text, place, source, time, type, attrs, pattern, op, dest, broker, number, at_, wth⟩) (bareP 1 (.slice PA place.length pc)) (bareA 1 (.slice AA attrs.length ac)))) ∧ Kept [] W w') := fun W hk => (bare_1 _ _ _ W (HA.out.v.keep hk) rfl).mono fun e w' ⟨h1, _, h3⟩ => ⟨h1, h3⟩
  have HSM : Hid (∀ W, Kept [] w W → Calls Tryd.prog 15 #[.agg #[.int .i64 1, .string text, .slice PA place.length pc, .int .i64 source, .int .i64 time, .string type, .slice AA attrs.length ac, .int .i64 pattern, .int .i64 op, .int .i64 dest, .int .i64 broker, .int .i64 number, .int .i64 at_, .int .u8 wth], .agg (stepC (bareS ⟨1, text, place, source, time, type, attrs, pattern, op, dest, broker, number, at_, wth⟩) (bareP 1 (.slice PA place.length pc)) (bareA 1 (.slice AA attrs.length ac)))] W fun e w' => e = .returned (.bool (sameS ⟨1, text, place, source, time, type, attrs, pattern, op, dest, broker, number, at_, wth⟩ (bareS ⟨1, text, place, source, time, type, attrs, pattern, op, dest, broker, number, at_, wth⟩))) ∧ Kept [] W w') := fun W hk => rsame_step _ _ _ _ _ _ W (HA.out.v.keep hk) (by
    have hv := HA.out.v.keep hk
    unfold StepV bareP bareA bareS
    exact ⟨hv.1, rdsA_nil _⟩)
  have HKS : Hid (∀ w1, Kept [] W0 w1 → ∀ s : SW (Kept [] w1), Kept [] w s.to) := fun w1 h s => (HK0.out.trans h).trans s.ok
  obtain ⟨q, hq⟩ : ∃ q, sameS ⟨1, text, place, source, time, type, attrs, pattern, op, dest, broker, number, at_, wth⟩ (bareS ⟨1, text, place, source, time, type, attrs, pattern, op, dest, broker, number, at_, wth⟩) = q := ⟨_, rfl⟩
  rw [hq] at HSM
  have HQ := Lib.hid hq
  have HW0 := Lib.hid hW0
  clear ha hq hW0
  dsimp only [stepC]
  go_enter Tryd.func21, Tryd.ntmps21
  go_upto_region 1 with fail
  rw [show w.alloc (.cells #[.int .i64 1, .string text, .slice PA place.length pc, .int .i64 source, .int .i64 time, .string type, .slice AA attrs.length ac, .int .i64 pattern, .int .i64 op, .int .i64 dest, .int .i64 broker, .int .i64 number, .int .i64 at_, .int .u8 wth] 40) = W0 from HW0.out]
  have z0 : W0.cell? ⟨w.heap.size, 0, none⟩ = some (.int .i64 1) := HB0.out.cell 0
  go_wp2_with fail
  refine (HWD.out _).mono ?_
  rintro e w1 ⟨rfl, hk1⟩
  have HK1 := Lib.hid hk1
  have HB1 := Lib.hid (HB0.out.kept hk1 (by simp))
  clear hk1 z0
  go_upto_region 2 with fail
  have a0 : ∀ s : SW (Kept [] w1), s.to.cell? ⟨w.heap.size, 0, none⟩ = some (.int .i64 1) := fun s => (HB1.out.kept s.ok (by simp)).cell 0
  have a1 : ∀ s : SW (Kept [] w1), s.to.cell? ⟨w.heap.size, 1, none⟩ = some (.string text) := fun s => (HB1.out.kept s.ok (by simp)).cell 1
  have a2 : ∀ s : SW (Kept [] w1), s.to.cell? ⟨w.heap.size, 2, none⟩ = some (.slice PA place.length pc) := fun s => (HB1.out.kept s.ok (by simp)).cell 2
  have a3 : ∀ s : SW (Kept [] w1), s.to.cell? ⟨w.heap.size, 3, none⟩ = some (.int .i64 source) := fun s => (HB1.out.kept s.ok (by simp)).cell 3
  have a4 : ∀ s : SW (Kept [] w1), s.to.cell? ⟨w.heap.size, 4, none⟩ = some (.int .i64 time) := fun s => (HB1.out.kept s.ok (by simp)).cell 4
  have a5 : ∀ s : SW (Kept [] w1), s.to.cell? ⟨w.heap.size, 5, none⟩ = some (.string type) := fun s => (HB1.out.kept s.ok (by simp)).cell 5
  have a6 : ∀ s : SW (Kept [] w1), s.to.cell? ⟨w.heap.size, 6, none⟩ = some (.slice AA attrs.length ac) := fun s => (HB1.out.kept s.ok (by simp)).cell 6
  have a7 : ∀ s : SW (Kept [] w1), s.to.cell? ⟨w.heap.size, 7, none⟩ = some (.int .i64 pattern) := fun s => (HB1.out.kept s.ok (by simp)).cell 7
  have a8 : ∀ s : SW (Kept [] w1), s.to.cell? ⟨w.heap.size, 8, none⟩ = some (.int .i64 op) := fun s => (HB1.out.kept s.ok (by simp)).cell 8
  have a9 : ∀ s : SW (Kept [] w1), s.to.cell? ⟨w.heap.size, 9, none⟩ = some (.int .i64 dest) := fun s => (HB1.out.kept s.ok (by simp)).cell 9
  have a10 : ∀ s : SW (Kept [] w1), s.to.cell? ⟨w.heap.size, 10, none⟩ = some (.int .i64 broker) := fun s => (HB1.out.kept s.ok (by simp)).cell 10
  have a11 : ∀ s : SW (Kept [] w1), s.to.cell? ⟨w.heap.size, 11, none⟩ = some (.int .i64 number) := fun s => (HB1.out.kept s.ok (by simp)).cell 11
  have a12 : ∀ s : SW (Kept [] w1), s.to.cell? ⟨w.heap.size, 12, none⟩ = some (.int .i64 at_) := fun s => (HB1.out.kept s.ok (by simp)).cell 12
  have a13 : ∀ s : SW (Kept [] w1), s.to.cell? ⟨w.heap.size, 13, none⟩ = some (.int .u8 wth) := fun s => (HB1.out.kept s.ok (by simp)).cell 13
  refine wp_region_sw (Kept [] w1) (stays_kept w1) (Kept.refl _ _) (by kernel_rfl) (by kernel_rfl) (fun hne => ?_)
  repeat (go_big_quiet_step (first
    | (go_at_call 39; exact SW.calls (stays_kept w1) (HBA.out _ (HKS.out _ HK1.out _)))
    | (go_at_call 15; exact SW.calls (stays_kept w1) (HSM.out _ (HKS.out _ HK1.out _)))))
  refine wpQuiet_nil ?_
  intro w2 hs2
  have HK2 := Lib.hid (HK1.out.trans hs2)
  have HB2 := Lib.hid (HB1.out.kept hs2 (by simp))
  clear hs2 a0 a1 a2 a3 a4 a5 a6 a7 a8 a9 a10 a11 a12 a13
  cases q with
  | false =>
    have HN : Hid (lineT ⟨1, text, place, source, time, type, attrs, pattern, op, dest, broker, number, at_, wth⟩ = none) := lineT_no (fun hh => sameS_false HQ.out hh.1)
    go_wp2_with fail
    go_ret2
    exact LinePost.no HN.out (HK0.out.trans HK2.out)
  | true =>
    have HXB := Lib.hid (sameS_true HQ.out)
    obtain ⟨a0, a1, a2, a3, a4, a5, a6, a7, a8, a9, a10, a11, a12, a13⟩ := HB2.out.step
    have htl := len_at text rfl
    by_cases hlong : 4096 < text.size
    · have d0 : decide ((4096 : Int) < (text.size : Int)) = true := decide_eq_true (by omega)
      have HN : Hid (lineT ⟨1, text, place, source, time, type, attrs, pattern, op, dest, broker, number, at_, wth⟩ = none) := lineT_no (fun hh => by have h := hh.2; simp [allOk, fieldsK, fOk] at h; omega)
      clear hlong
      go_wp2_with fail
      go_ret2
      exact LinePost.no HN.out (HK0.out.trans HK2.out)
    · have d0 : decide ((4096 : Int) < (text.size : Int)) = false := decide_eq_false (by omega)
      have HY : Hid (lineT ⟨1, text, place, source, time, type, attrs, pattern, op, dest, broker, number, at_, wth⟩ = some ({ data := #[114, 101, 103, 105, 115, 116, 101, 114] } ++ ((({ data := #[32] } ++ quoT text) ++ { data := #[32] }) ++ intsT place))) := by
        show _ = _
        rw [lineT_yes (by show (1 : Int) ≤ 1; decide) (by show (1 : Int) ≤ 12; decide) HXB.out (by simp [allOk, fieldsK, fOk]; omega)]
        refine congrArg some ?_
        have e : (fieldsK 1).flatMap (fW · ⟨1, text, place, source, time, type, attrs, pattern, op, dest, broker, number, at_, wth⟩) = [quoT text] ++ listW place := by simp [fieldsK, fW]
        show wordK 1 ++ tailT ((fieldsK 1).flatMap (fW · ⟨1, text, place, source, time, type, attrs, pattern, op, dest, broker, number, at_, wth⟩)) = _
        rw [e]
        exact tailR _ _ _
      clear hlong
      have hts : text.size ≤ 1048576 := HA.out.sm.text
      have hpl : place.length ≤ 1048576 := HA.out.sm.plen
      have hs1 : (quoT text).size ≤ 4194306 := by have := quo_size text; omega
      have hs2 : (intsT place).size ≤ 320000000 := intsT_size hpl HA.out.sm.place
      have HQU : Hid (∀ W, Calls Tryd.prog 40 #[.string text] W fun e w' => e = .returned (.string (quoT text)) ∧ Kept [] W w') := fun W => rquoted_any text hts W
      have HIN : Hid (∀ W, Kept [] w W → Calls Tryd.prog 26 #[.slice PA place.length pc] W fun e w' => e = .returned (.string (intsT place)) ∧ Kept [] W w') := fun W hk => rints_any _ place W (HA.out.v.1.keep hk) hpl HA.out.sm.place (HA.out.tab.keep hk)
      have b1 : ∀ s : SW (Kept [] w2), s.to.cell? ⟨w.heap.size, 1, none⟩ = some (.string text) := fun s => (HB2.out.kept s.ok (by simp)).cell 1
      have b2 : ∀ s : SW (Kept [] w2), s.to.cell? ⟨w.heap.size, 2, none⟩ = some (.slice PA place.length pc) := fun s => (HB2.out.kept s.ok (by simp)).cell 2
      have HKS2 : Hid (∀ s : SW (Kept [] w2), Kept [] w s.to) := fun s => (HK0.out.trans HK2.out).trans s.ok
      go_upto_region 8 with fail
      refine wp_region_sw (Kept [] w2) (stays_kept w2) (Kept.refl _ _) (by kernel_rfl) (by kernel_rfl) (fun hne => ?_)
      repeat (go_big_quiet_step (first
        | (go_at_call 40; exact SW.calls (stays_kept w2) (HQU.out _))
        | (go_at_call 26; exact SW.calls (stays_kept w2) (HIN.out _ (HKS2.out _)))))
      refine wpQuiet_nil ?_
      intro w3 hs3
      have HK3 := Lib.hid (HK2.out.trans hs3)
      clear hs3
      go_wp2_with fail
      go_ret2
      exact LinePost.yes HY.out (HK0.out.trans HK3.out)
set_option maxRecDepth 100000 in
set_option maxHeartbeats 8000000 in
theorem rline_2 (x : StepD) (pv av : Value) (w : World) (ha : RAsk w x pv av) (hk : x.kind = 2) : Calls Tryd.prog 21 #[.agg (stepC x pv av)] w (LinePost w (lineT x)) := by
  obtain ⟨PA, pc, rfl, _⟩ := ha.v.1
  obtain ⟨AA, ac, rfl, _⟩ := ha.v.2.form
  obtain ⟨kind, text, place, source, time, type, attrs, pattern, op, dest, broker, number, at_, wth⟩ := x
  dsimp only at hk ha
  subst hk
  have HA := Lib.hid ha
  obtain ⟨W0, hW0⟩ : ∃ W0, w.alloc (.cells #[.int .i64 2, .string text, .slice PA place.length pc, .int .i64 source, .int .i64 time, .string type, .slice AA attrs.length ac, .int .i64 pattern, .int .i64 op, .int .i64 dest, .int .i64 broker, .int .i64 number, .int .i64 at_, .int .u8 wth] 40) = W0 := ⟨_, rfl⟩
  have HK0 : Hid (Kept [] w W0) := by show Kept _ _ _; rw [← hW0]; exact (Kept.refl [] w).alloc _
  have HB0 : Hid (Blk W0 w.heap.size (stepC ⟨2, text, place, source, time, type, attrs, pattern, op, dest, broker, number, at_, wth⟩ (.slice PA place.length pc) (.slice AA attrs.length ac)) 40) := by show Blk _ _ _ _; rw [← hW0]; exact Blk.new w #[.int .i64 2, .string text, .slice PA place.length pc, .int .i64 source, .int .i64 time, .string type, .slice AA attrs.length ac, .int .i64 pattern, .int .i64 op, .int .i64 dest, .int .i64 broker, .int .i64 number, .int .i64 at_, .int .u8 wth] _
  have HWD : Hid (∀ W, Calls Tryd.prog 38 #[.int .i64 2] W fun e w' => e = .returned (.string { data := #[105, 110, 106, 101, 99, 116] }) ∧ Kept [] W w') := fun W => rword_any 2 W
  have HBA : Hid (∀ W, Kept [] w W → Calls Tryd.prog 39 #[.agg #[.int .i64 2, .string text, .slice PA place.length pc, .int .i64 source, .int .i64 time, .string type, .slice AA attrs.length ac, .int .i64 pattern, .int .i64 op, .int .i64 dest, .int .i64 broker, .int .i64 number, .int .i64 at_, .int .u8 wth]] W fun e w' => e = .returned (.agg (stepC (bareS ⟨2, text, place, source, time, type, attrs, pattern, op, dest, broker, number, at_, wth⟩) (bareP 2 (.slice PA place.length pc)) (bareA 2 (.slice AA attrs.length ac)))) ∧ Kept [] W w') := fun W hk => (bare_2 _ _ _ W (HA.out.v.keep hk) rfl).mono fun e w' ⟨h1, _, h3⟩ => ⟨h1, h3⟩
  have HSM : Hid (∀ W, Kept [] w W → Calls Tryd.prog 15 #[.agg #[.int .i64 2, .string text, .slice PA place.length pc, .int .i64 source, .int .i64 time, .string type, .slice AA attrs.length ac, .int .i64 pattern, .int .i64 op, .int .i64 dest, .int .i64 broker, .int .i64 number, .int .i64 at_, .int .u8 wth], .agg (stepC (bareS ⟨2, text, place, source, time, type, attrs, pattern, op, dest, broker, number, at_, wth⟩) (bareP 2 (.slice PA place.length pc)) (bareA 2 (.slice AA attrs.length ac)))] W fun e w' => e = .returned (.bool (sameS ⟨2, text, place, source, time, type, attrs, pattern, op, dest, broker, number, at_, wth⟩ (bareS ⟨2, text, place, source, time, type, attrs, pattern, op, dest, broker, number, at_, wth⟩))) ∧ Kept [] W w') := fun W hk => rsame_step _ _ _ _ _ _ W (HA.out.v.keep hk) (by
    have hv := HA.out.v.keep hk
    unfold StepV bareP bareA bareS
    exact ⟨rdI_nil _, hv.2⟩)
  have HKS : Hid (∀ w1, Kept [] W0 w1 → ∀ s : SW (Kept [] w1), Kept [] w s.to) := fun w1 h s => (HK0.out.trans h).trans s.ok
  obtain ⟨q, hq⟩ : ∃ q, sameS ⟨2, text, place, source, time, type, attrs, pattern, op, dest, broker, number, at_, wth⟩ (bareS ⟨2, text, place, source, time, type, attrs, pattern, op, dest, broker, number, at_, wth⟩) = q := ⟨_, rfl⟩
  rw [hq] at HSM
  have HQ := Lib.hid hq
  have HW0 := Lib.hid hW0
  clear ha hq hW0
  dsimp only [stepC]
  go_enter Tryd.func21, Tryd.ntmps21
  go_upto_region 1 with fail
  rw [show w.alloc (.cells #[.int .i64 2, .string text, .slice PA place.length pc, .int .i64 source, .int .i64 time, .string type, .slice AA attrs.length ac, .int .i64 pattern, .int .i64 op, .int .i64 dest, .int .i64 broker, .int .i64 number, .int .i64 at_, .int .u8 wth] 40) = W0 from HW0.out]
  have z0 : W0.cell? ⟨w.heap.size, 0, none⟩ = some (.int .i64 2) := HB0.out.cell 0
  go_wp2_with fail
  refine (HWD.out _).mono ?_
  rintro e w1 ⟨rfl, hk1⟩
  have HK1 := Lib.hid hk1
  have HB1 := Lib.hid (HB0.out.kept hk1 (by simp))
  clear hk1 z0
  go_upto_region 2 with fail
  have a0 : ∀ s : SW (Kept [] w1), s.to.cell? ⟨w.heap.size, 0, none⟩ = some (.int .i64 2) := fun s => (HB1.out.kept s.ok (by simp)).cell 0
  have a1 : ∀ s : SW (Kept [] w1), s.to.cell? ⟨w.heap.size, 1, none⟩ = some (.string text) := fun s => (HB1.out.kept s.ok (by simp)).cell 1
  have a2 : ∀ s : SW (Kept [] w1), s.to.cell? ⟨w.heap.size, 2, none⟩ = some (.slice PA place.length pc) := fun s => (HB1.out.kept s.ok (by simp)).cell 2
  have a3 : ∀ s : SW (Kept [] w1), s.to.cell? ⟨w.heap.size, 3, none⟩ = some (.int .i64 source) := fun s => (HB1.out.kept s.ok (by simp)).cell 3
  have a4 : ∀ s : SW (Kept [] w1), s.to.cell? ⟨w.heap.size, 4, none⟩ = some (.int .i64 time) := fun s => (HB1.out.kept s.ok (by simp)).cell 4
  have a5 : ∀ s : SW (Kept [] w1), s.to.cell? ⟨w.heap.size, 5, none⟩ = some (.string type) := fun s => (HB1.out.kept s.ok (by simp)).cell 5
  have a6 : ∀ s : SW (Kept [] w1), s.to.cell? ⟨w.heap.size, 6, none⟩ = some (.slice AA attrs.length ac) := fun s => (HB1.out.kept s.ok (by simp)).cell 6
  have a7 : ∀ s : SW (Kept [] w1), s.to.cell? ⟨w.heap.size, 7, none⟩ = some (.int .i64 pattern) := fun s => (HB1.out.kept s.ok (by simp)).cell 7
  have a8 : ∀ s : SW (Kept [] w1), s.to.cell? ⟨w.heap.size, 8, none⟩ = some (.int .i64 op) := fun s => (HB1.out.kept s.ok (by simp)).cell 8
  have a9 : ∀ s : SW (Kept [] w1), s.to.cell? ⟨w.heap.size, 9, none⟩ = some (.int .i64 dest) := fun s => (HB1.out.kept s.ok (by simp)).cell 9
  have a10 : ∀ s : SW (Kept [] w1), s.to.cell? ⟨w.heap.size, 10, none⟩ = some (.int .i64 broker) := fun s => (HB1.out.kept s.ok (by simp)).cell 10
  have a11 : ∀ s : SW (Kept [] w1), s.to.cell? ⟨w.heap.size, 11, none⟩ = some (.int .i64 number) := fun s => (HB1.out.kept s.ok (by simp)).cell 11
  have a12 : ∀ s : SW (Kept [] w1), s.to.cell? ⟨w.heap.size, 12, none⟩ = some (.int .i64 at_) := fun s => (HB1.out.kept s.ok (by simp)).cell 12
  have a13 : ∀ s : SW (Kept [] w1), s.to.cell? ⟨w.heap.size, 13, none⟩ = some (.int .u8 wth) := fun s => (HB1.out.kept s.ok (by simp)).cell 13
  refine wp_region_sw (Kept [] w1) (stays_kept w1) (Kept.refl _ _) (by kernel_rfl) (by kernel_rfl) (fun hne => ?_)
  repeat (go_big_quiet_step (first
    | (go_at_call 39; exact SW.calls (stays_kept w1) (HBA.out _ (HKS.out _ HK1.out _)))
    | (go_at_call 15; exact SW.calls (stays_kept w1) (HSM.out _ (HKS.out _ HK1.out _)))))
  refine wpQuiet_nil ?_
  intro w2 hs2
  have HK2 := Lib.hid (HK1.out.trans hs2)
  have HB2 := Lib.hid (HB1.out.kept hs2 (by simp))
  clear hs2 a0 a1 a2 a3 a4 a5 a6 a7 a8 a9 a10 a11 a12 a13
  cases q with
  | false =>
    have HN : Hid (lineT ⟨2, text, place, source, time, type, attrs, pattern, op, dest, broker, number, at_, wth⟩ = none) := lineT_no (fun hh => sameS_false HQ.out hh.1)
    go_wp2_with fail
    go_ret2
    exact LinePost.no HN.out (HK0.out.trans HK2.out)
  | true =>
    have HXB := Lib.hid (sameS_true HQ.out)
    obtain ⟨a0, a1, a2, a3, a4, a5, a6, a7, a8, a9, a10, a11, a12, a13⟩ := HB2.out.step
    have HIN : Hid (∀ W, Kept [] w W → Calls Tryd.prog 41 #[.agg #[.int .i64 2, .string text, .slice PA place.length pc, .int .i64 source, .int .i64 time, .string type, .slice AA attrs.length ac, .int .i64 pattern, .int .i64 op, .int .i64 dest, .int .i64 broker, .int .i64 number, .int .i64 at_, .int .u8 wth]] W (InjPost W ⟨2, text, place, source, time, type, attrs, pattern, op, dest, broker, number, at_, wth⟩)) := fun W hk => rinject_any _ _ _ W (HA.out.v.keep hk) HA.out.sm (HA.out.tab.keep hk)
    have HSZ := Lib.hid (injT_size HA.out.sm)
    obtain ⟨T, hT⟩ : ∃ T, tailT (injW ⟨2, text, place, source, time, type, attrs, pattern, op, dest, broker, number, at_, wth⟩) = T := ⟨_, rfl⟩
    have hTs : T.size ≤ 8900000000000 := by rw [← hT]; exact HSZ.out
    have HT := Lib.hid hT
    obtain ⟨g, hg⟩ : ∃ g, (decide (type.size ≤ 64) && attrsOk attrs) = g := ⟨_, rfl⟩
    have HG := Lib.hid hg
    have HALL : Hid (allOk ⟨2, text, place, source, time, type, attrs, pattern, op, dest, broker, number, at_, wth⟩ = g) := by
      show _ = _
      rw [← hg]
      simp [allOk, fieldsK, fOk]
    go_wp2_with fail
    refine (HIN.out _ (HK0.out.trans HK2.out)).mono ?_
    rintro e w3 ⟨rfl, hk3⟩
    have HK3 := Lib.hid (HK2.out.trans hk3)
    clear hk3 a0 a1 a2 a3 a4 a5 a6 a7 a8 a9 a10 a11 a12 a13
    dsimp only
    rw [hT, hg]
    clear hT hg
    cases g with
    | false =>
      have HN : Hid (lineT ⟨2, text, place, source, time, type, attrs, pattern, op, dest, broker, number, at_, wth⟩ = none) := lineT_no (fun hh => by rw [HALL.out] at hh; cases hh.2)
      go_wp2_with fail
      go_ret2
      exact LinePost.no HN.out (HK0.out.trans HK3.out)
    | true =>
      have HY : Hid (lineT ⟨2, text, place, source, time, type, attrs, pattern, op, dest, broker, number, at_, wth⟩ = some ({ data := #[105, 110, 106, 101, 99, 116] } ++ T)) := by
        show _ = _
        rw [lineT_yes (by show (1 : Int) ≤ 2; decide) (by show (2 : Int) ≤ 12; decide) HXB.out HALL.out, ← HT.out]
        refine congrArg some ?_
        have e : (fieldsK 2).flatMap (fW · ⟨2, text, place, source, time, type, attrs, pattern, op, dest, broker, number, at_, wth⟩) = injW ⟨2, text, place, source, time, type, attrs, pattern, op, dest, broker, number, at_, wth⟩ := by simp [fieldsK, fW, injW]
        show wordK 2 ++ tailT ((fieldsK 2).flatMap (fW · ⟨2, text, place, source, time, type, attrs, pattern, op, dest, broker, number, at_, wth⟩)) = _
        rw [e]
        rfl
      go_wp2_with fail
      go_ret2
      exact LinePost.yes HY.out (HK0.out.trans HK3.out)
set_option maxRecDepth 100000 in
set_option maxHeartbeats 8000000 in
theorem rline_3 (x : StepD) (pv av : Value) (w : World) (ha : RAsk w x pv av) (hk : x.kind = 3) : Calls Tryd.prog 21 #[.agg (stepC x pv av)] w (LinePost w (lineT x)) := by
  obtain ⟨PA, pc, rfl, _⟩ := ha.v.1
  obtain ⟨AA, ac, rfl, _⟩ := ha.v.2.form
  obtain ⟨kind, text, place, source, time, type, attrs, pattern, op, dest, broker, number, at_, wth⟩ := x
  dsimp only at hk ha
  subst hk
  have HA := Lib.hid ha
  obtain ⟨W0, hW0⟩ : ∃ W0, w.alloc (.cells #[.int .i64 3, .string text, .slice PA place.length pc, .int .i64 source, .int .i64 time, .string type, .slice AA attrs.length ac, .int .i64 pattern, .int .i64 op, .int .i64 dest, .int .i64 broker, .int .i64 number, .int .i64 at_, .int .u8 wth] 40) = W0 := ⟨_, rfl⟩
  have HK0 : Hid (Kept [] w W0) := by show Kept _ _ _; rw [← hW0]; exact (Kept.refl [] w).alloc _
  have HB0 : Hid (Blk W0 w.heap.size (stepC ⟨3, text, place, source, time, type, attrs, pattern, op, dest, broker, number, at_, wth⟩ (.slice PA place.length pc) (.slice AA attrs.length ac)) 40) := by show Blk _ _ _ _; rw [← hW0]; exact Blk.new w #[.int .i64 3, .string text, .slice PA place.length pc, .int .i64 source, .int .i64 time, .string type, .slice AA attrs.length ac, .int .i64 pattern, .int .i64 op, .int .i64 dest, .int .i64 broker, .int .i64 number, .int .i64 at_, .int .u8 wth] _
  have HWD : Hid (∀ W, Calls Tryd.prog 38 #[.int .i64 3] W fun e w' => e = .returned (.string { data := #[99, 108, 111, 115, 101] }) ∧ Kept [] W w') := fun W => rword_any 3 W
  have HBA : Hid (∀ W, Kept [] w W → Calls Tryd.prog 39 #[.agg #[.int .i64 3, .string text, .slice PA place.length pc, .int .i64 source, .int .i64 time, .string type, .slice AA attrs.length ac, .int .i64 pattern, .int .i64 op, .int .i64 dest, .int .i64 broker, .int .i64 number, .int .i64 at_, .int .u8 wth]] W fun e w' => e = .returned (.agg (stepC (bareS ⟨3, text, place, source, time, type, attrs, pattern, op, dest, broker, number, at_, wth⟩) (bareP 3 (.slice PA place.length pc)) (bareA 3 (.slice AA attrs.length ac)))) ∧ Kept [] W w') := fun W hk => (bare_3 _ _ _ W (HA.out.v.keep hk) rfl).mono fun e w' ⟨h1, _, h3⟩ => ⟨h1, h3⟩
  have HSM : Hid (∀ W, Kept [] w W → Calls Tryd.prog 15 #[.agg #[.int .i64 3, .string text, .slice PA place.length pc, .int .i64 source, .int .i64 time, .string type, .slice AA attrs.length ac, .int .i64 pattern, .int .i64 op, .int .i64 dest, .int .i64 broker, .int .i64 number, .int .i64 at_, .int .u8 wth], .agg (stepC (bareS ⟨3, text, place, source, time, type, attrs, pattern, op, dest, broker, number, at_, wth⟩) (bareP 3 (.slice PA place.length pc)) (bareA 3 (.slice AA attrs.length ac)))] W fun e w' => e = .returned (.bool (sameS ⟨3, text, place, source, time, type, attrs, pattern, op, dest, broker, number, at_, wth⟩ (bareS ⟨3, text, place, source, time, type, attrs, pattern, op, dest, broker, number, at_, wth⟩))) ∧ Kept [] W w') := fun W hk => rsame_step _ _ _ _ _ _ W (HA.out.v.keep hk) (by
    have hv := HA.out.v.keep hk
    unfold StepV bareP bareA bareS
    exact ⟨rdI_nil _, rdsA_nil _⟩)
  have HKS : Hid (∀ w1, Kept [] W0 w1 → ∀ s : SW (Kept [] w1), Kept [] w s.to) := fun w1 h s => (HK0.out.trans h).trans s.ok
  obtain ⟨q, hq⟩ : ∃ q, sameS ⟨3, text, place, source, time, type, attrs, pattern, op, dest, broker, number, at_, wth⟩ (bareS ⟨3, text, place, source, time, type, attrs, pattern, op, dest, broker, number, at_, wth⟩) = q := ⟨_, rfl⟩
  rw [hq] at HSM
  have HQ := Lib.hid hq
  have HW0 := Lib.hid hW0
  clear ha hq hW0
  dsimp only [stepC]
  go_enter Tryd.func21, Tryd.ntmps21
  go_upto_region 1 with fail
  rw [show w.alloc (.cells #[.int .i64 3, .string text, .slice PA place.length pc, .int .i64 source, .int .i64 time, .string type, .slice AA attrs.length ac, .int .i64 pattern, .int .i64 op, .int .i64 dest, .int .i64 broker, .int .i64 number, .int .i64 at_, .int .u8 wth] 40) = W0 from HW0.out]
  have z0 : W0.cell? ⟨w.heap.size, 0, none⟩ = some (.int .i64 3) := HB0.out.cell 0
  go_wp2_with fail
  refine (HWD.out _).mono ?_
  rintro e w1 ⟨rfl, hk1⟩
  have HK1 := Lib.hid hk1
  have HB1 := Lib.hid (HB0.out.kept hk1 (by simp))
  clear hk1 z0
  go_upto_region 2 with fail
  have a0 : ∀ s : SW (Kept [] w1), s.to.cell? ⟨w.heap.size, 0, none⟩ = some (.int .i64 3) := fun s => (HB1.out.kept s.ok (by simp)).cell 0
  have a1 : ∀ s : SW (Kept [] w1), s.to.cell? ⟨w.heap.size, 1, none⟩ = some (.string text) := fun s => (HB1.out.kept s.ok (by simp)).cell 1
  have a2 : ∀ s : SW (Kept [] w1), s.to.cell? ⟨w.heap.size, 2, none⟩ = some (.slice PA place.length pc) := fun s => (HB1.out.kept s.ok (by simp)).cell 2
  have a3 : ∀ s : SW (Kept [] w1), s.to.cell? ⟨w.heap.size, 3, none⟩ = some (.int .i64 source) := fun s => (HB1.out.kept s.ok (by simp)).cell 3
  have a4 : ∀ s : SW (Kept [] w1), s.to.cell? ⟨w.heap.size, 4, none⟩ = some (.int .i64 time) := fun s => (HB1.out.kept s.ok (by simp)).cell 4
  have a5 : ∀ s : SW (Kept [] w1), s.to.cell? ⟨w.heap.size, 5, none⟩ = some (.string type) := fun s => (HB1.out.kept s.ok (by simp)).cell 5
  have a6 : ∀ s : SW (Kept [] w1), s.to.cell? ⟨w.heap.size, 6, none⟩ = some (.slice AA attrs.length ac) := fun s => (HB1.out.kept s.ok (by simp)).cell 6
  have a7 : ∀ s : SW (Kept [] w1), s.to.cell? ⟨w.heap.size, 7, none⟩ = some (.int .i64 pattern) := fun s => (HB1.out.kept s.ok (by simp)).cell 7
  have a8 : ∀ s : SW (Kept [] w1), s.to.cell? ⟨w.heap.size, 8, none⟩ = some (.int .i64 op) := fun s => (HB1.out.kept s.ok (by simp)).cell 8
  have a9 : ∀ s : SW (Kept [] w1), s.to.cell? ⟨w.heap.size, 9, none⟩ = some (.int .i64 dest) := fun s => (HB1.out.kept s.ok (by simp)).cell 9
  have a10 : ∀ s : SW (Kept [] w1), s.to.cell? ⟨w.heap.size, 10, none⟩ = some (.int .i64 broker) := fun s => (HB1.out.kept s.ok (by simp)).cell 10
  have a11 : ∀ s : SW (Kept [] w1), s.to.cell? ⟨w.heap.size, 11, none⟩ = some (.int .i64 number) := fun s => (HB1.out.kept s.ok (by simp)).cell 11
  have a12 : ∀ s : SW (Kept [] w1), s.to.cell? ⟨w.heap.size, 12, none⟩ = some (.int .i64 at_) := fun s => (HB1.out.kept s.ok (by simp)).cell 12
  have a13 : ∀ s : SW (Kept [] w1), s.to.cell? ⟨w.heap.size, 13, none⟩ = some (.int .u8 wth) := fun s => (HB1.out.kept s.ok (by simp)).cell 13
  refine wp_region_sw (Kept [] w1) (stays_kept w1) (Kept.refl _ _) (by kernel_rfl) (by kernel_rfl) (fun hne => ?_)
  repeat (go_big_quiet_step (first
    | (go_at_call 39; exact SW.calls (stays_kept w1) (HBA.out _ (HKS.out _ HK1.out _)))
    | (go_at_call 15; exact SW.calls (stays_kept w1) (HSM.out _ (HKS.out _ HK1.out _)))))
  refine wpQuiet_nil ?_
  intro w2 hs2
  have HK2 := Lib.hid (HK1.out.trans hs2)
  have HB2 := Lib.hid (HB1.out.kept hs2 (by simp))
  clear hs2 a0 a1 a2 a3 a4 a5 a6 a7 a8 a9 a10 a11 a12 a13
  cases q with
  | false =>
    have HN : Hid (lineT ⟨3, text, place, source, time, type, attrs, pattern, op, dest, broker, number, at_, wth⟩ = none) := lineT_no (fun hh => sameS_false HQ.out hh.1)
    go_wp2_with fail
    go_ret2
    exact LinePost.no HN.out (HK0.out.trans HK2.out)
  | true =>
    have HXB := Lib.hid (sameS_true HQ.out)
    obtain ⟨a0, a1, a2, a3, a4, a5, a6, a7, a8, a9, a10, a11, a12, a13⟩ := HB2.out.step
    have HIT : Hid (∀ W, Kept [] w W → Calls Tryd.prog 25 #[.int .i64 source] W fun e w' => e = .returned (.string (numT source)) ∧ Kept [] W w') := fun W hk => ritoa_any source HA.out.sm.source W (HA.out.tab.keep hk)
    have hs1 := num_size HA.out.sm.source
    have HY : Hid (lineT ⟨3, text, place, source, time, type, attrs, pattern, op, dest, broker, number, at_, wth⟩ = some ({ data := #[99, 108, 111, 115, 101] } ++ ({ data := #[32] } ++ numT source))) := by
      show _ = _
      rw [lineT_yes (by show (1 : Int) ≤ 3; decide) (by show (3 : Int) ≤ 12; decide) HXB.out rfl]
      exact congrArg some (tail1 _ _)
    go_wp2_with fail
    refine (HIT.out _ (HK0.out.trans HK2.out)).mono ?_
    rintro e w3 ⟨rfl, hk3⟩
    have HK3 := Lib.hid (HK2.out.trans hk3)
    clear hk3
    go_wp2_with fail
    go_ret2
    exact LinePost.yes HY.out (HK0.out.trans HK3.out)
set_option maxRecDepth 100000 in
set_option maxHeartbeats 8000000 in
theorem rline_4 (x : StepD) (pv av : Value) (w : World) (ha : RAsk w x pv av) (hk : x.kind = 4) : Calls Tryd.prog 21 #[.agg (stepC x pv av)] w (LinePost w (lineT x)) := by
  obtain ⟨PA, pc, rfl, _⟩ := ha.v.1
  obtain ⟨AA, ac, rfl, _⟩ := ha.v.2.form
  obtain ⟨kind, text, place, source, time, type, attrs, pattern, op, dest, broker, number, at_, wth⟩ := x
  dsimp only at hk ha
  subst hk
  have HA := Lib.hid ha
  obtain ⟨W0, hW0⟩ : ∃ W0, w.alloc (.cells #[.int .i64 4, .string text, .slice PA place.length pc, .int .i64 source, .int .i64 time, .string type, .slice AA attrs.length ac, .int .i64 pattern, .int .i64 op, .int .i64 dest, .int .i64 broker, .int .i64 number, .int .i64 at_, .int .u8 wth] 40) = W0 := ⟨_, rfl⟩
  have HK0 : Hid (Kept [] w W0) := by show Kept _ _ _; rw [← hW0]; exact (Kept.refl [] w).alloc _
  have HB0 : Hid (Blk W0 w.heap.size (stepC ⟨4, text, place, source, time, type, attrs, pattern, op, dest, broker, number, at_, wth⟩ (.slice PA place.length pc) (.slice AA attrs.length ac)) 40) := by show Blk _ _ _ _; rw [← hW0]; exact Blk.new w #[.int .i64 4, .string text, .slice PA place.length pc, .int .i64 source, .int .i64 time, .string type, .slice AA attrs.length ac, .int .i64 pattern, .int .i64 op, .int .i64 dest, .int .i64 broker, .int .i64 number, .int .i64 at_, .int .u8 wth] _
  have HWD : Hid (∀ W, Calls Tryd.prog 38 #[.int .i64 4] W fun e w' => e = .returned (.string { data := #[109, 111, 118, 101] }) ∧ Kept [] W w') := fun W => rword_any 4 W
  have HBA : Hid (∀ W, Kept [] w W → Calls Tryd.prog 39 #[.agg #[.int .i64 4, .string text, .slice PA place.length pc, .int .i64 source, .int .i64 time, .string type, .slice AA attrs.length ac, .int .i64 pattern, .int .i64 op, .int .i64 dest, .int .i64 broker, .int .i64 number, .int .i64 at_, .int .u8 wth]] W fun e w' => e = .returned (.agg (stepC (bareS ⟨4, text, place, source, time, type, attrs, pattern, op, dest, broker, number, at_, wth⟩) (bareP 4 (.slice PA place.length pc)) (bareA 4 (.slice AA attrs.length ac)))) ∧ Kept [] W w') := fun W hk => (bare_4 _ _ _ W (HA.out.v.keep hk) rfl).mono fun e w' ⟨h1, _, h3⟩ => ⟨h1, h3⟩
  have HSM : Hid (∀ W, Kept [] w W → Calls Tryd.prog 15 #[.agg #[.int .i64 4, .string text, .slice PA place.length pc, .int .i64 source, .int .i64 time, .string type, .slice AA attrs.length ac, .int .i64 pattern, .int .i64 op, .int .i64 dest, .int .i64 broker, .int .i64 number, .int .i64 at_, .int .u8 wth], .agg (stepC (bareS ⟨4, text, place, source, time, type, attrs, pattern, op, dest, broker, number, at_, wth⟩) (bareP 4 (.slice PA place.length pc)) (bareA 4 (.slice AA attrs.length ac)))] W fun e w' => e = .returned (.bool (sameS ⟨4, text, place, source, time, type, attrs, pattern, op, dest, broker, number, at_, wth⟩ (bareS ⟨4, text, place, source, time, type, attrs, pattern, op, dest, broker, number, at_, wth⟩))) ∧ Kept [] W w') := fun W hk => rsame_step _ _ _ _ _ _ W (HA.out.v.keep hk) (by
    have hv := HA.out.v.keep hk
    unfold StepV bareP bareA bareS
    exact ⟨rdI_nil _, rdsA_nil _⟩)
  have HKS : Hid (∀ w1, Kept [] W0 w1 → ∀ s : SW (Kept [] w1), Kept [] w s.to) := fun w1 h s => (HK0.out.trans h).trans s.ok
  obtain ⟨q, hq⟩ : ∃ q, sameS ⟨4, text, place, source, time, type, attrs, pattern, op, dest, broker, number, at_, wth⟩ (bareS ⟨4, text, place, source, time, type, attrs, pattern, op, dest, broker, number, at_, wth⟩) = q := ⟨_, rfl⟩
  rw [hq] at HSM
  have HQ := Lib.hid hq
  have HW0 := Lib.hid hW0
  clear ha hq hW0
  dsimp only [stepC]
  go_enter Tryd.func21, Tryd.ntmps21
  go_upto_region 1 with fail
  rw [show w.alloc (.cells #[.int .i64 4, .string text, .slice PA place.length pc, .int .i64 source, .int .i64 time, .string type, .slice AA attrs.length ac, .int .i64 pattern, .int .i64 op, .int .i64 dest, .int .i64 broker, .int .i64 number, .int .i64 at_, .int .u8 wth] 40) = W0 from HW0.out]
  have z0 : W0.cell? ⟨w.heap.size, 0, none⟩ = some (.int .i64 4) := HB0.out.cell 0
  go_wp2_with fail
  refine (HWD.out _).mono ?_
  rintro e w1 ⟨rfl, hk1⟩
  have HK1 := Lib.hid hk1
  have HB1 := Lib.hid (HB0.out.kept hk1 (by simp))
  clear hk1 z0
  go_upto_region 2 with fail
  have a0 : ∀ s : SW (Kept [] w1), s.to.cell? ⟨w.heap.size, 0, none⟩ = some (.int .i64 4) := fun s => (HB1.out.kept s.ok (by simp)).cell 0
  have a1 : ∀ s : SW (Kept [] w1), s.to.cell? ⟨w.heap.size, 1, none⟩ = some (.string text) := fun s => (HB1.out.kept s.ok (by simp)).cell 1
  have a2 : ∀ s : SW (Kept [] w1), s.to.cell? ⟨w.heap.size, 2, none⟩ = some (.slice PA place.length pc) := fun s => (HB1.out.kept s.ok (by simp)).cell 2
  have a3 : ∀ s : SW (Kept [] w1), s.to.cell? ⟨w.heap.size, 3, none⟩ = some (.int .i64 source) := fun s => (HB1.out.kept s.ok (by simp)).cell 3
  have a4 : ∀ s : SW (Kept [] w1), s.to.cell? ⟨w.heap.size, 4, none⟩ = some (.int .i64 time) := fun s => (HB1.out.kept s.ok (by simp)).cell 4
  have a5 : ∀ s : SW (Kept [] w1), s.to.cell? ⟨w.heap.size, 5, none⟩ = some (.string type) := fun s => (HB1.out.kept s.ok (by simp)).cell 5
  have a6 : ∀ s : SW (Kept [] w1), s.to.cell? ⟨w.heap.size, 6, none⟩ = some (.slice AA attrs.length ac) := fun s => (HB1.out.kept s.ok (by simp)).cell 6
  have a7 : ∀ s : SW (Kept [] w1), s.to.cell? ⟨w.heap.size, 7, none⟩ = some (.int .i64 pattern) := fun s => (HB1.out.kept s.ok (by simp)).cell 7
  have a8 : ∀ s : SW (Kept [] w1), s.to.cell? ⟨w.heap.size, 8, none⟩ = some (.int .i64 op) := fun s => (HB1.out.kept s.ok (by simp)).cell 8
  have a9 : ∀ s : SW (Kept [] w1), s.to.cell? ⟨w.heap.size, 9, none⟩ = some (.int .i64 dest) := fun s => (HB1.out.kept s.ok (by simp)).cell 9
  have a10 : ∀ s : SW (Kept [] w1), s.to.cell? ⟨w.heap.size, 10, none⟩ = some (.int .i64 broker) := fun s => (HB1.out.kept s.ok (by simp)).cell 10
  have a11 : ∀ s : SW (Kept [] w1), s.to.cell? ⟨w.heap.size, 11, none⟩ = some (.int .i64 number) := fun s => (HB1.out.kept s.ok (by simp)).cell 11
  have a12 : ∀ s : SW (Kept [] w1), s.to.cell? ⟨w.heap.size, 12, none⟩ = some (.int .i64 at_) := fun s => (HB1.out.kept s.ok (by simp)).cell 12
  have a13 : ∀ s : SW (Kept [] w1), s.to.cell? ⟨w.heap.size, 13, none⟩ = some (.int .u8 wth) := fun s => (HB1.out.kept s.ok (by simp)).cell 13
  refine wp_region_sw (Kept [] w1) (stays_kept w1) (Kept.refl _ _) (by kernel_rfl) (by kernel_rfl) (fun hne => ?_)
  repeat (go_big_quiet_step (first
    | (go_at_call 39; exact SW.calls (stays_kept w1) (HBA.out _ (HKS.out _ HK1.out _)))
    | (go_at_call 15; exact SW.calls (stays_kept w1) (HSM.out _ (HKS.out _ HK1.out _)))))
  refine wpQuiet_nil ?_
  intro w2 hs2
  have HK2 := Lib.hid (HK1.out.trans hs2)
  have HB2 := Lib.hid (HB1.out.kept hs2 (by simp))
  clear hs2 a0 a1 a2 a3 a4 a5 a6 a7 a8 a9 a10 a11 a12 a13
  cases q with
  | false =>
    have HN : Hid (lineT ⟨4, text, place, source, time, type, attrs, pattern, op, dest, broker, number, at_, wth⟩ = none) := lineT_no (fun hh => sameS_false HQ.out hh.1)
    go_wp2_with fail
    go_ret2
    exact LinePost.no HN.out (HK0.out.trans HK2.out)
  | true =>
    have HXB := Lib.hid (sameS_true HQ.out)
    obtain ⟨a0, a1, a2, a3, a4, a5, a6, a7, a8, a9, a10, a11, a12, a13⟩ := HB2.out.step
    have HI0 : Hid (∀ W, Kept [] w W → Calls Tryd.prog 25 #[.int .i64 pattern] W fun e w' => e = .returned (.string (numT pattern)) ∧ Kept [] W w') := fun W hk => ritoa_any pattern HA.out.sm.pattern W (HA.out.tab.keep hk)
    have hs0 : (numT pattern).size ≤ 300 := num_size HA.out.sm.pattern
    have HI1 : Hid (∀ W, Kept [] w W → Calls Tryd.prog 25 #[.int .i64 op] W fun e w' => e = .returned (.string (numT op)) ∧ Kept [] W w') := fun W hk => ritoa_any op HA.out.sm.op W (HA.out.tab.keep hk)
    have hs1 : (numT op).size ≤ 300 := num_size HA.out.sm.op
    have HI2 : Hid (∀ W, Kept [] w W → Calls Tryd.prog 25 #[.int .i64 dest] W fun e w' => e = .returned (.string (numT dest)) ∧ Kept [] W w') := fun W hk => ritoa_any dest HA.out.sm.dest W (HA.out.tab.keep hk)
    have hs2 : (numT dest).size ≤ 300 := num_size HA.out.sm.dest
    have HY : Hid (lineT ⟨4, text, place, source, time, type, attrs, pattern, op, dest, broker, number, at_, wth⟩ = some ({ data := #[109, 111, 118, 101] } ++ ((((({ data := #[32] } ++ numT pattern) ++ { data := #[32] }) ++ numT op) ++ { data := #[32] }) ++ numT dest))) := by
      show _ = _
      rw [lineT_yes (by show (1 : Int) ≤ 4; decide) (by show (4 : Int) ≤ 12; decide) HXB.out rfl]
      exact congrArg some (tail3 _ _ _ _)
    have b7 : ∀ s : SW (Kept [] w2), s.to.cell? ⟨w.heap.size, 7, none⟩ = some (.int .i64 pattern) := fun s => (HB2.out.kept s.ok (by simp)).cell 7
    have b8 : ∀ s : SW (Kept [] w2), s.to.cell? ⟨w.heap.size, 8, none⟩ = some (.int .i64 op) := fun s => (HB2.out.kept s.ok (by simp)).cell 8
    have b9 : ∀ s : SW (Kept [] w2), s.to.cell? ⟨w.heap.size, 9, none⟩ = some (.int .i64 dest) := fun s => (HB2.out.kept s.ok (by simp)).cell 9
    have HKS2 : Hid (∀ s : SW (Kept [] w2), Kept [] w s.to) := fun s => (HK0.out.trans HK2.out).trans s.ok
    go_upto_region 17 with fail
    refine wp_region_sw (Kept [] w2) (stays_kept w2) (Kept.refl _ _) (by kernel_rfl) (by kernel_rfl) (fun hne => ?_)
    repeat (go_big_quiet_step (first
      | (go_at_call_of 25 (Value.int .i64 pattern); exact SW.calls (stays_kept w2) (HI0.out _ (HKS2.out _)))
      | (go_at_call_of 25 (Value.int .i64 op); exact SW.calls (stays_kept w2) (HI1.out _ (HKS2.out _)))
      | (go_at_call_of 25 (Value.int .i64 dest); exact SW.calls (stays_kept w2) (HI2.out _ (HKS2.out _)))))
    refine wpQuiet_nil ?_
    intro w3 hs3
    have HK3 := Lib.hid (HK2.out.trans hs3)
    clear hs3
    go_wp2_with fail
    go_ret2
    exact LinePost.yes HY.out (HK0.out.trans HK3.out)
set_option maxRecDepth 100000 in
set_option maxHeartbeats 8000000 in
theorem rline_5 (x : StepD) (pv av : Value) (w : World) (ha : RAsk w x pv av) (hk : x.kind = 5) : Calls Tryd.prog 21 #[.agg (stepC x pv av)] w (LinePost w (lineT x)) := by
  obtain ⟨PA, pc, rfl, _⟩ := ha.v.1
  obtain ⟨AA, ac, rfl, _⟩ := ha.v.2.form
  obtain ⟨kind, text, place, source, time, type, attrs, pattern, op, dest, broker, number, at_, wth⟩ := x
  dsimp only at hk ha
  subst hk
  have HA := Lib.hid ha
  obtain ⟨W0, hW0⟩ : ∃ W0, w.alloc (.cells #[.int .i64 5, .string text, .slice PA place.length pc, .int .i64 source, .int .i64 time, .string type, .slice AA attrs.length ac, .int .i64 pattern, .int .i64 op, .int .i64 dest, .int .i64 broker, .int .i64 number, .int .i64 at_, .int .u8 wth] 40) = W0 := ⟨_, rfl⟩
  have HK0 : Hid (Kept [] w W0) := by show Kept _ _ _; rw [← hW0]; exact (Kept.refl [] w).alloc _
  have HB0 : Hid (Blk W0 w.heap.size (stepC ⟨5, text, place, source, time, type, attrs, pattern, op, dest, broker, number, at_, wth⟩ (.slice PA place.length pc) (.slice AA attrs.length ac)) 40) := by show Blk _ _ _ _; rw [← hW0]; exact Blk.new w #[.int .i64 5, .string text, .slice PA place.length pc, .int .i64 source, .int .i64 time, .string type, .slice AA attrs.length ac, .int .i64 pattern, .int .i64 op, .int .i64 dest, .int .i64 broker, .int .i64 number, .int .i64 at_, .int .u8 wth] _
  have HWD : Hid (∀ W, Calls Tryd.prog 38 #[.int .i64 5] W fun e w' => e = .returned (.string { data := #[116, 105, 99, 107] }) ∧ Kept [] W w') := fun W => rword_any 5 W
  have HBA : Hid (∀ W, Kept [] w W → Calls Tryd.prog 39 #[.agg #[.int .i64 5, .string text, .slice PA place.length pc, .int .i64 source, .int .i64 time, .string type, .slice AA attrs.length ac, .int .i64 pattern, .int .i64 op, .int .i64 dest, .int .i64 broker, .int .i64 number, .int .i64 at_, .int .u8 wth]] W fun e w' => e = .returned (.agg (stepC (bareS ⟨5, text, place, source, time, type, attrs, pattern, op, dest, broker, number, at_, wth⟩) (bareP 5 (.slice PA place.length pc)) (bareA 5 (.slice AA attrs.length ac)))) ∧ Kept [] W w') := fun W hk => (bare_5 _ _ _ W (HA.out.v.keep hk) rfl).mono fun e w' ⟨h1, _, h3⟩ => ⟨h1, h3⟩
  have HSM : Hid (∀ W, Kept [] w W → Calls Tryd.prog 15 #[.agg #[.int .i64 5, .string text, .slice PA place.length pc, .int .i64 source, .int .i64 time, .string type, .slice AA attrs.length ac, .int .i64 pattern, .int .i64 op, .int .i64 dest, .int .i64 broker, .int .i64 number, .int .i64 at_, .int .u8 wth], .agg (stepC (bareS ⟨5, text, place, source, time, type, attrs, pattern, op, dest, broker, number, at_, wth⟩) (bareP 5 (.slice PA place.length pc)) (bareA 5 (.slice AA attrs.length ac)))] W fun e w' => e = .returned (.bool (sameS ⟨5, text, place, source, time, type, attrs, pattern, op, dest, broker, number, at_, wth⟩ (bareS ⟨5, text, place, source, time, type, attrs, pattern, op, dest, broker, number, at_, wth⟩))) ∧ Kept [] W w') := fun W hk => rsame_step _ _ _ _ _ _ W (HA.out.v.keep hk) (by
    have hv := HA.out.v.keep hk
    unfold StepV bareP bareA bareS
    exact ⟨rdI_nil _, rdsA_nil _⟩)
  have HKS : Hid (∀ w1, Kept [] W0 w1 → ∀ s : SW (Kept [] w1), Kept [] w s.to) := fun w1 h s => (HK0.out.trans h).trans s.ok
  obtain ⟨q, hq⟩ : ∃ q, sameS ⟨5, text, place, source, time, type, attrs, pattern, op, dest, broker, number, at_, wth⟩ (bareS ⟨5, text, place, source, time, type, attrs, pattern, op, dest, broker, number, at_, wth⟩) = q := ⟨_, rfl⟩
  rw [hq] at HSM
  have HQ := Lib.hid hq
  have HW0 := Lib.hid hW0
  clear ha hq hW0
  dsimp only [stepC]
  go_enter Tryd.func21, Tryd.ntmps21
  go_upto_region 1 with fail
  rw [show w.alloc (.cells #[.int .i64 5, .string text, .slice PA place.length pc, .int .i64 source, .int .i64 time, .string type, .slice AA attrs.length ac, .int .i64 pattern, .int .i64 op, .int .i64 dest, .int .i64 broker, .int .i64 number, .int .i64 at_, .int .u8 wth] 40) = W0 from HW0.out]
  have z0 : W0.cell? ⟨w.heap.size, 0, none⟩ = some (.int .i64 5) := HB0.out.cell 0
  go_wp2_with fail
  refine (HWD.out _).mono ?_
  rintro e w1 ⟨rfl, hk1⟩
  have HK1 := Lib.hid hk1
  have HB1 := Lib.hid (HB0.out.kept hk1 (by simp))
  clear hk1 z0
  go_upto_region 2 with fail
  have a0 : ∀ s : SW (Kept [] w1), s.to.cell? ⟨w.heap.size, 0, none⟩ = some (.int .i64 5) := fun s => (HB1.out.kept s.ok (by simp)).cell 0
  have a1 : ∀ s : SW (Kept [] w1), s.to.cell? ⟨w.heap.size, 1, none⟩ = some (.string text) := fun s => (HB1.out.kept s.ok (by simp)).cell 1
  have a2 : ∀ s : SW (Kept [] w1), s.to.cell? ⟨w.heap.size, 2, none⟩ = some (.slice PA place.length pc) := fun s => (HB1.out.kept s.ok (by simp)).cell 2
  have a3 : ∀ s : SW (Kept [] w1), s.to.cell? ⟨w.heap.size, 3, none⟩ = some (.int .i64 source) := fun s => (HB1.out.kept s.ok (by simp)).cell 3
  have a4 : ∀ s : SW (Kept [] w1), s.to.cell? ⟨w.heap.size, 4, none⟩ = some (.int .i64 time) := fun s => (HB1.out.kept s.ok (by simp)).cell 4
  have a5 : ∀ s : SW (Kept [] w1), s.to.cell? ⟨w.heap.size, 5, none⟩ = some (.string type) := fun s => (HB1.out.kept s.ok (by simp)).cell 5
  have a6 : ∀ s : SW (Kept [] w1), s.to.cell? ⟨w.heap.size, 6, none⟩ = some (.slice AA attrs.length ac) := fun s => (HB1.out.kept s.ok (by simp)).cell 6
  have a7 : ∀ s : SW (Kept [] w1), s.to.cell? ⟨w.heap.size, 7, none⟩ = some (.int .i64 pattern) := fun s => (HB1.out.kept s.ok (by simp)).cell 7
  have a8 : ∀ s : SW (Kept [] w1), s.to.cell? ⟨w.heap.size, 8, none⟩ = some (.int .i64 op) := fun s => (HB1.out.kept s.ok (by simp)).cell 8
  have a9 : ∀ s : SW (Kept [] w1), s.to.cell? ⟨w.heap.size, 9, none⟩ = some (.int .i64 dest) := fun s => (HB1.out.kept s.ok (by simp)).cell 9
  have a10 : ∀ s : SW (Kept [] w1), s.to.cell? ⟨w.heap.size, 10, none⟩ = some (.int .i64 broker) := fun s => (HB1.out.kept s.ok (by simp)).cell 10
  have a11 : ∀ s : SW (Kept [] w1), s.to.cell? ⟨w.heap.size, 11, none⟩ = some (.int .i64 number) := fun s => (HB1.out.kept s.ok (by simp)).cell 11
  have a12 : ∀ s : SW (Kept [] w1), s.to.cell? ⟨w.heap.size, 12, none⟩ = some (.int .i64 at_) := fun s => (HB1.out.kept s.ok (by simp)).cell 12
  have a13 : ∀ s : SW (Kept [] w1), s.to.cell? ⟨w.heap.size, 13, none⟩ = some (.int .u8 wth) := fun s => (HB1.out.kept s.ok (by simp)).cell 13
  refine wp_region_sw (Kept [] w1) (stays_kept w1) (Kept.refl _ _) (by kernel_rfl) (by kernel_rfl) (fun hne => ?_)
  repeat (go_big_quiet_step (first
    | (go_at_call 39; exact SW.calls (stays_kept w1) (HBA.out _ (HKS.out _ HK1.out _)))
    | (go_at_call 15; exact SW.calls (stays_kept w1) (HSM.out _ (HKS.out _ HK1.out _)))))
  refine wpQuiet_nil ?_
  intro w2 hs2
  have HK2 := Lib.hid (HK1.out.trans hs2)
  have HB2 := Lib.hid (HB1.out.kept hs2 (by simp))
  clear hs2 a0 a1 a2 a3 a4 a5 a6 a7 a8 a9 a10 a11 a12 a13
  cases q with
  | false =>
    have HN : Hid (lineT ⟨5, text, place, source, time, type, attrs, pattern, op, dest, broker, number, at_, wth⟩ = none) := lineT_no (fun hh => sameS_false HQ.out hh.1)
    go_wp2_with fail
    go_ret2
    exact LinePost.no HN.out (HK0.out.trans HK2.out)
  | true =>
    have HXB := Lib.hid (sameS_true HQ.out)
    obtain ⟨a0, a1, a2, a3, a4, a5, a6, a7, a8, a9, a10, a11, a12, a13⟩ := HB2.out.step
    have HIT : Hid (∀ W, Kept [] w W → Calls Tryd.prog 25 #[.int .i64 broker] W fun e w' => e = .returned (.string (numT broker)) ∧ Kept [] W w') := fun W hk => ritoa_any broker HA.out.sm.broker W (HA.out.tab.keep hk)
    have hs1 := num_size HA.out.sm.broker
    have HY : Hid (lineT ⟨5, text, place, source, time, type, attrs, pattern, op, dest, broker, number, at_, wth⟩ = some ({ data := #[116, 105, 99, 107] } ++ ({ data := #[32] } ++ numT broker))) := by
      show _ = _
      rw [lineT_yes (by show (1 : Int) ≤ 5; decide) (by show (5 : Int) ≤ 12; decide) HXB.out rfl]
      exact congrArg some (tail1 _ _)
    go_wp2_with fail
    refine (HIT.out _ (HK0.out.trans HK2.out)).mono ?_
    rintro e w3 ⟨rfl, hk3⟩
    have HK3 := Lib.hid (HK2.out.trans hk3)
    clear hk3
    go_wp2_with fail
    go_ret2
    exact LinePost.yes HY.out (HK0.out.trans HK3.out)
set_option maxRecDepth 100000 in
set_option maxHeartbeats 8000000 in
theorem rline_6 (x : StepD) (pv av : Value) (w : World) (ha : RAsk w x pv av) (hk : x.kind = 6) : Calls Tryd.prog 21 #[.agg (stepC x pv av)] w (LinePost w (lineT x)) := by
  obtain ⟨PA, pc, rfl, _⟩ := ha.v.1
  obtain ⟨AA, ac, rfl, _⟩ := ha.v.2.form
  obtain ⟨kind, text, place, source, time, type, attrs, pattern, op, dest, broker, number, at_, wth⟩ := x
  dsimp only at hk ha
  subst hk
  have HA := Lib.hid ha
  obtain ⟨W0, hW0⟩ : ∃ W0, w.alloc (.cells #[.int .i64 6, .string text, .slice PA place.length pc, .int .i64 source, .int .i64 time, .string type, .slice AA attrs.length ac, .int .i64 pattern, .int .i64 op, .int .i64 dest, .int .i64 broker, .int .i64 number, .int .i64 at_, .int .u8 wth] 40) = W0 := ⟨_, rfl⟩
  have HK0 : Hid (Kept [] w W0) := by show Kept _ _ _; rw [← hW0]; exact (Kept.refl [] w).alloc _
  have HB0 : Hid (Blk W0 w.heap.size (stepC ⟨6, text, place, source, time, type, attrs, pattern, op, dest, broker, number, at_, wth⟩ (.slice PA place.length pc) (.slice AA attrs.length ac)) 40) := by show Blk _ _ _ _; rw [← hW0]; exact Blk.new w #[.int .i64 6, .string text, .slice PA place.length pc, .int .i64 source, .int .i64 time, .string type, .slice AA attrs.length ac, .int .i64 pattern, .int .i64 op, .int .i64 dest, .int .i64 broker, .int .i64 number, .int .i64 at_, .int .u8 wth] _
  have HWD : Hid (∀ W, Calls Tryd.prog 38 #[.int .i64 6] W fun e w' => e = .returned (.string { data := #[97, 108, 108] }) ∧ Kept [] W w') := fun W => rword_any 6 W
  have HBA : Hid (∀ W, Kept [] w W → Calls Tryd.prog 39 #[.agg #[.int .i64 6, .string text, .slice PA place.length pc, .int .i64 source, .int .i64 time, .string type, .slice AA attrs.length ac, .int .i64 pattern, .int .i64 op, .int .i64 dest, .int .i64 broker, .int .i64 number, .int .i64 at_, .int .u8 wth]] W fun e w' => e = .returned (.agg (stepC (bareS ⟨6, text, place, source, time, type, attrs, pattern, op, dest, broker, number, at_, wth⟩) (bareP 6 (.slice PA place.length pc)) (bareA 6 (.slice AA attrs.length ac)))) ∧ Kept [] W w') := fun W hk => (bare_6 _ _ _ W (HA.out.v.keep hk) rfl).mono fun e w' ⟨h1, _, h3⟩ => ⟨h1, h3⟩
  have HSM : Hid (∀ W, Kept [] w W → Calls Tryd.prog 15 #[.agg #[.int .i64 6, .string text, .slice PA place.length pc, .int .i64 source, .int .i64 time, .string type, .slice AA attrs.length ac, .int .i64 pattern, .int .i64 op, .int .i64 dest, .int .i64 broker, .int .i64 number, .int .i64 at_, .int .u8 wth], .agg (stepC (bareS ⟨6, text, place, source, time, type, attrs, pattern, op, dest, broker, number, at_, wth⟩) (bareP 6 (.slice PA place.length pc)) (bareA 6 (.slice AA attrs.length ac)))] W fun e w' => e = .returned (.bool (sameS ⟨6, text, place, source, time, type, attrs, pattern, op, dest, broker, number, at_, wth⟩ (bareS ⟨6, text, place, source, time, type, attrs, pattern, op, dest, broker, number, at_, wth⟩))) ∧ Kept [] W w') := fun W hk => rsame_step _ _ _ _ _ _ W (HA.out.v.keep hk) (by
    have hv := HA.out.v.keep hk
    unfold StepV bareP bareA bareS
    exact ⟨rdI_nil _, rdsA_nil _⟩)
  have HKS : Hid (∀ w1, Kept [] W0 w1 → ∀ s : SW (Kept [] w1), Kept [] w s.to) := fun w1 h s => (HK0.out.trans h).trans s.ok
  obtain ⟨q, hq⟩ : ∃ q, sameS ⟨6, text, place, source, time, type, attrs, pattern, op, dest, broker, number, at_, wth⟩ (bareS ⟨6, text, place, source, time, type, attrs, pattern, op, dest, broker, number, at_, wth⟩) = q := ⟨_, rfl⟩
  rw [hq] at HSM
  have HQ := Lib.hid hq
  have HW0 := Lib.hid hW0
  clear ha hq hW0
  dsimp only [stepC]
  go_enter Tryd.func21, Tryd.ntmps21
  go_upto_region 1 with fail
  rw [show w.alloc (.cells #[.int .i64 6, .string text, .slice PA place.length pc, .int .i64 source, .int .i64 time, .string type, .slice AA attrs.length ac, .int .i64 pattern, .int .i64 op, .int .i64 dest, .int .i64 broker, .int .i64 number, .int .i64 at_, .int .u8 wth] 40) = W0 from HW0.out]
  have z0 : W0.cell? ⟨w.heap.size, 0, none⟩ = some (.int .i64 6) := HB0.out.cell 0
  go_wp2_with fail
  refine (HWD.out _).mono ?_
  rintro e w1 ⟨rfl, hk1⟩
  have HK1 := Lib.hid hk1
  have HB1 := Lib.hid (HB0.out.kept hk1 (by simp))
  clear hk1 z0
  go_upto_region 2 with fail
  have a0 : ∀ s : SW (Kept [] w1), s.to.cell? ⟨w.heap.size, 0, none⟩ = some (.int .i64 6) := fun s => (HB1.out.kept s.ok (by simp)).cell 0
  have a1 : ∀ s : SW (Kept [] w1), s.to.cell? ⟨w.heap.size, 1, none⟩ = some (.string text) := fun s => (HB1.out.kept s.ok (by simp)).cell 1
  have a2 : ∀ s : SW (Kept [] w1), s.to.cell? ⟨w.heap.size, 2, none⟩ = some (.slice PA place.length pc) := fun s => (HB1.out.kept s.ok (by simp)).cell 2
  have a3 : ∀ s : SW (Kept [] w1), s.to.cell? ⟨w.heap.size, 3, none⟩ = some (.int .i64 source) := fun s => (HB1.out.kept s.ok (by simp)).cell 3
  have a4 : ∀ s : SW (Kept [] w1), s.to.cell? ⟨w.heap.size, 4, none⟩ = some (.int .i64 time) := fun s => (HB1.out.kept s.ok (by simp)).cell 4
  have a5 : ∀ s : SW (Kept [] w1), s.to.cell? ⟨w.heap.size, 5, none⟩ = some (.string type) := fun s => (HB1.out.kept s.ok (by simp)).cell 5
  have a6 : ∀ s : SW (Kept [] w1), s.to.cell? ⟨w.heap.size, 6, none⟩ = some (.slice AA attrs.length ac) := fun s => (HB1.out.kept s.ok (by simp)).cell 6
  have a7 : ∀ s : SW (Kept [] w1), s.to.cell? ⟨w.heap.size, 7, none⟩ = some (.int .i64 pattern) := fun s => (HB1.out.kept s.ok (by simp)).cell 7
  have a8 : ∀ s : SW (Kept [] w1), s.to.cell? ⟨w.heap.size, 8, none⟩ = some (.int .i64 op) := fun s => (HB1.out.kept s.ok (by simp)).cell 8
  have a9 : ∀ s : SW (Kept [] w1), s.to.cell? ⟨w.heap.size, 9, none⟩ = some (.int .i64 dest) := fun s => (HB1.out.kept s.ok (by simp)).cell 9
  have a10 : ∀ s : SW (Kept [] w1), s.to.cell? ⟨w.heap.size, 10, none⟩ = some (.int .i64 broker) := fun s => (HB1.out.kept s.ok (by simp)).cell 10
  have a11 : ∀ s : SW (Kept [] w1), s.to.cell? ⟨w.heap.size, 11, none⟩ = some (.int .i64 number) := fun s => (HB1.out.kept s.ok (by simp)).cell 11
  have a12 : ∀ s : SW (Kept [] w1), s.to.cell? ⟨w.heap.size, 12, none⟩ = some (.int .i64 at_) := fun s => (HB1.out.kept s.ok (by simp)).cell 12
  have a13 : ∀ s : SW (Kept [] w1), s.to.cell? ⟨w.heap.size, 13, none⟩ = some (.int .u8 wth) := fun s => (HB1.out.kept s.ok (by simp)).cell 13
  refine wp_region_sw (Kept [] w1) (stays_kept w1) (Kept.refl _ _) (by kernel_rfl) (by kernel_rfl) (fun hne => ?_)
  repeat (go_big_quiet_step (first
    | (go_at_call 39; exact SW.calls (stays_kept w1) (HBA.out _ (HKS.out _ HK1.out _)))
    | (go_at_call 15; exact SW.calls (stays_kept w1) (HSM.out _ (HKS.out _ HK1.out _)))))
  refine wpQuiet_nil ?_
  intro w2 hs2
  have HK2 := Lib.hid (HK1.out.trans hs2)
  have HB2 := Lib.hid (HB1.out.kept hs2 (by simp))
  clear hs2 a0 a1 a2 a3 a4 a5 a6 a7 a8 a9 a10 a11 a12 a13
  cases q with
  | false =>
    have HN : Hid (lineT ⟨6, text, place, source, time, type, attrs, pattern, op, dest, broker, number, at_, wth⟩ = none) := lineT_no (fun hh => sameS_false HQ.out hh.1)
    go_wp2_with fail
    go_ret2
    exact LinePost.no HN.out (HK0.out.trans HK2.out)
  | true =>
    have HXB := Lib.hid (sameS_true HQ.out)
    obtain ⟨a0, a1, a2, a3, a4, a5, a6, a7, a8, a9, a10, a11, a12, a13⟩ := HB2.out.step
    have HY : Hid (lineT ⟨6, text, place, source, time, type, attrs, pattern, op, dest, broker, number, at_, wth⟩ = some ({ data := #[97, 108, 108] })) := by
      show _ = _
      rw [lineT_yes (by show (1 : Int) ≤ 6; decide) (by show (6 : Int) ≤ 12; decide) HXB.out rfl]
      exact congrArg some (tail0 _)
    go_wp2_with fail
    go_ret2
    exact LinePost.yes HY.out (HK0.out.trans HK2.out)
set_option maxRecDepth 100000 in
set_option maxHeartbeats 8000000 in
theorem rline_7 (x : StepD) (pv av : Value) (w : World) (ha : RAsk w x pv av) (hk : x.kind = 7) : Calls Tryd.prog 21 #[.agg (stepC x pv av)] w (LinePost w (lineT x)) := by
  obtain ⟨PA, pc, rfl, _⟩ := ha.v.1
  obtain ⟨AA, ac, rfl, _⟩ := ha.v.2.form
  obtain ⟨kind, text, place, source, time, type, attrs, pattern, op, dest, broker, number, at_, wth⟩ := x
  dsimp only at hk ha
  subst hk
  have HA := Lib.hid ha
  obtain ⟨W0, hW0⟩ : ∃ W0, w.alloc (.cells #[.int .i64 7, .string text, .slice PA place.length pc, .int .i64 source, .int .i64 time, .string type, .slice AA attrs.length ac, .int .i64 pattern, .int .i64 op, .int .i64 dest, .int .i64 broker, .int .i64 number, .int .i64 at_, .int .u8 wth] 40) = W0 := ⟨_, rfl⟩
  have HK0 : Hid (Kept [] w W0) := by show Kept _ _ _; rw [← hW0]; exact (Kept.refl [] w).alloc _
  have HB0 : Hid (Blk W0 w.heap.size (stepC ⟨7, text, place, source, time, type, attrs, pattern, op, dest, broker, number, at_, wth⟩ (.slice PA place.length pc) (.slice AA attrs.length ac)) 40) := by show Blk _ _ _ _; rw [← hW0]; exact Blk.new w #[.int .i64 7, .string text, .slice PA place.length pc, .int .i64 source, .int .i64 time, .string type, .slice AA attrs.length ac, .int .i64 pattern, .int .i64 op, .int .i64 dest, .int .i64 broker, .int .i64 number, .int .i64 at_, .int .u8 wth] _
  have HWD : Hid (∀ W, Calls Tryd.prog 38 #[.int .i64 7] W fun e w' => e = .returned (.string { data := #[100, 101, 108, 105, 118, 101, 114] }) ∧ Kept [] W w') := fun W => rword_any 7 W
  have HBA : Hid (∀ W, Kept [] w W → Calls Tryd.prog 39 #[.agg #[.int .i64 7, .string text, .slice PA place.length pc, .int .i64 source, .int .i64 time, .string type, .slice AA attrs.length ac, .int .i64 pattern, .int .i64 op, .int .i64 dest, .int .i64 broker, .int .i64 number, .int .i64 at_, .int .u8 wth]] W fun e w' => e = .returned (.agg (stepC (bareS ⟨7, text, place, source, time, type, attrs, pattern, op, dest, broker, number, at_, wth⟩) (bareP 7 (.slice PA place.length pc)) (bareA 7 (.slice AA attrs.length ac)))) ∧ Kept [] W w') := fun W hk => (bare_7 _ _ _ W (HA.out.v.keep hk) rfl).mono fun e w' ⟨h1, _, h3⟩ => ⟨h1, h3⟩
  have HSM : Hid (∀ W, Kept [] w W → Calls Tryd.prog 15 #[.agg #[.int .i64 7, .string text, .slice PA place.length pc, .int .i64 source, .int .i64 time, .string type, .slice AA attrs.length ac, .int .i64 pattern, .int .i64 op, .int .i64 dest, .int .i64 broker, .int .i64 number, .int .i64 at_, .int .u8 wth], .agg (stepC (bareS ⟨7, text, place, source, time, type, attrs, pattern, op, dest, broker, number, at_, wth⟩) (bareP 7 (.slice PA place.length pc)) (bareA 7 (.slice AA attrs.length ac)))] W fun e w' => e = .returned (.bool (sameS ⟨7, text, place, source, time, type, attrs, pattern, op, dest, broker, number, at_, wth⟩ (bareS ⟨7, text, place, source, time, type, attrs, pattern, op, dest, broker, number, at_, wth⟩))) ∧ Kept [] W w') := fun W hk => rsame_step _ _ _ _ _ _ W (HA.out.v.keep hk) (by
    have hv := HA.out.v.keep hk
    unfold StepV bareP bareA bareS
    exact ⟨rdI_nil _, rdsA_nil _⟩)
  have HKS : Hid (∀ w1, Kept [] W0 w1 → ∀ s : SW (Kept [] w1), Kept [] w s.to) := fun w1 h s => (HK0.out.trans h).trans s.ok
  obtain ⟨q, hq⟩ : ∃ q, sameS ⟨7, text, place, source, time, type, attrs, pattern, op, dest, broker, number, at_, wth⟩ (bareS ⟨7, text, place, source, time, type, attrs, pattern, op, dest, broker, number, at_, wth⟩) = q := ⟨_, rfl⟩
  rw [hq] at HSM
  have HQ := Lib.hid hq
  have HW0 := Lib.hid hW0
  clear ha hq hW0
  dsimp only [stepC]
  go_enter Tryd.func21, Tryd.ntmps21
  go_upto_region 1 with fail
  rw [show w.alloc (.cells #[.int .i64 7, .string text, .slice PA place.length pc, .int .i64 source, .int .i64 time, .string type, .slice AA attrs.length ac, .int .i64 pattern, .int .i64 op, .int .i64 dest, .int .i64 broker, .int .i64 number, .int .i64 at_, .int .u8 wth] 40) = W0 from HW0.out]
  have z0 : W0.cell? ⟨w.heap.size, 0, none⟩ = some (.int .i64 7) := HB0.out.cell 0
  go_wp2_with fail
  refine (HWD.out _).mono ?_
  rintro e w1 ⟨rfl, hk1⟩
  have HK1 := Lib.hid hk1
  have HB1 := Lib.hid (HB0.out.kept hk1 (by simp))
  clear hk1 z0
  go_upto_region 2 with fail
  have a0 : ∀ s : SW (Kept [] w1), s.to.cell? ⟨w.heap.size, 0, none⟩ = some (.int .i64 7) := fun s => (HB1.out.kept s.ok (by simp)).cell 0
  have a1 : ∀ s : SW (Kept [] w1), s.to.cell? ⟨w.heap.size, 1, none⟩ = some (.string text) := fun s => (HB1.out.kept s.ok (by simp)).cell 1
  have a2 : ∀ s : SW (Kept [] w1), s.to.cell? ⟨w.heap.size, 2, none⟩ = some (.slice PA place.length pc) := fun s => (HB1.out.kept s.ok (by simp)).cell 2
  have a3 : ∀ s : SW (Kept [] w1), s.to.cell? ⟨w.heap.size, 3, none⟩ = some (.int .i64 source) := fun s => (HB1.out.kept s.ok (by simp)).cell 3
  have a4 : ∀ s : SW (Kept [] w1), s.to.cell? ⟨w.heap.size, 4, none⟩ = some (.int .i64 time) := fun s => (HB1.out.kept s.ok (by simp)).cell 4
  have a5 : ∀ s : SW (Kept [] w1), s.to.cell? ⟨w.heap.size, 5, none⟩ = some (.string type) := fun s => (HB1.out.kept s.ok (by simp)).cell 5
  have a6 : ∀ s : SW (Kept [] w1), s.to.cell? ⟨w.heap.size, 6, none⟩ = some (.slice AA attrs.length ac) := fun s => (HB1.out.kept s.ok (by simp)).cell 6
  have a7 : ∀ s : SW (Kept [] w1), s.to.cell? ⟨w.heap.size, 7, none⟩ = some (.int .i64 pattern) := fun s => (HB1.out.kept s.ok (by simp)).cell 7
  have a8 : ∀ s : SW (Kept [] w1), s.to.cell? ⟨w.heap.size, 8, none⟩ = some (.int .i64 op) := fun s => (HB1.out.kept s.ok (by simp)).cell 8
  have a9 : ∀ s : SW (Kept [] w1), s.to.cell? ⟨w.heap.size, 9, none⟩ = some (.int .i64 dest) := fun s => (HB1.out.kept s.ok (by simp)).cell 9
  have a10 : ∀ s : SW (Kept [] w1), s.to.cell? ⟨w.heap.size, 10, none⟩ = some (.int .i64 broker) := fun s => (HB1.out.kept s.ok (by simp)).cell 10
  have a11 : ∀ s : SW (Kept [] w1), s.to.cell? ⟨w.heap.size, 11, none⟩ = some (.int .i64 number) := fun s => (HB1.out.kept s.ok (by simp)).cell 11
  have a12 : ∀ s : SW (Kept [] w1), s.to.cell? ⟨w.heap.size, 12, none⟩ = some (.int .i64 at_) := fun s => (HB1.out.kept s.ok (by simp)).cell 12
  have a13 : ∀ s : SW (Kept [] w1), s.to.cell? ⟨w.heap.size, 13, none⟩ = some (.int .u8 wth) := fun s => (HB1.out.kept s.ok (by simp)).cell 13
  refine wp_region_sw (Kept [] w1) (stays_kept w1) (Kept.refl _ _) (by kernel_rfl) (by kernel_rfl) (fun hne => ?_)
  repeat (go_big_quiet_step (first
    | (go_at_call 39; exact SW.calls (stays_kept w1) (HBA.out _ (HKS.out _ HK1.out _)))
    | (go_at_call 15; exact SW.calls (stays_kept w1) (HSM.out _ (HKS.out _ HK1.out _)))))
  refine wpQuiet_nil ?_
  intro w2 hs2
  have HK2 := Lib.hid (HK1.out.trans hs2)
  have HB2 := Lib.hid (HB1.out.kept hs2 (by simp))
  clear hs2 a0 a1 a2 a3 a4 a5 a6 a7 a8 a9 a10 a11 a12 a13
  cases q with
  | false =>
    have HN : Hid (lineT ⟨7, text, place, source, time, type, attrs, pattern, op, dest, broker, number, at_, wth⟩ = none) := lineT_no (fun hh => sameS_false HQ.out hh.1)
    go_wp2_with fail
    go_ret2
    exact LinePost.no HN.out (HK0.out.trans HK2.out)
  | true =>
    have HXB := Lib.hid (sameS_true HQ.out)
    obtain ⟨a0, a1, a2, a3, a4, a5, a6, a7, a8, a9, a10, a11, a12, a13⟩ := HB2.out.step
    have HIT : Hid (∀ W, Kept [] w W → Calls Tryd.prog 42 #[.int .i64 number] W fun e w' => e = .returned (.string (numT number)) ∧ Kept [] W w') := fun W hk => rnum_any number HA.out.sm.number W (HA.out.tab.keep hk)
    have hs1 := num_size HA.out.sm.number
    have HY : Hid (lineT ⟨7, text, place, source, time, type, attrs, pattern, op, dest, broker, number, at_, wth⟩ = some ({ data := #[100, 101, 108, 105, 118, 101, 114] } ++ ({ data := #[32] } ++ numT number))) := by
      show _ = _
      rw [lineT_yes (by show (1 : Int) ≤ 7; decide) (by show (7 : Int) ≤ 12; decide) HXB.out rfl]
      exact congrArg some (tail1 _ _)
    go_wp2_with fail
    refine (HIT.out _ (HK0.out.trans HK2.out)).mono ?_
    rintro e w3 ⟨rfl, hk3⟩
    have HK3 := Lib.hid (HK2.out.trans hk3)
    clear hk3
    go_wp2_with fail
    go_ret2
    exact LinePost.yes HY.out (HK0.out.trans HK3.out)
set_option maxRecDepth 100000 in
set_option maxHeartbeats 8000000 in
theorem rline_8 (x : StepD) (pv av : Value) (w : World) (ha : RAsk w x pv av) (hk : x.kind = 8) : Calls Tryd.prog 21 #[.agg (stepC x pv av)] w (LinePost w (lineT x)) := by
  obtain ⟨PA, pc, rfl, _⟩ := ha.v.1
  obtain ⟨AA, ac, rfl, _⟩ := ha.v.2.form
  obtain ⟨kind, text, place, source, time, type, attrs, pattern, op, dest, broker, number, at_, wth⟩ := x
  dsimp only at hk ha
  subst hk
  have HA := Lib.hid ha
  obtain ⟨W0, hW0⟩ : ∃ W0, w.alloc (.cells #[.int .i64 8, .string text, .slice PA place.length pc, .int .i64 source, .int .i64 time, .string type, .slice AA attrs.length ac, .int .i64 pattern, .int .i64 op, .int .i64 dest, .int .i64 broker, .int .i64 number, .int .i64 at_, .int .u8 wth] 40) = W0 := ⟨_, rfl⟩
  have HK0 : Hid (Kept [] w W0) := by show Kept _ _ _; rw [← hW0]; exact (Kept.refl [] w).alloc _
  have HB0 : Hid (Blk W0 w.heap.size (stepC ⟨8, text, place, source, time, type, attrs, pattern, op, dest, broker, number, at_, wth⟩ (.slice PA place.length pc) (.slice AA attrs.length ac)) 40) := by show Blk _ _ _ _; rw [← hW0]; exact Blk.new w #[.int .i64 8, .string text, .slice PA place.length pc, .int .i64 source, .int .i64 time, .string type, .slice AA attrs.length ac, .int .i64 pattern, .int .i64 op, .int .i64 dest, .int .i64 broker, .int .i64 number, .int .i64 at_, .int .u8 wth] _
  have HWD : Hid (∀ W, Calls Tryd.prog 38 #[.int .i64 8] W fun e w' => e = .returned (.string { data := #[100, 114, 111, 112] }) ∧ Kept [] W w') := fun W => rword_any 8 W
  have HBA : Hid (∀ W, Kept [] w W → Calls Tryd.prog 39 #[.agg #[.int .i64 8, .string text, .slice PA place.length pc, .int .i64 source, .int .i64 time, .string type, .slice AA attrs.length ac, .int .i64 pattern, .int .i64 op, .int .i64 dest, .int .i64 broker, .int .i64 number, .int .i64 at_, .int .u8 wth]] W fun e w' => e = .returned (.agg (stepC (bareS ⟨8, text, place, source, time, type, attrs, pattern, op, dest, broker, number, at_, wth⟩) (bareP 8 (.slice PA place.length pc)) (bareA 8 (.slice AA attrs.length ac)))) ∧ Kept [] W w') := fun W hk => (bare_8 _ _ _ W (HA.out.v.keep hk) rfl).mono fun e w' ⟨h1, _, h3⟩ => ⟨h1, h3⟩
  have HSM : Hid (∀ W, Kept [] w W → Calls Tryd.prog 15 #[.agg #[.int .i64 8, .string text, .slice PA place.length pc, .int .i64 source, .int .i64 time, .string type, .slice AA attrs.length ac, .int .i64 pattern, .int .i64 op, .int .i64 dest, .int .i64 broker, .int .i64 number, .int .i64 at_, .int .u8 wth], .agg (stepC (bareS ⟨8, text, place, source, time, type, attrs, pattern, op, dest, broker, number, at_, wth⟩) (bareP 8 (.slice PA place.length pc)) (bareA 8 (.slice AA attrs.length ac)))] W fun e w' => e = .returned (.bool (sameS ⟨8, text, place, source, time, type, attrs, pattern, op, dest, broker, number, at_, wth⟩ (bareS ⟨8, text, place, source, time, type, attrs, pattern, op, dest, broker, number, at_, wth⟩))) ∧ Kept [] W w') := fun W hk => rsame_step _ _ _ _ _ _ W (HA.out.v.keep hk) (by
    have hv := HA.out.v.keep hk
    unfold StepV bareP bareA bareS
    exact ⟨rdI_nil _, rdsA_nil _⟩)
  have HKS : Hid (∀ w1, Kept [] W0 w1 → ∀ s : SW (Kept [] w1), Kept [] w s.to) := fun w1 h s => (HK0.out.trans h).trans s.ok
  obtain ⟨q, hq⟩ : ∃ q, sameS ⟨8, text, place, source, time, type, attrs, pattern, op, dest, broker, number, at_, wth⟩ (bareS ⟨8, text, place, source, time, type, attrs, pattern, op, dest, broker, number, at_, wth⟩) = q := ⟨_, rfl⟩
  rw [hq] at HSM
  have HQ := Lib.hid hq
  have HW0 := Lib.hid hW0
  clear ha hq hW0
  dsimp only [stepC]
  go_enter Tryd.func21, Tryd.ntmps21
  go_upto_region 1 with fail
  rw [show w.alloc (.cells #[.int .i64 8, .string text, .slice PA place.length pc, .int .i64 source, .int .i64 time, .string type, .slice AA attrs.length ac, .int .i64 pattern, .int .i64 op, .int .i64 dest, .int .i64 broker, .int .i64 number, .int .i64 at_, .int .u8 wth] 40) = W0 from HW0.out]
  have z0 : W0.cell? ⟨w.heap.size, 0, none⟩ = some (.int .i64 8) := HB0.out.cell 0
  go_wp2_with fail
  refine (HWD.out _).mono ?_
  rintro e w1 ⟨rfl, hk1⟩
  have HK1 := Lib.hid hk1
  have HB1 := Lib.hid (HB0.out.kept hk1 (by simp))
  clear hk1 z0
  go_upto_region 2 with fail
  have a0 : ∀ s : SW (Kept [] w1), s.to.cell? ⟨w.heap.size, 0, none⟩ = some (.int .i64 8) := fun s => (HB1.out.kept s.ok (by simp)).cell 0
  have a1 : ∀ s : SW (Kept [] w1), s.to.cell? ⟨w.heap.size, 1, none⟩ = some (.string text) := fun s => (HB1.out.kept s.ok (by simp)).cell 1
  have a2 : ∀ s : SW (Kept [] w1), s.to.cell? ⟨w.heap.size, 2, none⟩ = some (.slice PA place.length pc) := fun s => (HB1.out.kept s.ok (by simp)).cell 2
  have a3 : ∀ s : SW (Kept [] w1), s.to.cell? ⟨w.heap.size, 3, none⟩ = some (.int .i64 source) := fun s => (HB1.out.kept s.ok (by simp)).cell 3
  have a4 : ∀ s : SW (Kept [] w1), s.to.cell? ⟨w.heap.size, 4, none⟩ = some (.int .i64 time) := fun s => (HB1.out.kept s.ok (by simp)).cell 4
  have a5 : ∀ s : SW (Kept [] w1), s.to.cell? ⟨w.heap.size, 5, none⟩ = some (.string type) := fun s => (HB1.out.kept s.ok (by simp)).cell 5
  have a6 : ∀ s : SW (Kept [] w1), s.to.cell? ⟨w.heap.size, 6, none⟩ = some (.slice AA attrs.length ac) := fun s => (HB1.out.kept s.ok (by simp)).cell 6
  have a7 : ∀ s : SW (Kept [] w1), s.to.cell? ⟨w.heap.size, 7, none⟩ = some (.int .i64 pattern) := fun s => (HB1.out.kept s.ok (by simp)).cell 7
  have a8 : ∀ s : SW (Kept [] w1), s.to.cell? ⟨w.heap.size, 8, none⟩ = some (.int .i64 op) := fun s => (HB1.out.kept s.ok (by simp)).cell 8
  have a9 : ∀ s : SW (Kept [] w1), s.to.cell? ⟨w.heap.size, 9, none⟩ = some (.int .i64 dest) := fun s => (HB1.out.kept s.ok (by simp)).cell 9
  have a10 : ∀ s : SW (Kept [] w1), s.to.cell? ⟨w.heap.size, 10, none⟩ = some (.int .i64 broker) := fun s => (HB1.out.kept s.ok (by simp)).cell 10
  have a11 : ∀ s : SW (Kept [] w1), s.to.cell? ⟨w.heap.size, 11, none⟩ = some (.int .i64 number) := fun s => (HB1.out.kept s.ok (by simp)).cell 11
  have a12 : ∀ s : SW (Kept [] w1), s.to.cell? ⟨w.heap.size, 12, none⟩ = some (.int .i64 at_) := fun s => (HB1.out.kept s.ok (by simp)).cell 12
  have a13 : ∀ s : SW (Kept [] w1), s.to.cell? ⟨w.heap.size, 13, none⟩ = some (.int .u8 wth) := fun s => (HB1.out.kept s.ok (by simp)).cell 13
  refine wp_region_sw (Kept [] w1) (stays_kept w1) (Kept.refl _ _) (by kernel_rfl) (by kernel_rfl) (fun hne => ?_)
  repeat (go_big_quiet_step (first
    | (go_at_call 39; exact SW.calls (stays_kept w1) (HBA.out _ (HKS.out _ HK1.out _)))
    | (go_at_call 15; exact SW.calls (stays_kept w1) (HSM.out _ (HKS.out _ HK1.out _)))))
  refine wpQuiet_nil ?_
  intro w2 hs2
  have HK2 := Lib.hid (HK1.out.trans hs2)
  have HB2 := Lib.hid (HB1.out.kept hs2 (by simp))
  clear hs2 a0 a1 a2 a3 a4 a5 a6 a7 a8 a9 a10 a11 a12 a13
  cases q with
  | false =>
    have HN : Hid (lineT ⟨8, text, place, source, time, type, attrs, pattern, op, dest, broker, number, at_, wth⟩ = none) := lineT_no (fun hh => sameS_false HQ.out hh.1)
    go_wp2_with fail
    go_ret2
    exact LinePost.no HN.out (HK0.out.trans HK2.out)
  | true =>
    have HXB := Lib.hid (sameS_true HQ.out)
    obtain ⟨a0, a1, a2, a3, a4, a5, a6, a7, a8, a9, a10, a11, a12, a13⟩ := HB2.out.step
    have HIT : Hid (∀ W, Kept [] w W → Calls Tryd.prog 42 #[.int .i64 number] W fun e w' => e = .returned (.string (numT number)) ∧ Kept [] W w') := fun W hk => rnum_any number HA.out.sm.number W (HA.out.tab.keep hk)
    have hs1 := num_size HA.out.sm.number
    have HY : Hid (lineT ⟨8, text, place, source, time, type, attrs, pattern, op, dest, broker, number, at_, wth⟩ = some ({ data := #[100, 114, 111, 112] } ++ ({ data := #[32] } ++ numT number))) := by
      show _ = _
      rw [lineT_yes (by show (1 : Int) ≤ 8; decide) (by show (8 : Int) ≤ 12; decide) HXB.out rfl]
      exact congrArg some (tail1 _ _)
    go_wp2_with fail
    refine (HIT.out _ (HK0.out.trans HK2.out)).mono ?_
    rintro e w3 ⟨rfl, hk3⟩
    have HK3 := Lib.hid (HK2.out.trans hk3)
    clear hk3
    go_wp2_with fail
    go_ret2
    exact LinePost.yes HY.out (HK0.out.trans HK3.out)
set_option maxRecDepth 100000 in
set_option maxHeartbeats 8000000 in
theorem rline_9 (x : StepD) (pv av : Value) (w : World) (ha : RAsk w x pv av) (hk : x.kind = 9) : Calls Tryd.prog 21 #[.agg (stepC x pv av)] w (LinePost w (lineT x)) := by
  obtain ⟨PA, pc, rfl, _⟩ := ha.v.1
  obtain ⟨AA, ac, rfl, _⟩ := ha.v.2.form
  obtain ⟨kind, text, place, source, time, type, attrs, pattern, op, dest, broker, number, at_, wth⟩ := x
  dsimp only at hk ha
  subst hk
  have HA := Lib.hid ha
  obtain ⟨W0, hW0⟩ : ∃ W0, w.alloc (.cells #[.int .i64 9, .string text, .slice PA place.length pc, .int .i64 source, .int .i64 time, .string type, .slice AA attrs.length ac, .int .i64 pattern, .int .i64 op, .int .i64 dest, .int .i64 broker, .int .i64 number, .int .i64 at_, .int .u8 wth] 40) = W0 := ⟨_, rfl⟩
  have HK0 : Hid (Kept [] w W0) := by show Kept _ _ _; rw [← hW0]; exact (Kept.refl [] w).alloc _
  have HB0 : Hid (Blk W0 w.heap.size (stepC ⟨9, text, place, source, time, type, attrs, pattern, op, dest, broker, number, at_, wth⟩ (.slice PA place.length pc) (.slice AA attrs.length ac)) 40) := by show Blk _ _ _ _; rw [← hW0]; exact Blk.new w #[.int .i64 9, .string text, .slice PA place.length pc, .int .i64 source, .int .i64 time, .string type, .slice AA attrs.length ac, .int .i64 pattern, .int .i64 op, .int .i64 dest, .int .i64 broker, .int .i64 number, .int .i64 at_, .int .u8 wth] _
  have HWD : Hid (∀ W, Calls Tryd.prog 38 #[.int .i64 9] W fun e w' => e = .returned (.string { data := #[100, 111, 117, 98, 108, 101] }) ∧ Kept [] W w') := fun W => rword_any 9 W
  have HBA : Hid (∀ W, Kept [] w W → Calls Tryd.prog 39 #[.agg #[.int .i64 9, .string text, .slice PA place.length pc, .int .i64 source, .int .i64 time, .string type, .slice AA attrs.length ac, .int .i64 pattern, .int .i64 op, .int .i64 dest, .int .i64 broker, .int .i64 number, .int .i64 at_, .int .u8 wth]] W fun e w' => e = .returned (.agg (stepC (bareS ⟨9, text, place, source, time, type, attrs, pattern, op, dest, broker, number, at_, wth⟩) (bareP 9 (.slice PA place.length pc)) (bareA 9 (.slice AA attrs.length ac)))) ∧ Kept [] W w') := fun W hk => (bare_9 _ _ _ W (HA.out.v.keep hk) rfl).mono fun e w' ⟨h1, _, h3⟩ => ⟨h1, h3⟩
  have HSM : Hid (∀ W, Kept [] w W → Calls Tryd.prog 15 #[.agg #[.int .i64 9, .string text, .slice PA place.length pc, .int .i64 source, .int .i64 time, .string type, .slice AA attrs.length ac, .int .i64 pattern, .int .i64 op, .int .i64 dest, .int .i64 broker, .int .i64 number, .int .i64 at_, .int .u8 wth], .agg (stepC (bareS ⟨9, text, place, source, time, type, attrs, pattern, op, dest, broker, number, at_, wth⟩) (bareP 9 (.slice PA place.length pc)) (bareA 9 (.slice AA attrs.length ac)))] W fun e w' => e = .returned (.bool (sameS ⟨9, text, place, source, time, type, attrs, pattern, op, dest, broker, number, at_, wth⟩ (bareS ⟨9, text, place, source, time, type, attrs, pattern, op, dest, broker, number, at_, wth⟩))) ∧ Kept [] W w') := fun W hk => rsame_step _ _ _ _ _ _ W (HA.out.v.keep hk) (by
    have hv := HA.out.v.keep hk
    unfold StepV bareP bareA bareS
    exact ⟨rdI_nil _, rdsA_nil _⟩)
  have HKS : Hid (∀ w1, Kept [] W0 w1 → ∀ s : SW (Kept [] w1), Kept [] w s.to) := fun w1 h s => (HK0.out.trans h).trans s.ok
  obtain ⟨q, hq⟩ : ∃ q, sameS ⟨9, text, place, source, time, type, attrs, pattern, op, dest, broker, number, at_, wth⟩ (bareS ⟨9, text, place, source, time, type, attrs, pattern, op, dest, broker, number, at_, wth⟩) = q := ⟨_, rfl⟩
  rw [hq] at HSM
  have HQ := Lib.hid hq
  have HW0 := Lib.hid hW0
  clear ha hq hW0
  dsimp only [stepC]
  go_enter Tryd.func21, Tryd.ntmps21
  go_upto_region 1 with fail
  rw [show w.alloc (.cells #[.int .i64 9, .string text, .slice PA place.length pc, .int .i64 source, .int .i64 time, .string type, .slice AA attrs.length ac, .int .i64 pattern, .int .i64 op, .int .i64 dest, .int .i64 broker, .int .i64 number, .int .i64 at_, .int .u8 wth] 40) = W0 from HW0.out]
  have z0 : W0.cell? ⟨w.heap.size, 0, none⟩ = some (.int .i64 9) := HB0.out.cell 0
  go_wp2_with fail
  refine (HWD.out _).mono ?_
  rintro e w1 ⟨rfl, hk1⟩
  have HK1 := Lib.hid hk1
  have HB1 := Lib.hid (HB0.out.kept hk1 (by simp))
  clear hk1 z0
  go_upto_region 2 with fail
  have a0 : ∀ s : SW (Kept [] w1), s.to.cell? ⟨w.heap.size, 0, none⟩ = some (.int .i64 9) := fun s => (HB1.out.kept s.ok (by simp)).cell 0
  have a1 : ∀ s : SW (Kept [] w1), s.to.cell? ⟨w.heap.size, 1, none⟩ = some (.string text) := fun s => (HB1.out.kept s.ok (by simp)).cell 1
  have a2 : ∀ s : SW (Kept [] w1), s.to.cell? ⟨w.heap.size, 2, none⟩ = some (.slice PA place.length pc) := fun s => (HB1.out.kept s.ok (by simp)).cell 2
  have a3 : ∀ s : SW (Kept [] w1), s.to.cell? ⟨w.heap.size, 3, none⟩ = some (.int .i64 source) := fun s => (HB1.out.kept s.ok (by simp)).cell 3
  have a4 : ∀ s : SW (Kept [] w1), s.to.cell? ⟨w.heap.size, 4, none⟩ = some (.int .i64 time) := fun s => (HB1.out.kept s.ok (by simp)).cell 4
  have a5 : ∀ s : SW (Kept [] w1), s.to.cell? ⟨w.heap.size, 5, none⟩ = some (.string type) := fun s => (HB1.out.kept s.ok (by simp)).cell 5
  have a6 : ∀ s : SW (Kept [] w1), s.to.cell? ⟨w.heap.size, 6, none⟩ = some (.slice AA attrs.length ac) := fun s => (HB1.out.kept s.ok (by simp)).cell 6
  have a7 : ∀ s : SW (Kept [] w1), s.to.cell? ⟨w.heap.size, 7, none⟩ = some (.int .i64 pattern) := fun s => (HB1.out.kept s.ok (by simp)).cell 7
  have a8 : ∀ s : SW (Kept [] w1), s.to.cell? ⟨w.heap.size, 8, none⟩ = some (.int .i64 op) := fun s => (HB1.out.kept s.ok (by simp)).cell 8
  have a9 : ∀ s : SW (Kept [] w1), s.to.cell? ⟨w.heap.size, 9, none⟩ = some (.int .i64 dest) := fun s => (HB1.out.kept s.ok (by simp)).cell 9
  have a10 : ∀ s : SW (Kept [] w1), s.to.cell? ⟨w.heap.size, 10, none⟩ = some (.int .i64 broker) := fun s => (HB1.out.kept s.ok (by simp)).cell 10
  have a11 : ∀ s : SW (Kept [] w1), s.to.cell? ⟨w.heap.size, 11, none⟩ = some (.int .i64 number) := fun s => (HB1.out.kept s.ok (by simp)).cell 11
  have a12 : ∀ s : SW (Kept [] w1), s.to.cell? ⟨w.heap.size, 12, none⟩ = some (.int .i64 at_) := fun s => (HB1.out.kept s.ok (by simp)).cell 12
  have a13 : ∀ s : SW (Kept [] w1), s.to.cell? ⟨w.heap.size, 13, none⟩ = some (.int .u8 wth) := fun s => (HB1.out.kept s.ok (by simp)).cell 13
  refine wp_region_sw (Kept [] w1) (stays_kept w1) (Kept.refl _ _) (by kernel_rfl) (by kernel_rfl) (fun hne => ?_)
  repeat (go_big_quiet_step (first
    | (go_at_call 39; exact SW.calls (stays_kept w1) (HBA.out _ (HKS.out _ HK1.out _)))
    | (go_at_call 15; exact SW.calls (stays_kept w1) (HSM.out _ (HKS.out _ HK1.out _)))))
  refine wpQuiet_nil ?_
  intro w2 hs2
  have HK2 := Lib.hid (HK1.out.trans hs2)
  have HB2 := Lib.hid (HB1.out.kept hs2 (by simp))
  clear hs2 a0 a1 a2 a3 a4 a5 a6 a7 a8 a9 a10 a11 a12 a13
  cases q with
  | false =>
    have HN : Hid (lineT ⟨9, text, place, source, time, type, attrs, pattern, op, dest, broker, number, at_, wth⟩ = none) := lineT_no (fun hh => sameS_false HQ.out hh.1)
    go_wp2_with fail
    go_ret2
    exact LinePost.no HN.out (HK0.out.trans HK2.out)
  | true =>
    have HXB := Lib.hid (sameS_true HQ.out)
    obtain ⟨a0, a1, a2, a3, a4, a5, a6, a7, a8, a9, a10, a11, a12, a13⟩ := HB2.out.step
    have HIT : Hid (∀ W, Kept [] w W → Calls Tryd.prog 42 #[.int .i64 number] W fun e w' => e = .returned (.string (numT number)) ∧ Kept [] W w') := fun W hk => rnum_any number HA.out.sm.number W (HA.out.tab.keep hk)
    have hs1 := num_size HA.out.sm.number
    have HY : Hid (lineT ⟨9, text, place, source, time, type, attrs, pattern, op, dest, broker, number, at_, wth⟩ = some ({ data := #[100, 111, 117, 98, 108, 101] } ++ ({ data := #[32] } ++ numT number))) := by
      show _ = _
      rw [lineT_yes (by show (1 : Int) ≤ 9; decide) (by show (9 : Int) ≤ 12; decide) HXB.out rfl]
      exact congrArg some (tail1 _ _)
    go_wp2_with fail
    refine (HIT.out _ (HK0.out.trans HK2.out)).mono ?_
    rintro e w3 ⟨rfl, hk3⟩
    have HK3 := Lib.hid (HK2.out.trans hk3)
    clear hk3
    go_wp2_with fail
    go_ret2
    exact LinePost.yes HY.out (HK0.out.trans HK3.out)
set_option maxRecDepth 100000 in
set_option maxHeartbeats 8000000 in
theorem rline_10 (x : StepD) (pv av : Value) (w : World) (ha : RAsk w x pv av) (hk : x.kind = 10) : Calls Tryd.prog 21 #[.agg (stepC x pv av)] w (LinePost w (lineT x)) := by
  obtain ⟨PA, pc, rfl, _⟩ := ha.v.1
  obtain ⟨AA, ac, rfl, _⟩ := ha.v.2.form
  obtain ⟨kind, text, place, source, time, type, attrs, pattern, op, dest, broker, number, at_, wth⟩ := x
  dsimp only at hk ha
  subst hk
  have HA := Lib.hid ha
  obtain ⟨W0, hW0⟩ : ∃ W0, w.alloc (.cells #[.int .i64 10, .string text, .slice PA place.length pc, .int .i64 source, .int .i64 time, .string type, .slice AA attrs.length ac, .int .i64 pattern, .int .i64 op, .int .i64 dest, .int .i64 broker, .int .i64 number, .int .i64 at_, .int .u8 wth] 40) = W0 := ⟨_, rfl⟩
  have HK0 : Hid (Kept [] w W0) := by show Kept _ _ _; rw [← hW0]; exact (Kept.refl [] w).alloc _
  have HB0 : Hid (Blk W0 w.heap.size (stepC ⟨10, text, place, source, time, type, attrs, pattern, op, dest, broker, number, at_, wth⟩ (.slice PA place.length pc) (.slice AA attrs.length ac)) 40) := by show Blk _ _ _ _; rw [← hW0]; exact Blk.new w #[.int .i64 10, .string text, .slice PA place.length pc, .int .i64 source, .int .i64 time, .string type, .slice AA attrs.length ac, .int .i64 pattern, .int .i64 op, .int .i64 dest, .int .i64 broker, .int .i64 number, .int .i64 at_, .int .u8 wth] _
  have HWD : Hid (∀ W, Calls Tryd.prog 38 #[.int .i64 10] W fun e w' => e = .returned (.string { data := #[115, 112, 111, 105, 108] }) ∧ Kept [] W w') := fun W => rword_any 10 W
  have HBA : Hid (∀ W, Kept [] w W → Calls Tryd.prog 39 #[.agg #[.int .i64 10, .string text, .slice PA place.length pc, .int .i64 source, .int .i64 time, .string type, .slice AA attrs.length ac, .int .i64 pattern, .int .i64 op, .int .i64 dest, .int .i64 broker, .int .i64 number, .int .i64 at_, .int .u8 wth]] W fun e w' => e = .returned (.agg (stepC (bareS ⟨10, text, place, source, time, type, attrs, pattern, op, dest, broker, number, at_, wth⟩) (bareP 10 (.slice PA place.length pc)) (bareA 10 (.slice AA attrs.length ac)))) ∧ Kept [] W w') := fun W hk => (bare_10 _ _ _ W (HA.out.v.keep hk) rfl).mono fun e w' ⟨h1, _, h3⟩ => ⟨h1, h3⟩
  have HSM : Hid (∀ W, Kept [] w W → Calls Tryd.prog 15 #[.agg #[.int .i64 10, .string text, .slice PA place.length pc, .int .i64 source, .int .i64 time, .string type, .slice AA attrs.length ac, .int .i64 pattern, .int .i64 op, .int .i64 dest, .int .i64 broker, .int .i64 number, .int .i64 at_, .int .u8 wth], .agg (stepC (bareS ⟨10, text, place, source, time, type, attrs, pattern, op, dest, broker, number, at_, wth⟩) (bareP 10 (.slice PA place.length pc)) (bareA 10 (.slice AA attrs.length ac)))] W fun e w' => e = .returned (.bool (sameS ⟨10, text, place, source, time, type, attrs, pattern, op, dest, broker, number, at_, wth⟩ (bareS ⟨10, text, place, source, time, type, attrs, pattern, op, dest, broker, number, at_, wth⟩))) ∧ Kept [] W w') := fun W hk => rsame_step _ _ _ _ _ _ W (HA.out.v.keep hk) (by
    have hv := HA.out.v.keep hk
    unfold StepV bareP bareA bareS
    exact ⟨rdI_nil _, rdsA_nil _⟩)
  have HKS : Hid (∀ w1, Kept [] W0 w1 → ∀ s : SW (Kept [] w1), Kept [] w s.to) := fun w1 h s => (HK0.out.trans h).trans s.ok
  obtain ⟨q, hq⟩ : ∃ q, sameS ⟨10, text, place, source, time, type, attrs, pattern, op, dest, broker, number, at_, wth⟩ (bareS ⟨10, text, place, source, time, type, attrs, pattern, op, dest, broker, number, at_, wth⟩) = q := ⟨_, rfl⟩
  rw [hq] at HSM
  have HQ := Lib.hid hq
  have HW0 := Lib.hid hW0
  clear ha hq hW0
  dsimp only [stepC]
  go_enter Tryd.func21, Tryd.ntmps21
  go_upto_region 1 with fail
  rw [show w.alloc (.cells #[.int .i64 10, .string text, .slice PA place.length pc, .int .i64 source, .int .i64 time, .string type, .slice AA attrs.length ac, .int .i64 pattern, .int .i64 op, .int .i64 dest, .int .i64 broker, .int .i64 number, .int .i64 at_, .int .u8 wth] 40) = W0 from HW0.out]
  have z0 : W0.cell? ⟨w.heap.size, 0, none⟩ = some (.int .i64 10) := HB0.out.cell 0
  go_wp2_with fail
  refine (HWD.out _).mono ?_
  rintro e w1 ⟨rfl, hk1⟩
  have HK1 := Lib.hid hk1
  have HB1 := Lib.hid (HB0.out.kept hk1 (by simp))
  clear hk1 z0
  go_upto_region 2 with fail
  have a0 : ∀ s : SW (Kept [] w1), s.to.cell? ⟨w.heap.size, 0, none⟩ = some (.int .i64 10) := fun s => (HB1.out.kept s.ok (by simp)).cell 0
  have a1 : ∀ s : SW (Kept [] w1), s.to.cell? ⟨w.heap.size, 1, none⟩ = some (.string text) := fun s => (HB1.out.kept s.ok (by simp)).cell 1
  have a2 : ∀ s : SW (Kept [] w1), s.to.cell? ⟨w.heap.size, 2, none⟩ = some (.slice PA place.length pc) := fun s => (HB1.out.kept s.ok (by simp)).cell 2
  have a3 : ∀ s : SW (Kept [] w1), s.to.cell? ⟨w.heap.size, 3, none⟩ = some (.int .i64 source) := fun s => (HB1.out.kept s.ok (by simp)).cell 3
  have a4 : ∀ s : SW (Kept [] w1), s.to.cell? ⟨w.heap.size, 4, none⟩ = some (.int .i64 time) := fun s => (HB1.out.kept s.ok (by simp)).cell 4
  have a5 : ∀ s : SW (Kept [] w1), s.to.cell? ⟨w.heap.size, 5, none⟩ = some (.string type) := fun s => (HB1.out.kept s.ok (by simp)).cell 5
  have a6 : ∀ s : SW (Kept [] w1), s.to.cell? ⟨w.heap.size, 6, none⟩ = some (.slice AA attrs.length ac) := fun s => (HB1.out.kept s.ok (by simp)).cell 6
  have a7 : ∀ s : SW (Kept [] w1), s.to.cell? ⟨w.heap.size, 7, none⟩ = some (.int .i64 pattern) := fun s => (HB1.out.kept s.ok (by simp)).cell 7
  have a8 : ∀ s : SW (Kept [] w1), s.to.cell? ⟨w.heap.size, 8, none⟩ = some (.int .i64 op) := fun s => (HB1.out.kept s.ok (by simp)).cell 8
  have a9 : ∀ s : SW (Kept [] w1), s.to.cell? ⟨w.heap.size, 9, none⟩ = some (.int .i64 dest) := fun s => (HB1.out.kept s.ok (by simp)).cell 9
  have a10 : ∀ s : SW (Kept [] w1), s.to.cell? ⟨w.heap.size, 10, none⟩ = some (.int .i64 broker) := fun s => (HB1.out.kept s.ok (by simp)).cell 10
  have a11 : ∀ s : SW (Kept [] w1), s.to.cell? ⟨w.heap.size, 11, none⟩ = some (.int .i64 number) := fun s => (HB1.out.kept s.ok (by simp)).cell 11
  have a12 : ∀ s : SW (Kept [] w1), s.to.cell? ⟨w.heap.size, 12, none⟩ = some (.int .i64 at_) := fun s => (HB1.out.kept s.ok (by simp)).cell 12
  have a13 : ∀ s : SW (Kept [] w1), s.to.cell? ⟨w.heap.size, 13, none⟩ = some (.int .u8 wth) := fun s => (HB1.out.kept s.ok (by simp)).cell 13
  refine wp_region_sw (Kept [] w1) (stays_kept w1) (Kept.refl _ _) (by kernel_rfl) (by kernel_rfl) (fun hne => ?_)
  repeat (go_big_quiet_step (first
    | (go_at_call 39; exact SW.calls (stays_kept w1) (HBA.out _ (HKS.out _ HK1.out _)))
    | (go_at_call 15; exact SW.calls (stays_kept w1) (HSM.out _ (HKS.out _ HK1.out _)))))
  refine wpQuiet_nil ?_
  intro w2 hs2
  have HK2 := Lib.hid (HK1.out.trans hs2)
  have HB2 := Lib.hid (HB1.out.kept hs2 (by simp))
  clear hs2 a0 a1 a2 a3 a4 a5 a6 a7 a8 a9 a10 a11 a12 a13
  cases q with
  | false =>
    have HN : Hid (lineT ⟨10, text, place, source, time, type, attrs, pattern, op, dest, broker, number, at_, wth⟩ = none) := lineT_no (fun hh => sameS_false HQ.out hh.1)
    go_wp2_with fail
    go_ret2
    exact LinePost.no HN.out (HK0.out.trans HK2.out)
  | true =>
    have HXB := Lib.hid (sameS_true HQ.out)
    have hwr : IntKind.i64.wrap wth = wth := by have := HA.out.sm.wth; dsimp only at this; unfold IntKind.wrap; simp [IntKind.signed, IntKind.bits]; omega
    obtain ⟨a0, a1, a2, a3, a4, a5, a6, a7, a8, a9, a10, a11, a12, a13⟩ := HB2.out.step
    have HI0 : Hid (∀ W, Kept [] w W → Calls Tryd.prog 42 #[.int .i64 number] W fun e w' => e = .returned (.string (numT number)) ∧ Kept [] W w') := fun W hk => rnum_any number HA.out.sm.number W (HA.out.tab.keep hk)
    have hs0 : (numT number).size ≤ 300 := num_size HA.out.sm.number
    have HI1 : Hid (∀ W, Kept [] w W → Calls Tryd.prog 25 #[.int .i64 at_] W fun e w' => e = .returned (.string (numT at_)) ∧ Kept [] W w') := fun W hk => ritoa_any at_ HA.out.sm.at_ W (HA.out.tab.keep hk)
    have hs1 : (numT at_).size ≤ 300 := num_size HA.out.sm.at_
    have HI2 : Hid (∀ W, Kept [] w W → Calls Tryd.prog 25 #[.int .i64 wth] W fun e w' => e = .returned (.string (numT wth)) ∧ Kept [] W w') := fun W hk => ritoa_any wth ⟨by have := HA.out.sm.wth; dsimp only at this; omega, by have := HA.out.sm.wth; dsimp only at this; omega⟩ W (HA.out.tab.keep hk)
    have hs2 : (numT wth).size ≤ 300 := num_size ⟨by have := HA.out.sm.wth; dsimp only at this; omega, by have := HA.out.sm.wth; dsimp only at this; omega⟩
    have HY : Hid (lineT ⟨10, text, place, source, time, type, attrs, pattern, op, dest, broker, number, at_, wth⟩ = some ({ data := #[115, 112, 111, 105, 108] } ++ ((((({ data := #[32] } ++ numT number) ++ { data := #[32] }) ++ numT at_) ++ { data := #[32] }) ++ numT wth))) := by
      show _ = _
      rw [lineT_yes (by show (1 : Int) ≤ 10; decide) (by show (10 : Int) ≤ 12; decide) HXB.out rfl]
      exact congrArg some (tail3 _ _ _ _)
    have b11 : ∀ s : SW (Kept [] w2), s.to.cell? ⟨w.heap.size, 11, none⟩ = some (.int .i64 number) := fun s => (HB2.out.kept s.ok (by simp)).cell 11
    have b12 : ∀ s : SW (Kept [] w2), s.to.cell? ⟨w.heap.size, 12, none⟩ = some (.int .i64 at_) := fun s => (HB2.out.kept s.ok (by simp)).cell 12
    have b13 : ∀ s : SW (Kept [] w2), s.to.cell? ⟨w.heap.size, 13, none⟩ = some (.int .u8 wth) := fun s => (HB2.out.kept s.ok (by simp)).cell 13
    have HKS2 : Hid (∀ s : SW (Kept [] w2), Kept [] w s.to) := fun s => (HK0.out.trans HK2.out).trans s.ok
    go_upto_region 25 with fail
    refine wp_region_sw (Kept [] w2) (stays_kept w2) (Kept.refl _ _) (by kernel_rfl) (by kernel_rfl) (fun hne => ?_)
    repeat (go_big_quiet_step (first
      | (go_at_call_of 42 (Value.int .i64 number); exact SW.calls (stays_kept w2) (HI0.out _ (HKS2.out _)))
      | (go_at_call_of 25 (Value.int .i64 at_); exact SW.calls (stays_kept w2) (HI1.out _ (HKS2.out _)))
      | (go_at_call_of 25 (Value.int .i64 wth); exact SW.calls (stays_kept w2) (HI2.out _ (HKS2.out _)))))
    refine wpQuiet_nil ?_
    intro w3 hs3
    have HK3 := Lib.hid (HK2.out.trans hs3)
    clear hs3
    go_wp2_with fail
    go_ret2
    exact LinePost.yes HY.out (HK0.out.trans HK3.out)
set_option maxRecDepth 100000 in
set_option maxHeartbeats 8000000 in
theorem rline_11 (x : StepD) (pv av : Value) (w : World) (ha : RAsk w x pv av) (hk : x.kind = 11) : Calls Tryd.prog 21 #[.agg (stepC x pv av)] w (LinePost w (lineT x)) := by
  obtain ⟨PA, pc, rfl, _⟩ := ha.v.1
  obtain ⟨AA, ac, rfl, _⟩ := ha.v.2.form
  obtain ⟨kind, text, place, source, time, type, attrs, pattern, op, dest, broker, number, at_, wth⟩ := x
  dsimp only at hk ha
  subst hk
  have HA := Lib.hid ha
  obtain ⟨W0, hW0⟩ : ∃ W0, w.alloc (.cells #[.int .i64 11, .string text, .slice PA place.length pc, .int .i64 source, .int .i64 time, .string type, .slice AA attrs.length ac, .int .i64 pattern, .int .i64 op, .int .i64 dest, .int .i64 broker, .int .i64 number, .int .i64 at_, .int .u8 wth] 40) = W0 := ⟨_, rfl⟩
  have HK0 : Hid (Kept [] w W0) := by show Kept _ _ _; rw [← hW0]; exact (Kept.refl [] w).alloc _
  have HB0 : Hid (Blk W0 w.heap.size (stepC ⟨11, text, place, source, time, type, attrs, pattern, op, dest, broker, number, at_, wth⟩ (.slice PA place.length pc) (.slice AA attrs.length ac)) 40) := by show Blk _ _ _ _; rw [← hW0]; exact Blk.new w #[.int .i64 11, .string text, .slice PA place.length pc, .int .i64 source, .int .i64 time, .string type, .slice AA attrs.length ac, .int .i64 pattern, .int .i64 op, .int .i64 dest, .int .i64 broker, .int .i64 number, .int .i64 at_, .int .u8 wth] _
  have HWD : Hid (∀ W, Calls Tryd.prog 38 #[.int .i64 11] W fun e w' => e = .returned (.string { data := #[97, 114, 114, 105, 118, 101] }) ∧ Kept [] W w') := fun W => rword_any 11 W
  have HBA : Hid (∀ W, Kept [] w W → Calls Tryd.prog 39 #[.agg #[.int .i64 11, .string text, .slice PA place.length pc, .int .i64 source, .int .i64 time, .string type, .slice AA attrs.length ac, .int .i64 pattern, .int .i64 op, .int .i64 dest, .int .i64 broker, .int .i64 number, .int .i64 at_, .int .u8 wth]] W fun e w' => e = .returned (.agg (stepC (bareS ⟨11, text, place, source, time, type, attrs, pattern, op, dest, broker, number, at_, wth⟩) (bareP 11 (.slice PA place.length pc)) (bareA 11 (.slice AA attrs.length ac)))) ∧ Kept [] W w') := fun W hk => (bare_11 _ _ _ W (HA.out.v.keep hk) rfl).mono fun e w' ⟨h1, _, h3⟩ => ⟨h1, h3⟩
  have HSM : Hid (∀ W, Kept [] w W → Calls Tryd.prog 15 #[.agg #[.int .i64 11, .string text, .slice PA place.length pc, .int .i64 source, .int .i64 time, .string type, .slice AA attrs.length ac, .int .i64 pattern, .int .i64 op, .int .i64 dest, .int .i64 broker, .int .i64 number, .int .i64 at_, .int .u8 wth], .agg (stepC (bareS ⟨11, text, place, source, time, type, attrs, pattern, op, dest, broker, number, at_, wth⟩) (bareP 11 (.slice PA place.length pc)) (bareA 11 (.slice AA attrs.length ac)))] W fun e w' => e = .returned (.bool (sameS ⟨11, text, place, source, time, type, attrs, pattern, op, dest, broker, number, at_, wth⟩ (bareS ⟨11, text, place, source, time, type, attrs, pattern, op, dest, broker, number, at_, wth⟩))) ∧ Kept [] W w') := fun W hk => rsame_step _ _ _ _ _ _ W (HA.out.v.keep hk) (by
    have hv := HA.out.v.keep hk
    unfold StepV bareP bareA bareS
    exact ⟨rdI_nil _, rdsA_nil _⟩)
  have HKS : Hid (∀ w1, Kept [] W0 w1 → ∀ s : SW (Kept [] w1), Kept [] w s.to) := fun w1 h s => (HK0.out.trans h).trans s.ok
  obtain ⟨q, hq⟩ : ∃ q, sameS ⟨11, text, place, source, time, type, attrs, pattern, op, dest, broker, number, at_, wth⟩ (bareS ⟨11, text, place, source, time, type, attrs, pattern, op, dest, broker, number, at_, wth⟩) = q := ⟨_, rfl⟩
  rw [hq] at HSM
  have HQ := Lib.hid hq
  have HW0 := Lib.hid hW0
  clear ha hq hW0
  dsimp only [stepC]
  go_enter Tryd.func21, Tryd.ntmps21
  go_upto_region 1 with fail
  rw [show w.alloc (.cells #[.int .i64 11, .string text, .slice PA place.length pc, .int .i64 source, .int .i64 time, .string type, .slice AA attrs.length ac, .int .i64 pattern, .int .i64 op, .int .i64 dest, .int .i64 broker, .int .i64 number, .int .i64 at_, .int .u8 wth] 40) = W0 from HW0.out]
  have z0 : W0.cell? ⟨w.heap.size, 0, none⟩ = some (.int .i64 11) := HB0.out.cell 0
  go_wp2_with fail
  refine (HWD.out _).mono ?_
  rintro e w1 ⟨rfl, hk1⟩
  have HK1 := Lib.hid hk1
  have HB1 := Lib.hid (HB0.out.kept hk1 (by simp))
  clear hk1 z0
  go_upto_region 2 with fail
  have a0 : ∀ s : SW (Kept [] w1), s.to.cell? ⟨w.heap.size, 0, none⟩ = some (.int .i64 11) := fun s => (HB1.out.kept s.ok (by simp)).cell 0
  have a1 : ∀ s : SW (Kept [] w1), s.to.cell? ⟨w.heap.size, 1, none⟩ = some (.string text) := fun s => (HB1.out.kept s.ok (by simp)).cell 1
  have a2 : ∀ s : SW (Kept [] w1), s.to.cell? ⟨w.heap.size, 2, none⟩ = some (.slice PA place.length pc) := fun s => (HB1.out.kept s.ok (by simp)).cell 2
  have a3 : ∀ s : SW (Kept [] w1), s.to.cell? ⟨w.heap.size, 3, none⟩ = some (.int .i64 source) := fun s => (HB1.out.kept s.ok (by simp)).cell 3
  have a4 : ∀ s : SW (Kept [] w1), s.to.cell? ⟨w.heap.size, 4, none⟩ = some (.int .i64 time) := fun s => (HB1.out.kept s.ok (by simp)).cell 4
  have a5 : ∀ s : SW (Kept [] w1), s.to.cell? ⟨w.heap.size, 5, none⟩ = some (.string type) := fun s => (HB1.out.kept s.ok (by simp)).cell 5
  have a6 : ∀ s : SW (Kept [] w1), s.to.cell? ⟨w.heap.size, 6, none⟩ = some (.slice AA attrs.length ac) := fun s => (HB1.out.kept s.ok (by simp)).cell 6
  have a7 : ∀ s : SW (Kept [] w1), s.to.cell? ⟨w.heap.size, 7, none⟩ = some (.int .i64 pattern) := fun s => (HB1.out.kept s.ok (by simp)).cell 7
  have a8 : ∀ s : SW (Kept [] w1), s.to.cell? ⟨w.heap.size, 8, none⟩ = some (.int .i64 op) := fun s => (HB1.out.kept s.ok (by simp)).cell 8
  have a9 : ∀ s : SW (Kept [] w1), s.to.cell? ⟨w.heap.size, 9, none⟩ = some (.int .i64 dest) := fun s => (HB1.out.kept s.ok (by simp)).cell 9
  have a10 : ∀ s : SW (Kept [] w1), s.to.cell? ⟨w.heap.size, 10, none⟩ = some (.int .i64 broker) := fun s => (HB1.out.kept s.ok (by simp)).cell 10
  have a11 : ∀ s : SW (Kept [] w1), s.to.cell? ⟨w.heap.size, 11, none⟩ = some (.int .i64 number) := fun s => (HB1.out.kept s.ok (by simp)).cell 11
  have a12 : ∀ s : SW (Kept [] w1), s.to.cell? ⟨w.heap.size, 12, none⟩ = some (.int .i64 at_) := fun s => (HB1.out.kept s.ok (by simp)).cell 12
  have a13 : ∀ s : SW (Kept [] w1), s.to.cell? ⟨w.heap.size, 13, none⟩ = some (.int .u8 wth) := fun s => (HB1.out.kept s.ok (by simp)).cell 13
  refine wp_region_sw (Kept [] w1) (stays_kept w1) (Kept.refl _ _) (by kernel_rfl) (by kernel_rfl) (fun hne => ?_)
  repeat (go_big_quiet_step (first
    | (go_at_call 39; exact SW.calls (stays_kept w1) (HBA.out _ (HKS.out _ HK1.out _)))
    | (go_at_call 15; exact SW.calls (stays_kept w1) (HSM.out _ (HKS.out _ HK1.out _)))))
  refine wpQuiet_nil ?_
  intro w2 hs2
  have HK2 := Lib.hid (HK1.out.trans hs2)
  have HB2 := Lib.hid (HB1.out.kept hs2 (by simp))
  clear hs2 a0 a1 a2 a3 a4 a5 a6 a7 a8 a9 a10 a11 a12 a13
  cases q with
  | false =>
    have HN : Hid (lineT ⟨11, text, place, source, time, type, attrs, pattern, op, dest, broker, number, at_, wth⟩ = none) := lineT_no (fun hh => sameS_false HQ.out hh.1)
    go_wp2_with fail
    go_ret2
    exact LinePost.no HN.out (HK0.out.trans HK2.out)
  | true =>
    have HXB := Lib.hid (sameS_true HQ.out)
    obtain ⟨a0, a1, a2, a3, a4, a5, a6, a7, a8, a9, a10, a11, a12, a13⟩ := HB2.out.step
    have HY : Hid (lineT ⟨11, text, place, source, time, type, attrs, pattern, op, dest, broker, number, at_, wth⟩ = some ({ data := #[97, 114, 114, 105, 118, 101] })) := by
      show _ = _
      rw [lineT_yes (by show (1 : Int) ≤ 11; decide) (by show (11 : Int) ≤ 12; decide) HXB.out rfl]
      exact congrArg some (tail0 _)
    go_wp2_with fail
    go_ret2
    exact LinePost.yes HY.out (HK0.out.trans HK2.out)
set_option maxRecDepth 100000 in
set_option maxHeartbeats 8000000 in
theorem rline_12 (x : StepD) (pv av : Value) (w : World) (ha : RAsk w x pv av) (hk : x.kind = 12) : Calls Tryd.prog 21 #[.agg (stepC x pv av)] w (LinePost w (lineT x)) := by
  obtain ⟨PA, pc, rfl, _⟩ := ha.v.1
  obtain ⟨AA, ac, rfl, _⟩ := ha.v.2.form
  obtain ⟨kind, text, place, source, time, type, attrs, pattern, op, dest, broker, number, at_, wth⟩ := x
  dsimp only at hk ha
  subst hk
  have HA := Lib.hid ha
  obtain ⟨W0, hW0⟩ : ∃ W0, w.alloc (.cells #[.int .i64 12, .string text, .slice PA place.length pc, .int .i64 source, .int .i64 time, .string type, .slice AA attrs.length ac, .int .i64 pattern, .int .i64 op, .int .i64 dest, .int .i64 broker, .int .i64 number, .int .i64 at_, .int .u8 wth] 40) = W0 := ⟨_, rfl⟩
  have HK0 : Hid (Kept [] w W0) := by show Kept _ _ _; rw [← hW0]; exact (Kept.refl [] w).alloc _
  have HB0 : Hid (Blk W0 w.heap.size (stepC ⟨12, text, place, source, time, type, attrs, pattern, op, dest, broker, number, at_, wth⟩ (.slice PA place.length pc) (.slice AA attrs.length ac)) 40) := by show Blk _ _ _ _; rw [← hW0]; exact Blk.new w #[.int .i64 12, .string text, .slice PA place.length pc, .int .i64 source, .int .i64 time, .string type, .slice AA attrs.length ac, .int .i64 pattern, .int .i64 op, .int .i64 dest, .int .i64 broker, .int .i64 number, .int .i64 at_, .int .u8 wth] _
  have HWD : Hid (∀ W, Calls Tryd.prog 38 #[.int .i64 12] W fun e w' => e = .returned (.string { data := #[99, 97, 108, 109] }) ∧ Kept [] W w') := fun W => rword_any 12 W
  have HBA : Hid (∀ W, Kept [] w W → Calls Tryd.prog 39 #[.agg #[.int .i64 12, .string text, .slice PA place.length pc, .int .i64 source, .int .i64 time, .string type, .slice AA attrs.length ac, .int .i64 pattern, .int .i64 op, .int .i64 dest, .int .i64 broker, .int .i64 number, .int .i64 at_, .int .u8 wth]] W fun e w' => e = .returned (.agg (stepC (bareS ⟨12, text, place, source, time, type, attrs, pattern, op, dest, broker, number, at_, wth⟩) (bareP 12 (.slice PA place.length pc)) (bareA 12 (.slice AA attrs.length ac)))) ∧ Kept [] W w') := fun W hk => (bare_12 _ _ _ W (HA.out.v.keep hk) rfl).mono fun e w' ⟨h1, _, h3⟩ => ⟨h1, h3⟩
  have HSM : Hid (∀ W, Kept [] w W → Calls Tryd.prog 15 #[.agg #[.int .i64 12, .string text, .slice PA place.length pc, .int .i64 source, .int .i64 time, .string type, .slice AA attrs.length ac, .int .i64 pattern, .int .i64 op, .int .i64 dest, .int .i64 broker, .int .i64 number, .int .i64 at_, .int .u8 wth], .agg (stepC (bareS ⟨12, text, place, source, time, type, attrs, pattern, op, dest, broker, number, at_, wth⟩) (bareP 12 (.slice PA place.length pc)) (bareA 12 (.slice AA attrs.length ac)))] W fun e w' => e = .returned (.bool (sameS ⟨12, text, place, source, time, type, attrs, pattern, op, dest, broker, number, at_, wth⟩ (bareS ⟨12, text, place, source, time, type, attrs, pattern, op, dest, broker, number, at_, wth⟩))) ∧ Kept [] W w') := fun W hk => rsame_step _ _ _ _ _ _ W (HA.out.v.keep hk) (by
    have hv := HA.out.v.keep hk
    unfold StepV bareP bareA bareS
    exact ⟨rdI_nil _, rdsA_nil _⟩)
  have HKS : Hid (∀ w1, Kept [] W0 w1 → ∀ s : SW (Kept [] w1), Kept [] w s.to) := fun w1 h s => (HK0.out.trans h).trans s.ok
  obtain ⟨q, hq⟩ : ∃ q, sameS ⟨12, text, place, source, time, type, attrs, pattern, op, dest, broker, number, at_, wth⟩ (bareS ⟨12, text, place, source, time, type, attrs, pattern, op, dest, broker, number, at_, wth⟩) = q := ⟨_, rfl⟩
  rw [hq] at HSM
  have HQ := Lib.hid hq
  have HW0 := Lib.hid hW0
  clear ha hq hW0
  dsimp only [stepC]
  go_enter Tryd.func21, Tryd.ntmps21
  go_upto_region 1 with fail
  rw [show w.alloc (.cells #[.int .i64 12, .string text, .slice PA place.length pc, .int .i64 source, .int .i64 time, .string type, .slice AA attrs.length ac, .int .i64 pattern, .int .i64 op, .int .i64 dest, .int .i64 broker, .int .i64 number, .int .i64 at_, .int .u8 wth] 40) = W0 from HW0.out]
  have z0 : W0.cell? ⟨w.heap.size, 0, none⟩ = some (.int .i64 12) := HB0.out.cell 0
  go_wp2_with fail
  refine (HWD.out _).mono ?_
  rintro e w1 ⟨rfl, hk1⟩
  have HK1 := Lib.hid hk1
  have HB1 := Lib.hid (HB0.out.kept hk1 (by simp))
  clear hk1 z0
  go_upto_region 2 with fail
  have a0 : ∀ s : SW (Kept [] w1), s.to.cell? ⟨w.heap.size, 0, none⟩ = some (.int .i64 12) := fun s => (HB1.out.kept s.ok (by simp)).cell 0
  have a1 : ∀ s : SW (Kept [] w1), s.to.cell? ⟨w.heap.size, 1, none⟩ = some (.string text) := fun s => (HB1.out.kept s.ok (by simp)).cell 1
  have a2 : ∀ s : SW (Kept [] w1), s.to.cell? ⟨w.heap.size, 2, none⟩ = some (.slice PA place.length pc) := fun s => (HB1.out.kept s.ok (by simp)).cell 2
  have a3 : ∀ s : SW (Kept [] w1), s.to.cell? ⟨w.heap.size, 3, none⟩ = some (.int .i64 source) := fun s => (HB1.out.kept s.ok (by simp)).cell 3
  have a4 : ∀ s : SW (Kept [] w1), s.to.cell? ⟨w.heap.size, 4, none⟩ = some (.int .i64 time) := fun s => (HB1.out.kept s.ok (by simp)).cell 4
  have a5 : ∀ s : SW (Kept [] w1), s.to.cell? ⟨w.heap.size, 5, none⟩ = some (.string type) := fun s => (HB1.out.kept s.ok (by simp)).cell 5
  have a6 : ∀ s : SW (Kept [] w1), s.to.cell? ⟨w.heap.size, 6, none⟩ = some (.slice AA attrs.length ac) := fun s => (HB1.out.kept s.ok (by simp)).cell 6
  have a7 : ∀ s : SW (Kept [] w1), s.to.cell? ⟨w.heap.size, 7, none⟩ = some (.int .i64 pattern) := fun s => (HB1.out.kept s.ok (by simp)).cell 7
  have a8 : ∀ s : SW (Kept [] w1), s.to.cell? ⟨w.heap.size, 8, none⟩ = some (.int .i64 op) := fun s => (HB1.out.kept s.ok (by simp)).cell 8
  have a9 : ∀ s : SW (Kept [] w1), s.to.cell? ⟨w.heap.size, 9, none⟩ = some (.int .i64 dest) := fun s => (HB1.out.kept s.ok (by simp)).cell 9
  have a10 : ∀ s : SW (Kept [] w1), s.to.cell? ⟨w.heap.size, 10, none⟩ = some (.int .i64 broker) := fun s => (HB1.out.kept s.ok (by simp)).cell 10
  have a11 : ∀ s : SW (Kept [] w1), s.to.cell? ⟨w.heap.size, 11, none⟩ = some (.int .i64 number) := fun s => (HB1.out.kept s.ok (by simp)).cell 11
  have a12 : ∀ s : SW (Kept [] w1), s.to.cell? ⟨w.heap.size, 12, none⟩ = some (.int .i64 at_) := fun s => (HB1.out.kept s.ok (by simp)).cell 12
  have a13 : ∀ s : SW (Kept [] w1), s.to.cell? ⟨w.heap.size, 13, none⟩ = some (.int .u8 wth) := fun s => (HB1.out.kept s.ok (by simp)).cell 13
  refine wp_region_sw (Kept [] w1) (stays_kept w1) (Kept.refl _ _) (by kernel_rfl) (by kernel_rfl) (fun hne => ?_)
  repeat (go_big_quiet_step (first
    | (go_at_call 39; exact SW.calls (stays_kept w1) (HBA.out _ (HKS.out _ HK1.out _)))
    | (go_at_call 15; exact SW.calls (stays_kept w1) (HSM.out _ (HKS.out _ HK1.out _)))))
  refine wpQuiet_nil ?_
  intro w2 hs2
  have HK2 := Lib.hid (HK1.out.trans hs2)
  have HB2 := Lib.hid (HB1.out.kept hs2 (by simp))
  clear hs2 a0 a1 a2 a3 a4 a5 a6 a7 a8 a9 a10 a11 a12 a13
  cases q with
  | false =>
    have HN : Hid (lineT ⟨12, text, place, source, time, type, attrs, pattern, op, dest, broker, number, at_, wth⟩ = none) := lineT_no (fun hh => sameS_false HQ.out hh.1)
    go_wp2_with fail
    go_ret2
    exact LinePost.no HN.out (HK0.out.trans HK2.out)
  | true =>
    have HXB := Lib.hid (sameS_true HQ.out)
    obtain ⟨a0, a1, a2, a3, a4, a5, a6, a7, a8, a9, a10, a11, a12, a13⟩ := HB2.out.step
    have HY : Hid (lineT ⟨12, text, place, source, time, type, attrs, pattern, op, dest, broker, number, at_, wth⟩ = some ({ data := #[99, 97, 108, 109] })) := by
      show _ = _
      rw [lineT_yes (by show (1 : Int) ≤ 12; decide) (by show (12 : Int) ≤ 12; decide) HXB.out rfl]
      exact congrArg some (tail0 _)
    go_wp2_with fail
    go_ret2
    exact LinePost.yes HY.out (HK0.out.trans HK2.out)
theorem rline_any (x : StepD) (pv av : Value) (w : World) (ha : RAsk w x pv av) : Calls Tryd.prog 21 #[.agg (stepC x pv av)] w (LinePost w (lineT x)) := by
  by_cases hk : 1 ≤ x.kind ∧ x.kind ≤ 12
  · rcases kinds hk.1 hk.2 with h | h | h | h | h | h | h | h | h | h | h | h
    · exact rline_1 x pv av w ha h
    · exact rline_2 x pv av w ha h
    · exact rline_3 x pv av w ha h
    · exact rline_4 x pv av w ha h
    · exact rline_5 x pv av w ha h
    · exact rline_6 x pv av w ha h
    · exact rline_7 x pv av w ha h
    · exact rline_8 x pv av w ha h
    · exact rline_9 x pv av w ha h
    · exact rline_10 x pv av w ha h
    · exact rline_11 x pv av w ha h
    · exact rline_12 x pv av w ha h
  · exact rline_out x pv av w ha hk

end Go.Proofs.YthgenobbpaclhaaDoor

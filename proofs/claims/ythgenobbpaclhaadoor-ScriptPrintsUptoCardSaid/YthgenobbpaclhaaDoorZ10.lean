/- Scripts, the document's: whether two steps are the same (printed by gen_z10.py). -/
import Derived.Test.YthgenobbpaclhaaDoorZ6
set_option linter.unusedVariables false
set_option linter.unusedSimpArgs false
set_option linter.unnecessarySimpa false
namespace Go.Proofs.YthgenobbpaclhaaDoor
open Go.RowKit Go.Shelf
attribute [local go_sem] Oper.semAt_some

set_option maxRecDepth 100000 in
set_option maxHeartbeats 32000000 in
theorem rsame_step (x y : StepD) (pv av qv bv : Value) (w : World) (hx : StepV w x pv av) (hy : StepV w y qv bv) : Calls Tryd.prog 15 #[.agg (stepC x pv av), .agg (stepC y qv bv)] w fun e w' => e = .returned (.bool (sameS x y)) ∧ Kept [] w w' := by
  obtain ⟨PA, pc, rfl, hpm, _⟩ := hx.1
  obtain ⟨AA, ac, rfl, _⟩ := hx.2.form
  obtain ⟨PA', pc', rfl, hpm', _⟩ := hy.1
  obtain ⟨AA', ac', rfl, _⟩ := hy.2.form
  have HX := Lib.hid hx
  have HY := Lib.hid hy
  clear hx hy
  obtain ⟨kind, text, place, source, time, type, attrs, pattern, op, dest, broker, number, at_, wth⟩ := x
  obtain ⟨kind', text', place', source', time', type', attrs', pattern', op', dest', broker', number', at_', wth'⟩ := y
  dsimp only [stepC] at HX HY hpm hpm' ⊢
  have EQA : Hid (∀ W, Kept [] w W → Calls Tryd.prog 30 #[.slice AA attrs.length ac, .slice AA' attrs'.length ac'] W fun e w' => e = .returned (.bool (sameGo attrs attrs')) ∧ Kept [] W w') := fun W hk => rsame_any _ _ _ _ W (HX.out.2.keep hk) (HY.out.2.keep hk)
  have HK0 := Lib.hid (((Kept.refl [] w).alloc (.cells #[.int .i64 kind, .string text, .slice PA place.length pc, .int .i64 source, .int .i64 time, .string type, .slice AA attrs.length ac, .int .i64 pattern, .int .i64 op, .int .i64 dest, .int .i64 broker, .int .i64 number, .int .i64 at_, .int .u8 wth] 40)).alloc (.cells #[.int .i64 kind', .string text', .slice PA' place'.length pc', .int .i64 source', .int .i64 time', .string type', .slice AA' attrs'.length ac', .int .i64 pattern', .int .i64 op', .int .i64 dest', .int .i64 broker', .int .i64 number', .int .i64 at_', .int .u8 wth'] 40))
  have HBX := Lib.hid ((Blk.new w #[.int .i64 kind, .string text, .slice PA place.length pc, .int .i64 source, .int .i64 time, .string type, .slice AA attrs.length ac, .int .i64 pattern, .int .i64 op, .int .i64 dest, .int .i64 broker, .int .i64 number, .int .i64 at_, .int .u8 wth] 40).alloc (.cells #[.int .i64 kind', .string text', .slice PA' place'.length pc', .int .i64 source', .int .i64 time', .string type', .slice AA' attrs'.length ac', .int .i64 pattern', .int .i64 op', .int .i64 dest', .int .i64 broker', .int .i64 number', .int .i64 at_', .int .u8 wth'] 40))
  have HBY : Hid (Blk ((w.alloc (.cells #[.int .i64 kind, .string text, .slice PA place.length pc, .int .i64 source, .int .i64 time, .string type, .slice AA attrs.length ac, .int .i64 pattern, .int .i64 op, .int .i64 dest, .int .i64 broker, .int .i64 number, .int .i64 at_, .int .u8 wth] 40)).alloc (.cells #[.int .i64 kind', .string text', .slice PA' place'.length pc', .int .i64 source', .int .i64 time', .string type', .slice AA' attrs'.length ac', .int .i64 pattern', .int .i64 op', .int .i64 dest', .int .i64 broker', .int .i64 number', .int .i64 at_', .int .u8 wth'] 40)) (w.heap.size + 1) #[.int .i64 kind', .string text', .slice PA' place'.length pc', .int .i64 source', .int .i64 time', .string type', .slice AA' attrs'.length ac', .int .i64 pattern', .int .i64 op', .int .i64 dest', .int .i64 broker', .int .i64 number', .int .i64 at_', .int .u8 wth'] 40) := by
    have := Blk.new (w.alloc (.cells #[.int .i64 kind, .string text, .slice PA place.length pc, .int .i64 source, .int .i64 time, .string type, .slice AA attrs.length ac, .int .i64 pattern, .int .i64 op, .int .i64 dest, .int .i64 broker, .int .i64 number, .int .i64 at_, .int .u8 wth] 40)) #[.int .i64 kind', .string text', .slice PA' place'.length pc', .int .i64 source', .int .i64 time', .string type', .slice AA' attrs'.length ac', .int .i64 pattern', .int .i64 op', .int .i64 dest', .int .i64 broker', .int .i64 number', .int .i64 at_', .int .u8 wth'] 40
    rw [show (w.alloc (.cells #[.int .i64 kind, .string text, .slice PA place.length pc, .int .i64 source, .int .i64 time, .string type, .slice AA attrs.length ac, .int .i64 pattern, .int .i64 op, .int .i64 dest, .int .i64 broker, .int .i64 number, .int .i64 at_, .int .u8 wth] 40)).heap.size = w.heap.size + 1 from by simp] at this
    exact this
  obtain ⟨G, hG⟩ : ∃ G, sameS ⟨kind, text, place, source, time, type, attrs, pattern, op, dest, broker, number, at_, wth⟩ ⟨kind', text', place', source', time', type', attrs', pattern', op', dest', broker', number', at_', wth'⟩ = G := ⟨_, rfl⟩
  rw [hG]
  have HG := Lib.hid hG
  clear hG
  have hm1 : place.length ≤ 9223372036854775807 := by unfold maxLen at hpm; omega
  have hm2 : place'.length ≤ 9223372036854775807 := by unfold maxLen at hpm'; omega
  clear hpm hpm'
  by_cases hpl : place.length = place'.length
  rotate_left
  · have b : ((place.length : Int) != (place'.length : Int)) = true := by simp; omega
    have HE : Hid (G = false) := HG.out.symm.trans (sameS_ne (by intro e; simp only [StepD.mk.injEq] at e; exact hpl (by rw [e.2.2.1])))
    clear hpl
    go_enter Tryd.func15, Tryd.ntmps15
    go_wp2_with fail
    go_ret
    exact ⟨ret_bool HE.out.symm, HK0.out⟩
  have b : ((place.length : Int) != (place'.length : Int)) = false := by simp; omega
  have HPL := Lib.hid hpl
  clear hpl
  go_enter Tryd.func15, Tryd.ntmps15
  go_wp2_with fail
  refine (EQA.out _ HK0.out).mono ?_
  rintro e w1 ⟨rfl, hk⟩
  have HK1 := Lib.hid (HK0.out.trans hk)
  have HBX1 := Lib.hid (HBX.out.kept hk (by simp))
  have HBY1 := Lib.hid (HBY.out.kept hk (by simp))
  clear hk
  by_cases h : attrs = attrs'
  rotate_left
  · rw [sameGo_ne h]
    have HE : Hid (G = false) := HG.out.symm.trans (sameS_ne (by intro e; simp only [StepD.mk.injEq] at e; exact h e.2.2.2.2.2.2.1))
    clear h
    go_wp2_with fail
    go_ret
    exact ⟨ret_bool HE.out.symm, HK1.out⟩
  have HAT := Lib.hid h
  rw [(sameGo_iff attrs attrs').2 h]
  clear h
  obtain ⟨n, hn⟩ : ∃ n, place.length = n := ⟨_, rfl⟩
  have HN := Lib.hid hn
  have HP : Hid (place'.length = n) := HPL.out.symm.trans hn
  have HX2 : Hid (RdI w .i64 (.slice PA place.length pc) place) := HX.out.1
  have HY2 : Hid (RdI w .i64 (.slice PA' place'.length pc') place') := HY.out.1
  clear HX HY
  obtain ⟨E, hE⟩ : ∃ E, eqI place place' = E := ⟨_, rfl⟩
  have HEE := Lib.hid hE
  rw [hn] at hm1
  clear hn hE b hm2
  go_wp2_with fail
  go_loopw [5] (fun ii wr => ∃ (k : Nat), k ≤ n ∧ ii = .int .i64 k ∧ eqI (place.drop k) (place'.drop k) = E ∧ Kept [] w1 wr) (fun ii _ => n - (intOf ii).toNat)
  case atStart => exact ⟨0, by omega, rfl, HEE.out, Kept.refl _ _⟩
  case round =>
    obtain ⟨k, hk, rfl, hg, hK⟩ := hrel
    have HGO := Lib.hid hg
    have HK := Lib.hid hK
    have HBX2 := Lib.hid (HBX1.out.kept hK (by simp))
    have HBY2 := Lib.hid (HBY1.out.kept hK (by simp))
    clear hg
    have c2 := HBX2.out.cell 2
    have d2 := HBY2.out.cell 2
    simp at c2 d2
    rw [HN.out] at c2 HX2
    rw [HP.out] at d2 HY2
    by_cases hlt : k < n
    · obtain ⟨x, hxg⟩ : ∃ x, place[k]? = some x := ⟨_, List.getElem?_eq_getElem (by rw [HN.out]; exact hlt)⟩
      obtain ⟨y, hyg⟩ : ∃ y, place'[k]? = some y := ⟨_, List.getElem?_eq_getElem (by rw [HP.out]; exact hlt)⟩
      obtain ⟨A', c', he, _, hE⟩ := HX2.out.keep (HK1.out.trans hK)
      obtain ⟨b, off, rfl, hc⟩ := hE (by rintro rfl; simp at hxg)
      injection he with he1 he2 he3
      subst he1 he3
      obtain ⟨A'', c'', he, _, hE2⟩ := HY2.out.keep (HK1.out.trans hK)
      obtain ⟨b2, off2, rfl, hc2⟩ := hE2 (by rintro rfl; simp at hyg)
      injection he with he1 he2' he3
      subst he1 he3
      have e0 := hc k x hxg
      have d0 := hc2 k y hyg
      have HD := Lib.hid (drop_at hxg)
      have HE := Lib.hid (drop_at hyg)
      have hk0 : (0 : Int) ≤ (k : Int) := by omega
      have hkn : (k : Int) < (n : Int) := by omega
      clear hxg hyg he2 he2' hc hc2 hK hE hE2
      cases q0 : (x == y) with
      | false =>
        have Q0 := Lib.hid q0
        have q1 : (x != y) = true := by simpa using q0
        have HPE : Hid (¬ place = place') := by
          show ¬ _
          intro e
          have h1 : eqI place place' = true := (eqI_iff _ _).2 e
          rw [HEE.out, ← HGO.out, HD.out, HE.out, eqI, Q0.out] at h1
          cases h1
        have HEF : Hid (G = false) := HG.out.symm.trans (sameS_ne (by intro e; simp only [StepD.mk.injEq] at e; exact HPE.out e.2.2.1))
        go_wp2_with fail
        go_quiet (fail)
        go_wp2_with fail
        go_ret
        exact ⟨ret_bool HEF.out.symm, (HK1.out.trans HK.out).drewN _⟩
      | true =>
        have Q0 := Lib.hid q0
        have q1 : (x != y) = false := by simpa using q0
        go_wp2_with fail
        go_quiet (fail)
        go_wp2_with fail
        go_roundw
        case rel =>
          refine ⟨k + 1, by omega, by go_num, ?_, HK.out.drewN _⟩
          rw [← HGO.out, HD.out, HE.out, eqI, Q0.out]
          rfl
        case measure => simp [intOf]; omega
    · have hpe : place = place' := by
        have h := HGO.out
        rw [List.drop_eq_nil_of_le (by rw [HN.out]; omega), List.drop_eq_nil_of_le (by rw [HP.out]; omega)] at h
        exact (eqI_iff _ _).1 (HEE.out.trans h.symm)
      have HPE := Lib.hid hpe
      have HKF := Lib.hid (HK1.out.trans hK)
      clear hpe hK
      have c0 := HBX2.out.cell 0
      have d0 := HBY2.out.cell 0
      have c1 := HBX2.out.cell 1
      have d1 := HBY2.out.cell 1
      have c3 := HBX2.out.cell 3
      have d3 := HBY2.out.cell 3
      have c4 := HBX2.out.cell 4
      have d4 := HBY2.out.cell 4
      have c5 := HBX2.out.cell 5
      have d5 := HBY2.out.cell 5
      have c7 := HBX2.out.cell 7
      have d7 := HBY2.out.cell 7
      have c8 := HBX2.out.cell 8
      have d8 := HBY2.out.cell 8
      have c9 := HBX2.out.cell 9
      have d9 := HBY2.out.cell 9
      have c10 := HBX2.out.cell 10
      have d10 := HBY2.out.cell 10
      have c11 := HBX2.out.cell 11
      have d11 := HBY2.out.cell 11
      have c12 := HBX2.out.cell 12
      have d12 := HBY2.out.cell 12
      have c13 := HBX2.out.cell 13
      have d13 := HBY2.out.cell 13
      simp at c0 d0 c1 d1 c3 d3 c4 d4 c5 d5 c7 d7 c8 d8 c9 d9 c10 d10 c11 d11 c12 d12 c13 d13
      by_cases h : kind = kind'
      rotate_left
      · have b : (kind == kind') = false := int_ne h
        have HE : Hid (G = false) := HG.out.symm.trans (sameS_ne (by intro e; simp only [StepD.mk.injEq] at e; exact h e.1))
        clear h
        go_wp2_with fail
        go_ret
        exact ⟨ret_bool HE.out.symm, HKF.out⟩
      subst h
      by_cases h : text = text'
      rotate_left
      · have b : (text.toList == text'.toList) = false := tl_ne h
        have HE : Hid (G = false) := HG.out.symm.trans (sameS_ne (by intro e; simp only [StepD.mk.injEq] at e; exact h e.2.1))
        clear h
        go_wp2_with fail
        go_ret
        exact ⟨ret_bool HE.out.symm, HKF.out⟩
      subst h
      by_cases h : source = source'
      rotate_left
      · have b : (source == source') = false := int_ne h
        have HE : Hid (G = false) := HG.out.symm.trans (sameS_ne (by intro e; simp only [StepD.mk.injEq] at e; exact h e.2.2.2.1))
        clear h
        go_wp2_with fail
        go_ret
        exact ⟨ret_bool HE.out.symm, HKF.out⟩
      subst h
      by_cases h : time = time'
      rotate_left
      · have b : (time == time') = false := int_ne h
        have HE : Hid (G = false) := HG.out.symm.trans (sameS_ne (by intro e; simp only [StepD.mk.injEq] at e; exact h e.2.2.2.2.1))
        clear h
        go_wp2_with fail
        go_ret
        exact ⟨ret_bool HE.out.symm, HKF.out⟩
      subst h
      by_cases h : type = type'
      rotate_left
      · have b : (type.toList == type'.toList) = false := tl_ne h
        have HE : Hid (G = false) := HG.out.symm.trans (sameS_ne (by intro e; simp only [StepD.mk.injEq] at e; exact h e.2.2.2.2.2.1))
        clear h
        go_wp2_with fail
        go_ret
        exact ⟨ret_bool HE.out.symm, HKF.out⟩
      subst h
      by_cases h : pattern = pattern'
      rotate_left
      · have b : (pattern == pattern') = false := int_ne h
        have HE : Hid (G = false) := HG.out.symm.trans (sameS_ne (by intro e; simp only [StepD.mk.injEq] at e; exact h e.2.2.2.2.2.2.2.1))
        clear h
        go_wp2_with fail
        go_ret
        exact ⟨ret_bool HE.out.symm, HKF.out⟩
      subst h
      by_cases h : op = op'
      rotate_left
      · have b : (op == op') = false := int_ne h
        have HE : Hid (G = false) := HG.out.symm.trans (sameS_ne (by intro e; simp only [StepD.mk.injEq] at e; exact h e.2.2.2.2.2.2.2.2.1))
        clear h
        go_wp2_with fail
        go_ret
        exact ⟨ret_bool HE.out.symm, HKF.out⟩
      subst h
      by_cases h : dest = dest'
      rotate_left
      · have b : (dest == dest') = false := int_ne h
        have HE : Hid (G = false) := HG.out.symm.trans (sameS_ne (by intro e; simp only [StepD.mk.injEq] at e; exact h e.2.2.2.2.2.2.2.2.2.1))
        clear h
        go_wp2_with fail
        go_ret
        exact ⟨ret_bool HE.out.symm, HKF.out⟩
      subst h
      by_cases h : broker = broker'
      rotate_left
      · have b : (broker == broker') = false := int_ne h
        have HE : Hid (G = false) := HG.out.symm.trans (sameS_ne (by intro e; simp only [StepD.mk.injEq] at e; exact h e.2.2.2.2.2.2.2.2.2.2.1))
        clear h
        go_wp2_with fail
        go_ret
        exact ⟨ret_bool HE.out.symm, HKF.out⟩
      subst h
      by_cases h : number = number'
      rotate_left
      · have b : (number == number') = false := int_ne h
        have HE : Hid (G = false) := HG.out.symm.trans (sameS_ne (by intro e; simp only [StepD.mk.injEq] at e; exact h e.2.2.2.2.2.2.2.2.2.2.2.1))
        clear h
        go_wp2_with fail
        go_ret
        exact ⟨ret_bool HE.out.symm, HKF.out⟩
      subst h
      by_cases h : at_ = at_'
      rotate_left
      · have b : (at_ == at_') = false := int_ne h
        have HE : Hid (G = false) := HG.out.symm.trans (sameS_ne (by intro e; simp only [StepD.mk.injEq] at e; exact h e.2.2.2.2.2.2.2.2.2.2.2.2.1))
        clear h
        go_wp2_with fail
        go_ret
        exact ⟨ret_bool HE.out.symm, HKF.out⟩
      subst h
      by_cases h : wth = wth'
      rotate_left
      · have b : (wth == wth') = false := int_ne h
        have HE : Hid (G = false) := HG.out.symm.trans (sameS_ne (by intro e; simp only [StepD.mk.injEq] at e; exact h e.2.2.2.2.2.2.2.2.2.2.2.2.2))
        clear h
        go_wp2_with fail
        go_ret
        exact ⟨ret_bool HE.out.symm, HKF.out⟩
      subst h
      have HE : Hid (G = true) := by
        show _ = _
        rw [← HG.out, HPE.out, HAT.out]
        exact sameS_self _
      go_wp2_with fail
      go_ret
      exact ⟨ret_bool HE.out.symm, HKF.out⟩

end Go.Proofs.YthgenobbpaclhaaDoor

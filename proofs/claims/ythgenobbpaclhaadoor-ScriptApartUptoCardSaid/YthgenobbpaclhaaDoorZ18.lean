/- Unlike steps, unlike lines: the law's walk. -/
import Derived.Test.YthgenobbpaclhaaDoorZ10
import Derived.Test.YthgenobbpaclhaaDoorZ16
import Derived.Test.YthgenobbpaclhaaDoorZ17
set_option linter.unusedVariables false
set_option linter.unusedSimpArgs false
set_option linter.unnecessarySimpa false
namespace Go.Proofs.YthgenobbpaclhaaDoor
open Go.RowKit Go.Shelf
attribute [local go_sem] Oper.semAt_some

theorem StepSm.rg {x : StepD} (h : StepSm x) : StepRg x := by
  obtain ⟨h1, h2, h3, h4, h5, h6, h7, h8, h9, h10, h11, h12, h13, h14, h15, h16⟩ := h
  exact ⟨h4, by omega, h5, h6, fun a ha => (h9 a ha).2.2, by omega, h10, h11, h12, h13, h14, h15, ⟨by omega, by omega⟩⟩
theorem apart_eq {x y : StepD} {s t : ByteArray} (hx : StepSm x) (hy : StepSm y) (h1 : lineT x = some s) (h2 : lineT y = some t) : (s.toList == t.toList) = sameS x y := by
  by_cases h : x = y
  · subst h
    rw [h1] at h2
    injection h2 with h2
    subst h2
    rw [sameS_self]
    simp
  · rw [sameS_ne h]
    exact tl_ne (fun e => h (lineT_inj hx.rg hy.rg h1 (by rw [e]; exact h2)))

def LineOf (S : ByteArray) (E : Int) (w : World) (e : Ending) (w' : World) : Prop := e = .returned (.tuple #[.string S, .int .i64 E]) ∧ Kept [] w w'
theorem LinePost.open (o : Option ByteArray) : ∃ S E, (fun w => LinePost w o) = (fun w => LineOf S E w) ∧ ((o = none ∧ E = 1) ∨ (∃ s, o = some s ∧ S = s ∧ E = 0)) := by
  cases o with
  | none => exact ⟨_, _, rfl, .inl ⟨rfl, rfl⟩⟩
  | some s => exact ⟨_, _, rfl, .inr ⟨s, rfl, rfl, rfl⟩⟩
set_option maxRecDepth 100000 in
set_option maxHeartbeats 8000000 in
theorem lawApart_any (x0 x1 : StepD) (pv av qv bv : Value) (w : World) (hx : StepV w x0 pv av) (hy : StepV w x1 qv bv) (sx : StepSm x0) (sy : StepSm x1) (ht : TabVar w) :
    Calls Tryd.prog 5 #[.agg (stepC x0 pv av), .agg (stepC x1 qv bv)] w fun e w' => e = .returned (.bool true) ∧ Kept [] w w' := by
  have HX := Lib.hid hx
  have HY := Lib.hid hy
  obtain ⟨PA0, pc0, rfl, _⟩ := hx.1
  obtain ⟨AA0, ac0, rfl, _⟩ := hx.2.form
  obtain ⟨PA1, pc1, rfl, _⟩ := hy.1
  obtain ⟨AA1, ac1, rfl, _⟩ := hy.2.form
  have HLX : Hid (∀ W, Kept [] w W → Calls Tryd.prog 14 #[.agg #[.int .i64 x0.kind, .string x0.text, .slice PA0 x0.place.length pc0, .int .i64 x0.source, .int .i64 x0.time, .string x0.type, .slice AA0 x0.attrs.length ac0, .int .i64 x0.pattern, .int .i64 x0.op, .int .i64 x0.dest, .int .i64 x0.broker, .int .i64 x0.number, .int .i64 x0.at_, .int .u8 x0.wth]] W (LinePost W (lineT x0))) := fun W hk => line_any x0 _ _ W (hx.keep hk) sx (ht.keep hk)
  have HLY : Hid (∀ W, Kept [] w W → Calls Tryd.prog 14 #[.agg #[.int .i64 x1.kind, .string x1.text, .slice PA1 x1.place.length pc1, .int .i64 x1.source, .int .i64 x1.time, .string x1.type, .slice AA1 x1.attrs.length ac1, .int .i64 x1.pattern, .int .i64 x1.op, .int .i64 x1.dest, .int .i64 x1.broker, .int .i64 x1.number, .int .i64 x1.at_, .int .u8 x1.wth]] W (LinePost W (lineT x1))) := fun W hk => line_any x1 _ _ W (hy.keep hk) sy (ht.keep hk)
  have HSM : Hid (∀ W, Kept [] w W → Calls Tryd.prog 15 #[.agg #[.int .i64 x0.kind, .string x0.text, .slice PA0 x0.place.length pc0, .int .i64 x0.source, .int .i64 x0.time, .string x0.type, .slice AA0 x0.attrs.length ac0, .int .i64 x0.pattern, .int .i64 x0.op, .int .i64 x0.dest, .int .i64 x0.broker, .int .i64 x0.number, .int .i64 x0.at_, .int .u8 x0.wth], .agg #[.int .i64 x1.kind, .string x1.text, .slice PA1 x1.place.length pc1, .int .i64 x1.source, .int .i64 x1.time, .string x1.type, .slice AA1 x1.attrs.length ac1, .int .i64 x1.pattern, .int .i64 x1.op, .int .i64 x1.dest, .int .i64 x1.broker, .int .i64 x1.number, .int .i64 x1.at_, .int .u8 x1.wth]] W fun e w' => e = .returned (.bool (sameS x0 x1)) ∧ Kept [] W w') := fun W hk => rsame_step x0 x1 _ _ _ _ W (hx.keep hk) (hy.keep hk)
  have HLV : Hid (∀ W, Kept [] w W → Calls Tryd.prog 10 #[] W fun e w' => e = .returned (.bool true) ∧ Kept [] W w') := fun W hk => live_any W (ht.keep hk)
  have HAP : Hid (∀ s t, lineT x0 = some s → lineT x1 = some t → (s.toList == t.toList) = sameS x0 x1) := fun s t h1 h2 => apart_eq sx sy h1 h2
  obtain ⟨o1, ho1⟩ : ∃ o, lineT x0 = o := ⟨_, rfl⟩
  obtain ⟨o2, ho2⟩ : ∃ o, lineT x1 = o := ⟨_, rfl⟩
  obtain ⟨q, hq⟩ : ∃ q, sameS x0 x1 = q := ⟨_, rfl⟩
  rw [ho1] at HLX HAP
  rw [ho2] at HLY HAP
  obtain ⟨S1, E1, hl1, hc1⟩ := LinePost.open o1
  obtain ⟨S2, E2, hl2, hc2⟩ := LinePost.open o2
  have HLX : Hid (∀ W, Kept [] w W → Calls Tryd.prog 14 #[.agg #[.int .i64 x0.kind, .string x0.text, .slice PA0 x0.place.length pc0, .int .i64 x0.source, .int .i64 x0.time, .string x0.type, .slice AA0 x0.attrs.length ac0, .int .i64 x0.pattern, .int .i64 x0.op, .int .i64 x0.dest, .int .i64 x0.broker, .int .i64 x0.number, .int .i64 x0.at_, .int .u8 x0.wth]] W (LineOf S1 E1 W)) := fun W hk => by have h := HLX.out W hk; rwa [congrFun hl1 W] at h
  have HLY : Hid (∀ W, Kept [] w W → Calls Tryd.prog 14 #[.agg #[.int .i64 x1.kind, .string x1.text, .slice PA1 x1.place.length pc1, .int .i64 x1.source, .int .i64 x1.time, .string x1.type, .slice AA1 x1.attrs.length ac1, .int .i64 x1.pattern, .int .i64 x1.op, .int .i64 x1.dest, .int .i64 x1.broker, .int .i64 x1.number, .int .i64 x1.at_, .int .u8 x1.wth]] W (LineOf S2 E2 W)) := fun W hk => by have h := HLY.out W hk; rwa [congrFun hl2 W] at h
  have HC1 := Lib.hid hc1
  have HC2 := Lib.hid hc2
  rw [hq] at HSM HAP
  obtain ⟨W0, hW0⟩ : ∃ W0, (w.alloc (.cells #[.int .i64 x0.kind, .string x0.text, .slice PA0 x0.place.length pc0, .int .i64 x0.source, .int .i64 x0.time, .string x0.type, .slice AA0 x0.attrs.length ac0, .int .i64 x0.pattern, .int .i64 x0.op, .int .i64 x0.dest, .int .i64 x0.broker, .int .i64 x0.number, .int .i64 x0.at_, .int .u8 x0.wth] 40)).alloc (.cells #[.int .i64 x1.kind, .string x1.text, .slice PA1 x1.place.length pc1, .int .i64 x1.source, .int .i64 x1.time, .string x1.type, .slice AA1 x1.attrs.length ac1, .int .i64 x1.pattern, .int .i64 x1.op, .int .i64 x1.dest, .int .i64 x1.broker, .int .i64 x1.number, .int .i64 x1.at_, .int .u8 x1.wth] 40) = W0 := ⟨_, rfl⟩
  have HK0 : Hid (Kept [] w W0) := by show Kept _ _ _; rw [← hW0]; exact ((Kept.refl [] w).alloc _).alloc _
  have HBX : Hid (Blk W0 w.heap.size (stepC x0 (.slice PA0 x0.place.length pc0) (.slice AA0 x0.attrs.length ac0)) 40) := by show Blk _ _ _ _; rw [← hW0]; exact (Blk.new w #[.int .i64 x0.kind, .string x0.text, .slice PA0 x0.place.length pc0, .int .i64 x0.source, .int .i64 x0.time, .string x0.type, .slice AA0 x0.attrs.length ac0, .int .i64 x0.pattern, .int .i64 x0.op, .int .i64 x0.dest, .int .i64 x0.broker, .int .i64 x0.number, .int .i64 x0.at_, .int .u8 x0.wth] _).alloc _
  have HBY : Hid (Blk W0 (w.heap.size + 1) (stepC x1 (.slice PA1 x1.place.length pc1) (.slice AA1 x1.attrs.length ac1)) 40) := by
    show Blk _ _ _ _
    rw [← hW0]
    have := Blk.new (w.alloc (.cells #[.int .i64 x0.kind, .string x0.text, .slice PA0 x0.place.length pc0, .int .i64 x0.source, .int .i64 x0.time, .string x0.type, .slice AA0 x0.attrs.length ac0, .int .i64 x0.pattern, .int .i64 x0.op, .int .i64 x0.dest, .int .i64 x0.broker, .int .i64 x0.number, .int .i64 x0.at_, .int .u8 x0.wth] 40)) #[.int .i64 x1.kind, .string x1.text, .slice PA1 x1.place.length pc1, .int .i64 x1.source, .int .i64 x1.time, .string x1.type, .slice AA1 x1.attrs.length ac1, .int .i64 x1.pattern, .int .i64 x1.op, .int .i64 x1.dest, .int .i64 x1.broker, .int .i64 x1.number, .int .i64 x1.at_, .int .u8 x1.wth] 40
    rw [show (w.alloc (.cells #[.int .i64 x0.kind, .string x0.text, .slice PA0 x0.place.length pc0, .int .i64 x0.source, .int .i64 x0.time, .string x0.type, .slice AA0 x0.attrs.length ac0, .int .i64 x0.pattern, .int .i64 x0.op, .int .i64 x0.dest, .int .i64 x0.broker, .int .i64 x0.number, .int .i64 x0.at_, .int .u8 x0.wth] 40)).heap.size = w.heap.size + 1 from by simp] at this
    exact this
  have HW0 := Lib.hid hW0
  clear hx hy sx sy ht ho1 ho2 hq hW0 hl1 hl2 hc1 hc2
  dsimp only [stepC]
  go_enter Tryd.func5, Tryd.ntmps5
  go_upto_region 1 with fail
  rw [show (w.alloc (.cells #[.int .i64 x0.kind, .string x0.text, .slice PA0 x0.place.length pc0, .int .i64 x0.source, .int .i64 x0.time, .string x0.type, .slice AA0 x0.attrs.length ac0, .int .i64 x0.pattern, .int .i64 x0.op, .int .i64 x0.dest, .int .i64 x0.broker, .int .i64 x0.number, .int .i64 x0.at_, .int .u8 x0.wth] 40)).alloc (.cells #[.int .i64 x1.kind, .string x1.text, .slice PA1 x1.place.length pc1, .int .i64 x1.source, .int .i64 x1.time, .string x1.type, .slice AA1 x1.attrs.length ac1, .int .i64 x1.pattern, .int .i64 x1.op, .int .i64 x1.dest, .int .i64 x1.broker, .int .i64 x1.number, .int .i64 x1.at_, .int .u8 x1.wth] 40) = W0 from HW0.out]
  obtain ⟨a0, a1, a2, a3, a4, a5, a6, a7, a8, a9, a10, a11, a12, a13⟩ := HBX.out.step
  go_wp2_with fail
  refine (HLX.out _ HK0.out).mono ?_
  rintro e w1 ⟨rfl, hk1⟩
  have HK1 := Lib.hid (HK0.out.trans hk1)
  have HBX1 := Lib.hid (HBX.out.kept hk1 (by simp))
  have HBY1 := Lib.hid (HBY.out.kept hk1 (by simp))
  clear hk1 a0 a1 a2 a3 a4 a5 a6 a7 a8 a9 a10 a11 a12 a13
  obtain ⟨b0, b1, b2, b3, b4, b5, b6, b7, b8, b9, b10, b11, b12, b13⟩ := HBY1.out.step
  go_wp2_with fail
  refine (HLY.out _ HK1.out).mono ?_
  rintro e w2 ⟨rfl, hk2⟩
  have HK2 := Lib.hid (HK1.out.trans hk2)
  have HBX2 := Lib.hid (HBX1.out.kept hk2 (by simp))
  have HBY2 := Lib.hid (HBY1.out.kept hk2 (by simp))
  clear hk2 b0 b1 b2 b3 b4 b5 b6 b7 b8 b9 b10 b11 b12 b13
  rcases HC1.out with ⟨_, rfl⟩ | ⟨s, hs, rfl, rfl⟩
  · go_wp2_with fail
    refine (HLV.out _ HK2.out).mono ?_
    rintro e w3 ⟨rfl, hk3⟩
    have HK3 := Lib.hid (HK2.out.trans hk3)
    clear hk3
    go_wp2_with fail
    go_ret
    exact ⟨rfl, HK3.out⟩
  rcases HC2.out with ⟨_, rfl⟩ | ⟨t, ht, rfl, rfl⟩
  · go_wp2_with fail
    refine (HLV.out _ HK2.out).mono ?_
    rintro e w3 ⟨rfl, hk3⟩
    have HK3 := Lib.hid (HK2.out.trans hk3)
    clear hk3
    go_wp2_with fail
    go_ret
    exact ⟨rfl, HK3.out⟩
  have hap := HAP.out _ _ hs ht
  clear hs ht
  go_wp2_with fail
  refine (HLV.out _ HK2.out).mono ?_
  rintro e w3 ⟨rfl, hk3⟩
  have HK3 := Lib.hid (HK2.out.trans hk3)
  have HBX3 := Lib.hid (HBX2.out.kept hk3 (by simp))
  have HBY3 := Lib.hid (HBY2.out.kept hk3 (by simp))
  clear hk3
  obtain ⟨a0, a1, a2, a3, a4, a5, a6, a7, a8, a9, a10, a11, a12, a13⟩ := HBX3.out.step
  obtain ⟨b0, b1, b2, b3, b4, b5, b6, b7, b8, b9, b10, b11, b12, b13⟩ := HBY3.out.step
  go_wp2_with fail
  refine (HSM.out _ HK3.out).mono ?_
  rintro e w4 ⟨rfl, hk4⟩
  have HK4 := Lib.hid (HK3.out.trans hk4)
  clear hk4 a0 a1 a2 a3 a4 a5 a6 a7 a8 a9 a10 a11 a12 a13 b0 b1 b2 b3 b4 b5 b6 b7 b8 b9 b10 b11 b12 b13
  go_wp2_with fail
  go_ret
  exact ⟨rfl, HK4.out⟩

theorem apart_row (w : World) (hL : laidMetH Tryd.prog Rows.scriptApartUptoRow.laid w) (c1 : Array Value) (x1 : StepT) (h1 : stepP.K w x1 c1.toList) (b1 : stepWt x1 + 1 ≤ 1048576) (c2 : Array Value) (x2 : StepT) (h2 : stepP.K w x2 c2.toList) (b2 : stepWt x2 + 1 ≤ 1048576) :
    Calls Tryd.prog 5 #[.agg c1, .agg c2] w fun e w' => e = .returned (.bool true) ∧ Below w.heap.size w w' := by
  obtain ⟨pv, av, e1, v1, s1⟩ := stepP_get h1
  obtain ⟨qv, bv, e2, v2, s2⟩ := stepP_get h2
  have e1 : c1 = stepC (toStep x1) pv av := Array.ext' e1
  have e2 : c2 = stepC (toStep x2) qv bv := Array.ext' e2
  subst e1 e2
  exact (lawApart_any _ _ _ _ _ _ w v1 v2 (s1 (by omega)) (s2 (by omega)) (tab_of_laid hL)).mono fun e w' ⟨he, hk⟩ => ⟨he, hk.below⟩

end Go.Proofs.YthgenobbpaclhaaDoor

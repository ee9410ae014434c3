/- Scripts, the program's: whether two steps are the same (printed by gen_z6.py). -/
import Derived.Test.YthgenobbpaclhaaDoorZ5
import Derived.Test.YthgenobbpaclhaaDoorV12
set_option linter.unusedVariables false
set_option linter.unusedSimpArgs false
set_option linter.unnecessarySimpa false
namespace Go.Proofs.YthgenobbpaclhaaDoor
open Go.RowKit Go.Shelf
attribute [local go_sem] Oper.semAt_some

def eqI : List Int → List Int → Bool
  | [], [] => true
  | x :: xs, y :: ys => (x == y) && eqI xs ys
  | _, _ => false
theorem eqI_iff : ∀ l m, eqI l m = true ↔ l = m
  | [], [] => by simp [eqI]
  | [], _ :: _ => by simp [eqI]
  | _ :: _, [] => by simp [eqI]
  | x :: xs, y :: ys => by rw [eqI, Bool.and_eq_true, eqI_iff xs ys]; simp
theorem eqI_len (l m : List Int) (h : l.length ≠ m.length) : eqI l m = false := by
  cases hq : eqI l m with
  | false => rfl
  | true => rw [eqI_iff] at hq; rw [hq] at h; exact absurd rfl h
theorem eqI_self (l : List Int) : eqI l l = true := (eqI_iff l l).2 rfl
theorem eqI_ne {l m : List Int} (h : ¬ l = m) : eqI l m = false := by
  cases hq : eqI l m with
  | false => rfl
  | true => exact absurd ((eqI_iff l m).1 hq) h
theorem tl_inj {a b : ByteArray} (h : a.toList = b.toList) : a = b := by
  rw [ByteArray.toList_eq, ByteArray.toList_eq] at h
  cases a; cases b
  simp at h
  rw [h]
theorem eqA_iff (x y : AttrD) : eqA x y = true ↔ x = y := by
  constructor
  · intro h
    unfold eqA at h
    simp only [Bool.and_eq_true, beq_iff_eq] at h
    exact Prod.ext (tl_inj h.1) (Prod.ext h.2.1 (Prod.ext h.2.2.1 (tl_inj h.2.2.2)))
  · rintro rfl
    simp [eqA]
theorem sameGo_iff : ∀ l m, sameGo l m = true ↔ l = m
  | [], [] => by simp [sameGo]
  | [], _ :: _ => by simp [sameGo]
  | _ :: _, [] => by simp [sameGo]
  | x :: xs, y :: ys => by rw [sameGo, Bool.and_eq_true, sameGo_iff xs ys, eqA_iff]; simp
theorem sameGo_ne {l m : List AttrD} (h : ¬ l = m) : sameGo l m = false := by
  cases hq : sameGo l m with
  | false => rfl
  | true => exact absurd ((sameGo_iff l m).1 hq) h
theorem tl_ne {a b : ByteArray} (h : ¬ a = b) : (a.toList == b.toList) = false := by
  cases hq : (a.toList == b.toList) with
  | false => rfl
  | true => exact absurd (tl_inj (by simpa using hq)) h
theorem int_ne {a b : Int} (h : ¬ a = b) : (a == b) = false := by rw [beq_eq_false_iff_ne]; exact h

set_option maxRecDepth 100000 in
set_option maxHeartbeats 4000000 in
theorem eqi_any (v u : Value) (l m : List Int) (w : World) (hx : RdI w .i64 v l) (hy : RdI w .i64 u m) :
    Calls Tryd.prog 48 #[v, u] w fun e w' => e = .returned (.bool (eqI l m)) ∧ Kept [] w w' := by
  have HX := Lib.hid hx
  have HY := Lib.hid hy
  obtain ⟨A, c, rfl, hmx, _⟩ := hx
  obtain ⟨B, d, rfl, hmy, _⟩ := hy
  obtain ⟨n, hn⟩ : ∃ n, l.length = n := ⟨_, rfl⟩
  obtain ⟨p, hp⟩ : ∃ p, m.length = p := ⟨_, rfl⟩
  obtain ⟨G, hG⟩ : ∃ G, eqI l m = G := ⟨_, rfl⟩
  have HLN : Hid (n ≠ p → G = false) := fun h => by rw [← hG]; exact eqI_len l m (by rw [hn, hp]; exact h)
  have HG := Lib.hid hG
  rw [hG]
  rw [hn] at hmx HX ⊢
  rw [hp] at hmy HY ⊢
  have hm1 : n ≤ 9223372036854775807 := by unfold maxLen at hmx; omega
  have hm2 : p ≤ 9223372036854775807 := by unfold maxLen at hmy; omega
  clear hmx hmy
  have HN := Lib.hid hn
  have HP := Lib.hid hp
  clear hn hp hG
  by_cases hnp : n = p
  · subst hnp
    clear HLN
    go_enter Tryd.func48, Tryd.ntmps48
    go_wp2_with fail
    go_loopw [13] (fun i wr => ∃ (k : Nat), k ≤ n ∧ i = .int .i64 k ∧ eqI (l.drop k) (m.drop k) = G ∧ Kept [] w wr) (fun i _ => n - (intOf i).toNat)
    case atStart => exact ⟨0, by omega, rfl, HG.out, Kept.refl _ _⟩
    case round =>
      obtain ⟨k, hk, rfl, hg, hK⟩ := hrel
      have HGO := Lib.hid hg
      have HK := Lib.hid hK
      clear hg
      by_cases hlt : k < n
      · obtain ⟨x, hxg⟩ : ∃ x, l[k]? = some x := ⟨_, List.getElem?_eq_getElem (by rw [HN.out]; exact hlt)⟩
        obtain ⟨y, hyg⟩ : ∃ y, m[k]? = some y := ⟨_, List.getElem?_eq_getElem (by rw [HP.out]; exact hlt)⟩
        obtain ⟨A', c', he, _, hE⟩ := HX.out.keep hK
        obtain ⟨b, off, rfl, hc⟩ := hE (by rintro rfl; simp at hxg)
        injection he with he1 he2 he3
        subst he1 he3
        obtain ⟨A'', c'', he, _, hE2⟩ := HY.out.keep hK
        obtain ⟨b2, off2, rfl, hc2⟩ := hE2 (by rintro rfl; simp at hyg)
        injection he with he1 he2' he3
        subst he1 he3
        have e0 := hc k x hxg
        have d0 := hc2 k y hyg
        have HD := Lib.hid (drop_at hxg)
        have HE := Lib.hid (drop_at hyg)
        have hk0 : (0 : Int) ≤ (k : Int) := by omega
        have hkn : (k : Int) < (n : Int) := by omega
        clear hxg hyg he2 he2' hc hc2 hK hE hE2
        cases q0 : (x == y) with
        | false =>
          have Q0 := Lib.hid q0
          have q1 : (x != y) = true := by simpa using q0
          go_wp2_with fail
          go_quiet (fail)
          go_wp2_with fail
          go_ret
          refine ⟨ret_bool ?_, HK.out.drewN _⟩
          rw [← HGO.out, HD.out, HE.out, eqI, Q0.out]; rfl
        | true =>
          have Q0 := Lib.hid q0
          have q1 : (x != y) = false := by simpa using q0
          go_wp2_with fail
          go_quiet (fail)
          go_wp2_with fail
          go_roundw
          case rel =>
            refine ⟨k + 1, by omega, by go_num, ?_, HK.out.drewN _⟩
            rw [← HGO.out, HD.out, HE.out, eqI, Q0.out]
            rfl
          case measure => simp [intOf]; omega
      · go_wp2_with fail
        go_ret
        refine ⟨ret_bool ?_, hK⟩
        have := HGO.out
        rwa [List.drop_eq_nil_of_le (by rw [HN.out]; omega), List.drop_eq_nil_of_le (by rw [HP.out]; omega), eqI] at this
  · have HE := Lib.hid (HLN.out hnp)
    have hb : ((n : Int) == (p : Int)) = false := by rw [beq_eq_false_iff_ne]; omega
    have hb2 : ((n : Int) != (p : Int)) = true := by simpa using hb
    rw [HE.out]
    clear hnp
    go_enter Tryd.func48, Tryd.ntmps48
    go_wp2_with fail
    go_ret
    exact ⟨rfl, Kept.refl _ _⟩

open Classical in
noncomputable def sameS (x y : StepD) : Bool := decide (x = y)
theorem sameS_self (x : StepD) : sameS x x = true := by unfold sameS; simp
theorem sameS_ne {x y : StepD} (h : x ≠ y) : sameS x y = false := by unfold sameS; simpa using h

set_option maxRecDepth 100000 in
set_option maxHeartbeats 16000000 in
theorem same_step (x y : StepD) (pv av qv bv : Value) (w : World) (hx : StepV w x pv av) (hy : StepV w y qv bv) : Calls Tryd.prog 29 #[.agg (stepC x pv av), .agg (stepC y qv bv)] w fun e w' => e = .returned (.bool (sameS x y)) ∧ Kept [] w w' := by
  obtain ⟨PA, pc, rfl, _⟩ := hx.1
  obtain ⟨AA, ac, rfl, _⟩ := hx.2.form
  obtain ⟨PA', pc', rfl, _⟩ := hy.1
  obtain ⟨AA', ac', rfl, _⟩ := hy.2.form
  have HX := Lib.hid hx
  have HY := Lib.hid hy
  clear hx hy
  obtain ⟨kind, text, place, source, time, type, attrs, pattern, op, dest, broker, number, at_, wth⟩ := x
  obtain ⟨kind', text', place', source', time', type', attrs', pattern', op', dest', broker', number', at_', wth'⟩ := y
  dsimp only [stepC] at HX HY ⊢
  have EQI : Hid (∀ W, Kept [] w W → Calls Tryd.prog 48 #[.slice PA place.length pc, .slice PA' place'.length pc'] W fun e w' => e = .returned (.bool (eqI place place')) ∧ Kept [] W w') := fun W hk => eqi_any _ _ _ _ W (HX.out.1.keep hk) (HY.out.1.keep hk)
  have EQA : Hid (∀ W, Kept [] w W → Calls Tryd.prog 49 #[.slice AA attrs.length ac, .slice AA' attrs'.length ac'] W fun e w' => e = .returned (.bool (sameGo attrs attrs')) ∧ Kept [] W w') := fun W hk => equal_attrs _ _ _ _ W (HX.out.2.keep hk) (HY.out.2.keep hk)
  have HK0 := Lib.hid (((Kept.refl [] w).alloc (.cells #[.int .i64 kind, .string text, .slice PA place.length pc, .int .i64 source, .int .i64 time, .string type, .slice AA attrs.length ac, .int .i64 pattern, .int .i64 op, .int .i64 dest, .int .i64 broker, .int .i64 number, .int .i64 at_, .int .u8 wth] 40)).alloc (.cells #[.int .i64 kind', .string text', .slice PA' place'.length pc', .int .i64 source', .int .i64 time', .string type', .slice AA' attrs'.length ac', .int .i64 pattern', .int .i64 op', .int .i64 dest', .int .i64 broker', .int .i64 number', .int .i64 at_', .int .u8 wth'] 40))
  have HBX := Lib.hid ((Blk.new w #[.int .i64 kind, .string text, .slice PA place.length pc, .int .i64 source, .int .i64 time, .string type, .slice AA attrs.length ac, .int .i64 pattern, .int .i64 op, .int .i64 dest, .int .i64 broker, .int .i64 number, .int .i64 at_, .int .u8 wth] 40).alloc (.cells #[.int .i64 kind', .string text', .slice PA' place'.length pc', .int .i64 source', .int .i64 time', .string type', .slice AA' attrs'.length ac', .int .i64 pattern', .int .i64 op', .int .i64 dest', .int .i64 broker', .int .i64 number', .int .i64 at_', .int .u8 wth'] 40))
  have HBY : Hid (Blk ((w.alloc (.cells #[.int .i64 kind, .string text, .slice PA place.length pc, .int .i64 source, .int .i64 time, .string type, .slice AA attrs.length ac, .int .i64 pattern, .int .i64 op, .int .i64 dest, .int .i64 broker, .int .i64 number, .int .i64 at_, .int .u8 wth] 40)).alloc (.cells #[.int .i64 kind', .string text', .slice PA' place'.length pc', .int .i64 source', .int .i64 time', .string type', .slice AA' attrs'.length ac', .int .i64 pattern', .int .i64 op', .int .i64 dest', .int .i64 broker', .int .i64 number', .int .i64 at_', .int .u8 wth'] 40)) (w.heap.size + 1) #[.int .i64 kind', .string text', .slice PA' place'.length pc', .int .i64 source', .int .i64 time', .string type', .slice AA' attrs'.length ac', .int .i64 pattern', .int .i64 op', .int .i64 dest', .int .i64 broker', .int .i64 number', .int .i64 at_', .int .u8 wth'] 40) := by
    have := Blk.new (w.alloc (.cells #[.int .i64 kind, .string text, .slice PA place.length pc, .int .i64 source, .int .i64 time, .string type, .slice AA attrs.length ac, .int .i64 pattern, .int .i64 op, .int .i64 dest, .int .i64 broker, .int .i64 number, .int .i64 at_, .int .u8 wth] 40)) #[.int .i64 kind', .string text', .slice PA' place'.length pc', .int .i64 source', .int .i64 time', .string type', .slice AA' attrs'.length ac', .int .i64 pattern', .int .i64 op', .int .i64 dest', .int .i64 broker', .int .i64 number', .int .i64 at_', .int .u8 wth'] 40
    rw [show (w.alloc (.cells #[.int .i64 kind, .string text, .slice PA place.length pc, .int .i64 source, .int .i64 time, .string type, .slice AA attrs.length ac, .int .i64 pattern, .int .i64 op, .int .i64 dest, .int .i64 broker, .int .i64 number, .int .i64 at_, .int .u8 wth] 40)).heap.size = w.heap.size + 1 from by simp] at this
    exact this
  clear HX HY
  obtain ⟨G, hG⟩ : ∃ G, sameS ⟨kind, text, place, source, time, type, attrs, pattern, op, dest, broker, number, at_, wth⟩ ⟨kind', text', place', source', time', type', attrs', pattern', op', dest', broker', number', at_', wth'⟩ = G := ⟨_, rfl⟩
  rw [hG]
  have HG := Lib.hid hG
  clear hG
  go_enter Tryd.func29, Tryd.ntmps29
  by_cases h : kind = kind'
  rotate_left
  · have b : (kind == kind') = false := int_ne h
    have HE : Hid (G = false) := HG.out.symm.trans (sameS_ne (x := ⟨kind, text, place, source, time, type, attrs, pattern, op, dest, broker, number, at_, wth⟩) (y := ⟨kind', text', place', source', time', type', attrs', pattern', op', dest', broker', number', at_', wth'⟩) (by intro e; simp only [StepD.mk.injEq] at e; exact h e.1))
    clear h
    go_wp2_with fail
    go_ret
    exact ⟨ret_bool HE.out.symm, HK0.out⟩
  subst h
  by_cases h : text = text'
  rotate_left
  · have b : (text.toList == text'.toList) = false := tl_ne h
    have HE : Hid (G = false) := HG.out.symm.trans (sameS_ne (x := ⟨kind, text, place, source, time, type, attrs, pattern, op, dest, broker, number, at_, wth⟩) (y := ⟨kind, text', place', source', time', type', attrs', pattern', op', dest', broker', number', at_', wth'⟩) (by intro e; simp only [StepD.mk.injEq] at e; exact h e.2.1))
    clear h
    go_wp2_with fail
    go_ret
    exact ⟨ret_bool HE.out.symm, HK0.out⟩
  subst h
  go_wp2_with fail
  refine (EQI.out _ HK0.out).mono ?_
  rintro e w1 ⟨rfl, hk⟩
  have HK1 := Lib.hid (HK0.out.trans hk)
  have HBX1 := Lib.hid (HBX.out.kept hk (by simp))
  have HBY1 := Lib.hid (HBY.out.kept hk (by simp))
  clear hk
  have c0 := HBX1.out.cell 0
  have d0 := HBY1.out.cell 0
  have c1 := HBX1.out.cell 1
  have d1 := HBY1.out.cell 1
  have c2 := HBX1.out.cell 2
  have d2 := HBY1.out.cell 2
  have c3 := HBX1.out.cell 3
  have d3 := HBY1.out.cell 3
  have c4 := HBX1.out.cell 4
  have d4 := HBY1.out.cell 4
  have c5 := HBX1.out.cell 5
  have d5 := HBY1.out.cell 5
  have c6 := HBX1.out.cell 6
  have d6 := HBY1.out.cell 6
  have c7 := HBX1.out.cell 7
  have d7 := HBY1.out.cell 7
  have c8 := HBX1.out.cell 8
  have d8 := HBY1.out.cell 8
  have c9 := HBX1.out.cell 9
  have d9 := HBY1.out.cell 9
  have c10 := HBX1.out.cell 10
  have d10 := HBY1.out.cell 10
  have c11 := HBX1.out.cell 11
  have d11 := HBY1.out.cell 11
  have c12 := HBX1.out.cell 12
  have d12 := HBY1.out.cell 12
  have c13 := HBX1.out.cell 13
  have d13 := HBY1.out.cell 13
  simp at c0 d0 c1 d1 c2 d2 c3 d3 c4 d4 c5 d5 c6 d6 c7 d7 c8 d8 c9 d9 c10 d10 c11 d11 c12 d12 c13 d13
  by_cases h : place = place'
  rotate_left
  · rw [eqI_ne h]
    have HE : Hid (G = false) := HG.out.symm.trans (sameS_ne (x := ⟨kind, text, place, source, time, type, attrs, pattern, op, dest, broker, number, at_, wth⟩) (y := ⟨kind, text, place', source', time', type', attrs', pattern', op', dest', broker', number', at_', wth'⟩) (by intro e; simp only [StepD.mk.injEq] at e; exact h e.2.2.1))
    clear h
    go_wp2_with fail
    go_ret
    exact ⟨ret_bool HE.out.symm, HK1.out⟩
  subst h
  rw [eqI_self]
  by_cases h : source = source'
  rotate_left
  · have b : (source == source') = false := int_ne h
    have HE : Hid (G = false) := HG.out.symm.trans (sameS_ne (x := ⟨kind, text, place, source, time, type, attrs, pattern, op, dest, broker, number, at_, wth⟩) (y := ⟨kind, text, place, source', time', type', attrs', pattern', op', dest', broker', number', at_', wth'⟩) (by intro e; simp only [StepD.mk.injEq] at e; exact h e.2.2.2.1))
    clear h
    go_wp2_with fail
    go_ret
    exact ⟨ret_bool HE.out.symm, HK1.out⟩
  subst h
  by_cases h : time = time'
  rotate_left
  · have b : (time == time') = false := int_ne h
    have HE : Hid (G = false) := HG.out.symm.trans (sameS_ne (x := ⟨kind, text, place, source, time, type, attrs, pattern, op, dest, broker, number, at_, wth⟩) (y := ⟨kind, text, place, source, time', type', attrs', pattern', op', dest', broker', number', at_', wth'⟩) (by intro e; simp only [StepD.mk.injEq] at e; exact h e.2.2.2.2.1))
    clear h
    go_wp2_with fail
    go_ret
    exact ⟨ret_bool HE.out.symm, HK1.out⟩
  subst h
  by_cases h : type = type'
  rotate_left
  · have b : (type.toList == type'.toList) = false := tl_ne h
    have HE : Hid (G = false) := HG.out.symm.trans (sameS_ne (x := ⟨kind, text, place, source, time, type, attrs, pattern, op, dest, broker, number, at_, wth⟩) (y := ⟨kind, text, place, source, time, type', attrs', pattern', op', dest', broker', number', at_', wth'⟩) (by intro e; simp only [StepD.mk.injEq] at e; exact h e.2.2.2.2.2.1))
    clear h
    go_wp2_with fail
    go_ret
    exact ⟨ret_bool HE.out.symm, HK1.out⟩
  subst h
  go_wp2_with fail
  refine (EQA.out _ HK1.out).mono ?_
  rintro e w2 ⟨rfl, hk⟩
  have HK2 := Lib.hid (HK1.out.trans hk)
  have HBX2 := Lib.hid (HBX1.out.kept hk (by simp))
  have HBY2 := Lib.hid (HBY1.out.kept hk (by simp))
  clear hk
  clear c0 d0 c1 d1 c2 d2 c3 d3 c4 d4 c5 d5 c6 d6 c7 d7 c8 d8 c9 d9 c10 d10 c11 d11 c12 d12 c13 d13
  have c0 := HBX2.out.cell 0
  have d0 := HBY2.out.cell 0
  have c1 := HBX2.out.cell 1
  have d1 := HBY2.out.cell 1
  have c2 := HBX2.out.cell 2
  have d2 := HBY2.out.cell 2
  have c3 := HBX2.out.cell 3
  have d3 := HBY2.out.cell 3
  have c4 := HBX2.out.cell 4
  have d4 := HBY2.out.cell 4
  have c5 := HBX2.out.cell 5
  have d5 := HBY2.out.cell 5
  have c6 := HBX2.out.cell 6
  have d6 := HBY2.out.cell 6
  have c7 := HBX2.out.cell 7
  have d7 := HBY2.out.cell 7
  have c8 := HBX2.out.cell 8
  have d8 := HBY2.out.cell 8
  have c9 := HBX2.out.cell 9
  have d9 := HBY2.out.cell 9
  have c10 := HBX2.out.cell 10
  have d10 := HBY2.out.cell 10
  have c11 := HBX2.out.cell 11
  have d11 := HBY2.out.cell 11
  have c12 := HBX2.out.cell 12
  have d12 := HBY2.out.cell 12
  have c13 := HBX2.out.cell 13
  have d13 := HBY2.out.cell 13
  simp at c0 d0 c1 d1 c2 d2 c3 d3 c4 d4 c5 d5 c6 d6 c7 d7 c8 d8 c9 d9 c10 d10 c11 d11 c12 d12 c13 d13
  by_cases h : attrs = attrs'
  rotate_left
  · rw [sameGo_ne h]
    have HE : Hid (G = false) := HG.out.symm.trans (sameS_ne (x := ⟨kind, text, place, source, time, type, attrs, pattern, op, dest, broker, number, at_, wth⟩) (y := ⟨kind, text, place, source, time, type, attrs', pattern', op', dest', broker', number', at_', wth'⟩) (by intro e; simp only [StepD.mk.injEq] at e; exact h e.2.2.2.2.2.2.1))
    clear h
    go_wp2_with fail
    go_ret
    exact ⟨ret_bool HE.out.symm, HK2.out⟩
  subst h
  rw [sameGo_self]
  by_cases h : pattern = pattern'
  rotate_left
  · have b : (pattern == pattern') = false := int_ne h
    have HE : Hid (G = false) := HG.out.symm.trans (sameS_ne (x := ⟨kind, text, place, source, time, type, attrs, pattern, op, dest, broker, number, at_, wth⟩) (y := ⟨kind, text, place, source, time, type, attrs, pattern', op', dest', broker', number', at_', wth'⟩) (by intro e; simp only [StepD.mk.injEq] at e; exact h e.2.2.2.2.2.2.2.1))
    clear h
    go_wp2_with fail
    go_ret
    exact ⟨ret_bool HE.out.symm, HK2.out⟩
  subst h
  by_cases h : op = op'
  rotate_left
  · have b : (op == op') = false := int_ne h
    have HE : Hid (G = false) := HG.out.symm.trans (sameS_ne (x := ⟨kind, text, place, source, time, type, attrs, pattern, op, dest, broker, number, at_, wth⟩) (y := ⟨kind, text, place, source, time, type, attrs, pattern, op', dest', broker', number', at_', wth'⟩) (by intro e; simp only [StepD.mk.injEq] at e; exact h e.2.2.2.2.2.2.2.2.1))
    clear h
    go_wp2_with fail
    go_ret
    exact ⟨ret_bool HE.out.symm, HK2.out⟩
  subst h
  by_cases h : dest = dest'
  rotate_left
  · have b : (dest == dest') = false := int_ne h
    have HE : Hid (G = false) := HG.out.symm.trans (sameS_ne (x := ⟨kind, text, place, source, time, type, attrs, pattern, op, dest, broker, number, at_, wth⟩) (y := ⟨kind, text, place, source, time, type, attrs, pattern, op, dest', broker', number', at_', wth'⟩) (by intro e; simp only [StepD.mk.injEq] at e; exact h e.2.2.2.2.2.2.2.2.2.1))
    clear h
    go_wp2_with fail
    go_ret
    exact ⟨ret_bool HE.out.symm, HK2.out⟩
  subst h
  by_cases h : broker = broker'
  rotate_left
  · have b : (broker == broker') = false := int_ne h
    have HE : Hid (G = false) := HG.out.symm.trans (sameS_ne (x := ⟨kind, text, place, source, time, type, attrs, pattern, op, dest, broker, number, at_, wth⟩) (y := ⟨kind, text, place, source, time, type, attrs, pattern, op, dest, broker', number', at_', wth'⟩) (by intro e; simp only [StepD.mk.injEq] at e; exact h e.2.2.2.2.2.2.2.2.2.2.1))
    clear h
    go_wp2_with fail
    go_ret
    exact ⟨ret_bool HE.out.symm, HK2.out⟩
  subst h
  by_cases h : number = number'
  rotate_left
  · have b : (number == number') = false := int_ne h
    have HE : Hid (G = false) := HG.out.symm.trans (sameS_ne (x := ⟨kind, text, place, source, time, type, attrs, pattern, op, dest, broker, number, at_, wth⟩) (y := ⟨kind, text, place, source, time, type, attrs, pattern, op, dest, broker, number', at_', wth'⟩) (by intro e; simp only [StepD.mk.injEq] at e; exact h e.2.2.2.2.2.2.2.2.2.2.2.1))
    clear h
    go_wp2_with fail
    go_ret
    exact ⟨ret_bool HE.out.symm, HK2.out⟩
  subst h
  by_cases h : at_ = at_'
  rotate_left
  · have b : (at_ == at_') = false := int_ne h
    have HE : Hid (G = false) := HG.out.symm.trans (sameS_ne (x := ⟨kind, text, place, source, time, type, attrs, pattern, op, dest, broker, number, at_, wth⟩) (y := ⟨kind, text, place, source, time, type, attrs, pattern, op, dest, broker, number, at_', wth'⟩) (by intro e; simp only [StepD.mk.injEq] at e; exact h e.2.2.2.2.2.2.2.2.2.2.2.2.1))
    clear h
    go_wp2_with fail
    go_ret
    exact ⟨ret_bool HE.out.symm, HK2.out⟩
  subst h
  by_cases h : wth = wth'
  rotate_left
  · have b : (wth == wth') = false := int_ne h
    have HE : Hid (G = false) := HG.out.symm.trans (sameS_ne (x := ⟨kind, text, place, source, time, type, attrs, pattern, op, dest, broker, number, at_, wth⟩) (y := ⟨kind, text, place, source, time, type, attrs, pattern, op, dest, broker, number, at_, wth'⟩) (by intro e; simp only [StepD.mk.injEq] at e; exact h e.2.2.2.2.2.2.2.2.2.2.2.2.2))
    clear h
    go_wp2_with fail
    go_ret
    exact ⟨ret_bool HE.out.symm, HK2.out⟩
  subst h
  have HE : Hid (G = true) := HG.out.symm.trans (sameS_self _)
  go_wp2_with fail
  go_ret
  exact ⟨ret_bool HE.out.symm, HK2.out⟩

end Go.Proofs.YthgenobbpaclhaaDoor

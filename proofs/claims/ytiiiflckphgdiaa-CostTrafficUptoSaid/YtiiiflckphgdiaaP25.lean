/- What comes out of a sequence of two terms is what the document fixes: begun. -/
import Derived.Test.YtiiiflckphgdiaaP24
import Derived.Test.YtiiiflckphgdiaaP15
set_option linter.unusedVariables false
set_option linter.unusedSimpArgs false
set_option linter.unnecessarySimpa false
namespace Go.Proofs.Ytiiiflckphgdiaa
open Go.RowKit Go.Shelf
attribute [local go_sem] Oper.semAt_some

set_option maxHeartbeats 1000000 in
/-- slices.Equal at numbers. -/
theorem eq64_any (k : IntKind) (u v : Value) (xs ys : List Int) (w : World) (hx : RdI w .i64 u xs) (hy : RdI w .i64 v ys) :
    Calls Try.prog 20 #[u, v] w fun e w' => e = .returned (.bool (decide (xs = ys))) ∧ ∃ m, w' = w.drewN m := by
  obtain ⟨A, c, rfl, hmx, hx⟩ := hx
  obtain ⟨B, d, rfl, hmy, hy⟩ := hy
  unfold maxLen at hmx hmy
  by_cases hl : xs.length = ys.length
  · obtain ⟨n, hn⟩ : ∃ n, n = xs.length := ⟨_, rfl⟩
    rw [← hl, ← hn]
    rw [← hn] at hmx hl
    have HN := Lib.hid hn
    have HL := Lib.hid hl
    clear hn hl
    have hb : ((n : Int) != (n : Int)) = false := by simp
    have HE : Hid (∀ W : World, (∀ j, j < n → xs[j]? = ys[j]?) → xs = ys) := fun W h => by
      apply List.ext_getElem?
      intro j
      rcases Nat.lt_or_ge j n with h0 | h0
      · exact h j h0
      · have h1 := HN.out; have h2 := HL.out
        rw [List.getElem?_eq_none (by omega), List.getElem?_eq_none (by omega)]
    go_enter Try.func20, Try.ntmps20
    go_wp2
    go_loopw [13] (fun i wr => ∃ (j m : Nat), j ≤ n ∧ i = .int .i64 j ∧ wr = w.drewN m ∧ ∀ q, q < j → xs[q]? = ys[q]?) (fun i _ => n - (intOf i).toNat)
    case atStart => exact ⟨0, 0, Nat.zero_le _, rfl, rfl, fun q hq => absurd hq (by omega)⟩
    case round =>
      obtain ⟨j, m, hj, rfl, rfl, hE⟩ := hrel
      have HQ := Lib.hid hE
      clear hE
      by_cases hlt : j < n
      · have hjx : j < xs.length := by have := HN.out; omega
        have hjy : j < ys.length := by have := HN.out; have := HL.out; omega
        obtain ⟨b1, o1, rfl, hc1⟩ := hx (by intro e; subst e; simp at hjx)
        obtain ⟨b2, o2, rfl, hc2⟩ := hy (by intro e; subst e; simp at hjy)
        have e1 := hc1 j _ (List.getElem?_eq_getElem hjx)
        have e2 := hc2 j _ (List.getElem?_eq_getElem hjy)
        have HC1 := Lib.hid hc1
        have HC2 := Lib.hid hc2
        clear hc1 hc2 hx hy
        obtain ⟨x, hx⟩ : ∃ x, x = xs[j] := ⟨_, rfl⟩
        obtain ⟨y, hy⟩ : ∃ y, y = ys[j] := ⟨_, rfl⟩
        rw [← hx] at e1
        rw [← hy] at e2
        have HX : Hid (x = xs[j]) := hx
        have HY : Hid (y = ys[j]) := hy
        clear hx hy
        by_cases hxy : x = y
        · have hne : (x != y) = false := by simp [hxy]
          have HXY := Lib.hid hxy
          clear hxy
          go_wp2_with fail
          go_quiet (fail)
          go_wp2
          go_roundw
          case rel => exact ⟨j + 1, m + nq, by omega, by go_num, by first | rfl | rw [World.drewN_drewN], fun q hq => by
            rcases Nat.lt_succ_iff_lt_or_eq.1 hq with h | rfl
            · exact HQ.out q h
            · rw [List.getElem?_eq_getElem hjx, List.getElem?_eq_getElem hjy, ← HX.out, ← HY.out, HXY.out]⟩
          case measure => simp [intOf]; omega
        · have hne : (x != y) = true := by simp [hxy]
          have HXY := Lib.hid hxy
          clear hxy
          go_wp2_with fail
          go_quiet (fail)
          go_wp2
          go_ret
          refine ⟨ret_bool ?_, m + nq, by first | rfl | rw [World.drewN_drewN]⟩
          symm
          simp only [decide_eq_false_iff_not]
          intro e
          subst e
          exact HXY.out (by rw [HX.out, HY.out])
      · go_wp2
        go_ret
        refine ⟨ret_bool ?_, _, rfl⟩
        symm
        simp only [decide_eq_true_eq]
        exact HE.out w (fun q hq => HQ.out q (by omega))
  · have hne : ((xs.length : Int) != (ys.length : Int)) = true := by simp; omega
    have HL := Lib.hid hl
    clear hl
    go_enter Try.func20, Try.ntmps20
    go_wp2
    go_ret
    refine ⟨ret_bool ?_, 0, rfl⟩
    symm
    simp only [decide_eq_false_iff_not]
    intro e
    exact HL.out (by rw [e])



theorem RdI.built (W : World) (l : List Int) (t : TypeId) (k : IntKind) (hl : l.length ≤ 100) (g : Nat) (hg : g = W.heap.size) : RdI (W.alloc (.cells (l.map (Value.int k)).toArray t)) k (.slice (some ⟨g, 0, none⟩) l.length l.length) l := by
  subst hg
  refine ⟨_, _, rfl, by unfold maxLen; omega, fun _ => ⟨W.heap.size, 0, rfl, fun i x hx => ?_⟩⟩
  rw [Nat.zero_add, (Blk.new W (l.map (Value.int k)).toArray t).cell i]
  simp [hx]

theorem term_any (v t : ByteArray) (w : World) : Calls Try.prog 33 #[.string v, .string t] w fun e w' => e = .returned (leafV v t) ∧ Kept [] w w' := by
  go_enter Try.func33, Try.ntmps33
  go_wp2
  refine bodyPost_ret (res_c rfl _ _ w.heap.size 66 #[.int .i64 1, .string v, .string t, .slice none 0 0, .slice none 0 0] _ rfl ?_ Try.underlying66 rfl (by kernel_rfl)) rfl ?_
  · exact Blk.new w _ _
  · exact ⟨rfl, (Kept.refl [] w).alloc _⟩
abbrev begunX : PlanD := (begunO.map bareD, begunF)
theorem begun_plan : planV begunX = true := by kernel_rfl
theorem begun_even : evenE begunX 2 = 0 := by kernel_rfl
theorem begun_rates : evenV begunX 2 = ([1024, 1024], ([1024, 1024, 1024, 1024], [1024, 1024, 1024, 1024])) := by kernel_rfl
abbrev begunR : RatesD := ([1024, 1024], ([1024, 1024, 1024, 1024], [1024, 1024, 1024, 1024]))
theorem begun_check : checkE begunX begunR = 0 := by kernel_rfl
theorem begun_out : outV begunX begunR = [2048, 2048, 4096, 4096] := by kernel_rfl
theorem begun_top : mulV [4611686018427387904, 3] = 9223372036854775807 := by kernel_rfl
def BegunPost (w : World) : Ending → World → Prop := fun e w' => e = .returned (.bool true) ∧ Kept [] w w'
set_option maxRecDepth 100000 in
set_option maxHeartbeats 4000000 in
theorem begun_any (w : World) : Calls Try.prog 9 #[] w (BegunPost w) := by
  go_enter Try.func9, Try.ntmps9
  go_wp2_with fail
  refine (term_any _ _ _).mono ?_
  rintro e w1 ⟨rfl, hk1⟩
  have HK1 := Lib.hid hk1
  clear hk1
  go_wp2_with fail
  refine (term_any _ _ _).mono ?_
  rintro e w2 ⟨rfl, hk2⟩
  have HK2 := Lib.hid (HK1.out.trans hk2)
  clear hk2
  go_wp2_with fail
  refine (of_two _ _ (Blk.new w2 _ _)).mono ?_
  rintro e w3 ⟨ov, fv, rfl, ho3, hf3, hk3⟩
  have HK3 : Hid (Kept [] w w3) := (HK2.out.alloc _).trans hk3
  obtain ⟨OA, oc, rfl⟩ : ∃ A c, ov = .slice A 4 c := by obtain ⟨A, c, h, _⟩ := ho3.form; exact ⟨A, c, h⟩
  obtain ⟨FA, fc, rfl⟩ : ∃ A c, fv = .slice A 4 c := by obtain ⟨A, c, h, _⟩ := hf3.form; exact ⟨A, c, h⟩
  have HO3 := Lib.hid ho3
  have HF3 := Lib.hid hf3
  have HB3 := Lib.hid (Blk.new w3 #[.slice OA 4 oc, .slice FA 4 fc] 30)
  clear hk3 ho3 hf3
  go_wp2_with fail
  obtain ⟨w4, hw4⟩ : ∃ w4, w3.alloc (.cells #[.slice OA 4 oc, .slice FA 4 fc] 30) = w4 := ⟨_, rfl⟩
  have HK4 : Hid (Kept [] w3 w4) := by
    show Kept [] w3 w4
    rw [← hw4]
    exact (Kept.refl [] w3).alloc _
  rw [hw4] at HB3 ⊢
  clear hw4
  have HE : Hid (Calls Try.prog 18 #[.agg #[.slice OA 4 oc, .slice FA 4 fc], .int .i64 2] w4 (EvenPost w4 0 begunR)) := even_any _ _ begunX 2 w4 (HO3.out.keep HK4.out) (HF3.out.keep HK4.out) (by decide)
  refine HE.out.mono ?_
  rintro e w5 ⟨sv, tv, pv, rfl, hs5, ht5, hp5, hk5⟩
  obtain ⟨SA, sc, rfl⟩ : ∃ A c, sv = .slice A 2 c := by obtain ⟨A, c, h, _⟩ := hs5; exact ⟨A, c, h⟩
  obtain ⟨TA, tc, rfl⟩ : ∃ A c, tv = .slice A 4 c := by obtain ⟨A, c, h, _⟩ := ht5; exact ⟨A, c, h⟩
  obtain ⟨PA', pc, rfl⟩ : ∃ A c, pv = .slice A 4 c := by obtain ⟨A, c, h, _⟩ := hp5; exact ⟨A, c, h⟩
  have HK5 := Lib.hid (HK4.out.trans hk5)
  have HB5 := Lib.hid (HB3.out.kept hk5 (by simp))
  have HS5 := Lib.hid hs5
  have HT5 := Lib.hid ht5
  have HP5 := Lib.hid hp5
  clear hk5 hs5 ht5 hp5
  have b0 := (HB5.out.alloc (.cells #[.slice SA 2 sc, .slice TA 4 tc, .slice PA' 4 pc] 32)).cell 0
  have b1 := (HB5.out.alloc (.cells #[.slice SA 2 sc, .slice TA 4 tc, .slice PA' 4 pc] 32)).cell 1
  simp at b0 b1
  go_wp2_with fail
  have HO : Hid (Calls Try.prog 14 #[.agg #[.slice OA 4 oc, .slice FA 4 fc], .agg #[.slice SA 2 sc, .slice TA 4 tc, .slice PA' 4 pc]] (w5.alloc (.cells #[.slice SA 2 sc, .slice TA 4 tc, .slice PA' 4 pc] 32)) (OutsPost (w5.alloc (.cells #[.slice SA 2 sc, .slice TA 4 tc, .slice PA' 4 pc] 32)) 0 [2048, 2048, 4096, 4096])) := by
    have hk : Kept [] w5 (w5.alloc (.cells #[.slice SA 2 sc, .slice TA 4 tc, .slice PA' 4 pc] 32)) := (Kept.refl [] w5).alloc _
    have := out_any (.slice OA 4 oc) (.slice FA 4 fc) (.slice SA 2 sc) (.slice TA 4 tc) (.slice PA' 4 pc) begunX begunR _ (HO3.out.keep (HK5.out.trans hk)) (HF3.out.keep (HK5.out.trans hk)) (by decide) (HS5.out.keep hk) (HT5.out.keep hk) (HP5.out.keep hk)
    rwa [begun_check, if_pos rfl, begun_out] at this
  refine HO.out.mono ?_
  rintro e w6 ⟨lv, rfl, ho6, hk6⟩
  have HR6 := Lib.hid (RdI.of_own ho6).1
  have HK6 : Hid (Kept [] w w6) := ((HK3.out.trans HK5.out).alloc _).trans hk6
  clear ho6 hk6
  have HEQ : Hid (∀ g, g = w6.heap.size → Calls Try.prog 20 #[lv, .slice (some ⟨g, 0, none⟩) 4 4] (w6.alloc (.cells #[.int .i64 2048, .int .i64 2048, .int .i64 4096, .int .i64 4096] 2)) fun e w' => e = .returned (.bool true) ∧ ∃ m, w' = (w6.alloc (.cells #[.int .i64 2048, .int .i64 2048, .int .i64 4096, .int .i64 4096] 2)).drewN m) := fun g hg => by
    have := eq64_any .i64 lv (.slice (some ⟨g, 0, none⟩) 4 4) [2048, 2048, 4096, 4096] [2048, 2048, 4096, 4096] _ (HR6.out.keep ((Kept.refl [] w6).alloc _)) (RdI.built w6 [2048, 2048, 4096, 4096] 2 .i64 (by decide) g hg)
    rwa [decide_eq_true rfl] at this
  go_wp2_with fail
  refine (HEQ.out _ rfl).mono ?_
  rintro e w7 ⟨rfl, m, rfl⟩
  obtain ⟨w7, hw7⟩ : ∃ w7, (w6.alloc (.cells #[.int .i64 2048, .int .i64 2048, .int .i64 4096, .int .i64 4096] 2)).drewN m = w7 := ⟨_, rfl⟩
  have HK7 : Hid (Kept [] w w7) := by
    show Kept [] w w7
    rw [← hw7]
    exact (HK6.out.alloc _).drewN m
  rw [hw7]
  clear hw7
  have HM : Hid (∀ g, g = w7.heap.size → Calls Try.prog 12 #[.slice (some ⟨g, 0, none⟩) 2 2] (w7.alloc (.cells #[.int .i64 4611686018427387904, .int .i64 3] 2)) fun e w' => e = .returned (.int .i64 TOP) ∧ w7.alloc (.cells #[.int .i64 4611686018427387904, .int .i64 3] 2) = w') := fun g hg => by
    have := mul_any (.slice (some ⟨g, 0, none⟩) 2 2) [4611686018427387904, 3] _ (RdI.built w7 [4611686018427387904, 3] 2 .i64 (by decide) g hg)
    rwa [begun_top] at this
  go_wp2_with fail
  refine (HM.out _ rfl).mono ?_
  rintro e w8 ⟨rfl, rfl⟩
  unfold TOP
  go_wp2_with fail
  go_ret
  exact ⟨rfl, HK7.out.alloc _⟩
end Go.Proofs.Ytiiiflckphgdiaa

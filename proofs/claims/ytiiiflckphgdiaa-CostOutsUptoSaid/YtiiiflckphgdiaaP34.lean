/- Rates that are the same for all: the document's Even; whether rates are the same. -/
import Derived.Test.YtiiiflckphgdiaaP33
import Derived.Test.YtiiiflckphgdiaaP28
set_option linter.unusedVariables false
set_option linter.unusedSimpArgs false
set_option linter.unnecessarySimpa false
namespace Go.Proofs.Ytiiiflckphgdiaa
open Go.RowKit Go.Shelf
attribute [local go_sem] Oper.semAt_some

abbrev nil3' : Array Value := #[.slice none 0 0, .slice none 0 0, .slice none 0 0]
theorem ks_snoc (k : Nat) : (Ks (k + 1)).map (Value.int .i64) = (Ks k).map (.int .i64) ++ [.int .i64 1024] := by
  unfold Ks
  rw [List.replicate_succ', List.map_append]
  rfl
theorem ks_len (k : Nat) : (Ks k).length = k := by unfold Ks; simp
theorem Blk.three {w : World} {b : Nat} {x y z : Value} {t : TypeId} (h : Blk w b #[x, y, z] t) : w.cell? ⟨b, 0, none⟩ = some x ∧ w.cell? ⟨b, 1, none⟩ = some y ∧ w.cell? ⟨b, 2, none⟩ = some z ∧ w.frozen? ⟨b, 0, none⟩ = false ∧ w.frozen? ⟨b, 1, none⟩ = false ∧ w.frozen? ⟨b, 2, none⟩ = false ∧ b < w.heap.size :=
  ⟨(h.cell 0).trans rfl, (h.cell 1).trans rfl, (h.cell 2).trans rfl, h.free 0, h.free 1, h.free 2, h.lt⟩
/-- A row of the call's own after a store elsewhere. -/
theorem own_setOf {w : World} {B b i : Nat} {e : TypeId} {z n : Nat} {v : Value} {xs : List Value} (hb : b < B) (h : w.ownsRow B e z v n xs) (u : Value) : (w.setCell ⟨b, i, none⟩ u).ownsRow B e z v n xs := own_set hb h u
/-- Apart: no block is both's. -/
def Apart (u v : Value) : Prop := ∀ b, u.ownBlock = some b → v.ownBlock ≠ some b
theorem own_grownA {w w' : World} {B : Nat} {e : TypeId} {z n : Nat} {u v : Value} {xs : List Value} (h : w.ownsRow B e z u n xs) (ha : Apart u v) (hg : w.grownBy w' v.ownBlock) : w'.ownsRow B e z u n xs :=
  ownsRow_keep h (grown_kept hg) (fun b hb hm => ha b hb (by simpa using hm))
theorem Apart.symm {u v : Value} (h : Apart u v) : Apart v u := fun b hb hc => h b hc hb
theorem Apart.nil (v : Value) : Apart (.slice none 0 0) v := fun b hb => by cases hb
theorem Apart.next {w : World} {B : Nat} {e : TypeId} {z n : Nat} {u v v' : Value} {xs : List Value} {H : Nat} (h : Apart u v) (ho : w.ownsRow B e z u n xs) (hH : w.heap.size ≤ H) (hv : v'.ownBlock = v.ownBlock ∨ v'.ownBlock = some H) : Apart u v' := fun b hb hc => by
  rcases hv with hv | hv
  · rw [hv] at hc; exact h b hb hc
  · rw [hv] at hc
    injection hc with hc
    have := (ho.lt b hb).2
    omega

set_option maxRecDepth 100000 in
set_option maxHeartbeats 4000000 in
theorem reven_any (ov fv : Value) (x : PlanD) (s : Int) (w : World) (ho : Rds opR w ov x.1) (hf : Rds intsR w fv x.2) (hF : fromLen x.2 ≤ 1048576) :
    Calls Try.prog 19 #[.agg #[ov, fv], .int .i64 s] w (EvenPost w (evenE x s) (evenV x s)) := by
  obtain ⟨i0, hi0, hz0, hz1, hz2⟩ := info_parts info64
  have HPC := Lib.hid (fun (W : World) (hk : Kept [] w W) => rplan_any ov fv x W (ho.keep hk) (hf.keep hk) hF)
  obtain ⟨A, c, rfl, hmA⟩ := ho.form
  obtain ⟨B, d, rfl, hmB⟩ := hf.form
  obtain ⟨E, hE⟩ : ∃ E, evenE x s = E := ⟨_, rfl⟩
  obtain ⟨R, hR⟩ : ∃ R, evenV x s = R := ⟨_, rfl⟩
  rw [hE, hR]
  rw [evenV, hE] at hR
  obtain ⟨n, hn⟩ : ∃ n, x.1.length = n := ⟨_, rfl⟩
  obtain ⟨m, hm⟩ : ∃ m, x.2.length = m := ⟨_, rfl⟩
  obtain ⟨g, hg⟩ : ∃ g, planV x = g := ⟨_, rfl⟩
  have hpl : g = true → 2 ≤ n ∧ n ≤ 32 := fun h => by
    have := plan_place (hg.trans h)
    rw [hn] at this
    exact ⟨this.1, this.2.1⟩
  unfold evenE at hE
  rw [hg] at hE HPC
  rw [hn] at hR hmA HPC ⊢
  rw [hm] at hmB HPC ⊢
  have HR := Lib.hid hR
  have HE := Lib.hid hE
  clear hF ho hf hn hm hg hE hR
  have HK0 := Lib.hid (((Kept.refl [] w).alloc (.cells #[.slice A n c, .slice B m d] 30)).alloc (.cells #[.slice none 0 0, .slice none 0 0, .slice none 0 0] 32))
  have HB0 : Hid (Blk ((w.alloc (.cells #[.slice A n c, .slice B m d] 30)).alloc (.cells #[.slice none 0 0, .slice none 0 0, .slice none 0 0] 32)) w.heap.size #[.slice A n c, .slice B m d] 30) := (Blk.new w _ _).alloc _
  have HB1 : Hid (Blk ((w.alloc (.cells #[.slice A n c, .slice B m d] 30)).alloc (.cells #[.slice none 0 0, .slice none 0 0, .slice none 0 0] 32)) (w.heap.size + 1) #[.slice none 0 0, .slice none 0 0, .slice none 0 0] 32) := by
    have := Blk.new (w.alloc (.cells #[.slice A n c, .slice B m d] 30)) #[.slice none 0 0, .slice none 0 0, .slice none 0 0] 32
    rwa [show (w.alloc (.cells #[.slice A n c, .slice B m d] 30)).heap.size = w.heap.size + 1 by simp] at this
  go_enter Try.func19, Try.ntmps19
  go_wp2_with fail
  refine (HPC.out _ HK0.out).mono ?_
  rintro e w1 ⟨rfl, hk1⟩
  have HK1 := Lib.hid (HK0.out.trans hk1)
  have p0 := (HB0.out.kept hk1 (by simp)).cell 0
  have s0 := (HB1.out.kept hk1 (by simp)).cell 0
  have s1 := (HB1.out.kept hk1 (by simp)).cell 1
  have s2 := (HB1.out.kept hk1 (by simp)).cell 2
  have f0 := (HB1.out.kept hk1 (by simp)).free 0
  have f1 := (HB1.out.kept hk1 (by simp)).free 1
  have f2 := (HB1.out.kept hk1 (by simp)).free 2
  have HBR := Lib.hid (HB1.out.kept hk1 (by simp))
  have HBP := Lib.hid (HB0.out.kept hk1 (by simp))
  simp at p0 s0 s1 s2
  clear hk1
  cases g with
  | false =>
    rw [show errPlan false = 150 from rfl]
    have hE : Hid (E = 150) := HE.out.symm
    go_wp2_with fail
    refine bodyPost_ret (res_ct rfl _ _ (w.heap.size + 1) 32 #[.slice none 0 0, .slice none 0 0, .slice none 0 0] _ rfl (HBR.out.set3 _ _ _) Try.underlying32 rfl (by kernel_rfl)) rfl ?_
    have hR0 := HR.out
    rw [hE.out] at hR0
    subst hR0
    rw [hE.out]
    exact ⟨_, _, _, rfl, RdI.nil _, RdI.nil _, RdI.nil _, HK1.out.set3 (.inr (by omega)) _ _ _⟩
  | true =>
    rw [show errPlan true = 0 from rfl]
    obtain ⟨hn2, hn32⟩ := hpl rfl
    by_cases h1 : s < 1
    · have hE : Hid (E = 1) := by show _ = _; rw [← HE.out, if_pos rfl, if_pos (.inl h1)]
      go_wp2_with fail
      refine bodyPost_ret (res_ct rfl _ _ (w.heap.size + 1) 32 #[.slice none 0 0, .slice none 0 0, .slice none 0 0] _ rfl (HBR.out.set3 _ _ _) Try.underlying32 rfl (by kernel_rfl)) rfl ?_
      have hR0 := HR.out
      rw [hE.out] at hR0
      subst hR0
      rw [hE.out]
      exact ⟨_, _, _, rfl, RdI.nil _, RdI.nil _, RdI.nil _, HK1.out.set3 (.inr (by omega)) _ _ _⟩
    · by_cases h2 : 12 < s
      · have hE : Hid (E = 1) := by show _ = _; rw [← HE.out, if_pos rfl, if_pos (.inr h2)]
        go_wp2_with fail
        refine bodyPost_ret (res_ct rfl _ _ (w.heap.size + 1) 32 #[.slice none 0 0, .slice none 0 0, .slice none 0 0] _ rfl (HBR.out.set3 _ _ _) Try.underlying32 rfl (by kernel_rfl)) rfl ?_
        have hR0 := HR.out
        rw [hE.out] at hR0
        subst hR0
        rw [hE.out]
        exact ⟨_, _, _, rfl, RdI.nil _, RdI.nil _, RdI.nil _, HK1.out.set3 (.inr (by omega)) _ _ _⟩
      · obtain ⟨q, rfl⟩ : ∃ q : Nat, s = q := ⟨s.toNat, by omega⟩
        have hE : Hid (E = 0) := by show _ = _; rw [← HE.out, if_pos rfl, if_neg (by omega)]
        have hR0 := HR.out
        rw [hE.out, if_pos rfl, Int.toNat_natCast] at hR0
        subst hR0
        have hq12 : q ≤ 12 := by omega
        have HVB := Lib.hid (Blk.new w1 nil3' 32)
        go_wp2_with fail
        obtain ⟨w2, hw2⟩ : ∃ w2, w1.alloc (.cells nil3' 32) = w2 := ⟨_, rfl⟩
        obtain ⟨vb, hvb⟩ : ∃ vb, w1.heap.size = vb := ⟨_, rfl⟩
        have HKV : Hid (Kept [] w1 w2) := by
          show Kept [] w1 w2
          rw [← hw2]
          exact (Kept.refl [] w1).alloc _
        rw [hw2, hvb] at HVB
        have hs2 : w2.heap.size = vb + 1 := by rw [← hw2, ← hvb]; simp
        have hrv : w.heap.size + 1 < vb := by rw [← hvb]; exact HBR.out.lt
        have HW2 := Lib.hid hw2
        have HV0 := Lib.hid hvb
        clear hw2 hvb hE s0 s1 s2 f0 f1 f2
        rw [HW2.out, HV0.out]
        go_loopw [8] (fun ii wr => ∃ (k : Nat) (v : Value), k ≤ q ∧ ii = .int .i64 k ∧ Blk wr vb #[v, .slice none 0 0, .slice none 0 0] 32 ∧ wr.ownsRow (vb + 1) 2 1 v k ((Ks k).map (.int .i64)) ∧ Kept [] w1 wr) (fun ii _ => q - (intOf ii).toNat)
        case atStart => exact ⟨0, _, by omega, rfl, HVB.out, World.ownsRow_nil _ _ _ _, HKV.out⟩
        case round =>
          obtain ⟨k, v, hk, rfl, hb, hown, hK⟩ := hrel
          obtain ⟨VA, vc, rfl⟩ := own_len hown
          obtain ⟨b0, b1, b2, z0, z1, z2, bl⟩ := hb.three
          have HB := Lib.hid hb
          have HOWN := Lib.hid hown
          have HK := Lib.hid hK
          clear hb hown hK
          by_cases hlt : k < q
          · go_wp2_with (at_builtin; refine wpList_append_own_at _ rfl _ _ 22 rfl (vb + 1) 2 i0 (.int .i64 0) 1 8 Try.underlying22 hi0 hz0 hz1 hz2 rfl (by decide) _ k _ rfl (HOWN.out.alloc _) ⟨wr.heap.size, 0, none⟩ 1 1 [.int .i64 1024] rfl rfl (cell_one_at _ _ _ _ rfl) (by simp [Value.oneCell']) (by unfold maxLen; omega) (by omega) (by simp; omega) ?_)
            intro v7 w7 hown7 hgrow7 _ hat7
            have hb7 := (HB.out.alloc (.cells #[.int .i64 1024] 2)).grown hgrow7 (own_ne (Nat.lt_succ_self vb) HOWN.out)
            obtain ⟨VB, vd, rfl⟩ := own_len hown7
            obtain ⟨c0, c1, c2, y0, y1, y2, cl⟩ := hb7.three
            have HB7 := Lib.hid hb7
            have HOWN7 : Hid (w7.ownsRow (vb + 1) 2 1 (.slice VB (k + 1) vd) (k + 1) ((Ks (k + 1)).map (.int .i64))) := by
              show w7.ownsRow _ _ _ _ _ _
              rw [ks_snoc]
              exact hown7
            have HK7 : Hid (Kept [] w1 w7) := Kept.grown (S := []) (HK.out.alloc _) hgrow7 (fun y hy => .inr (by have := (HOWN.out.lt y hy).1; have := HV0.out; omega))
            clear hown7 hgrow7 hat7 hb7 b0 b1 b2 z0 z1 z2 bl
            go_wp2_with fail
            go_roundw
            case rel => exact ⟨k + 1, .slice VB (k + 1) vd, by omega, by go_num, by have := HB7.out.set 0 (.slice VB (k + 1) vd); simpa using this, own_setOf (Nat.lt_succ_self vb) HOWN7.out _, HK7.out.setCell (.inr (by have := HV0.out; dsimp only; omega)) _⟩
            case measure => simp [intOf]; omega
          · obtain rfl : q = k := by omega
            obtain ⟨w5, rfl⟩ : ∃ w5, w5 = wr := ⟨_, rfl⟩
            have HP5 := Lib.hid (HBP.out.kept HK.out (by simp))
            have q0 := HP5.out.cell 0
            simp at q0
            clear hlt
            go_wp2_with fail
            go_loopw [9] (fun ii wr => ∃ (k : Nat) (u v : Value), k ≤ n ∧ ii = .int .i64 k ∧ Blk wr vb #[.slice VA q vc, u, v] 32 ∧ wr.ownsRow (vb + 1) 2 1 (.slice VA q vc) q ((Ks q).map (.int .i64)) ∧ wr.ownsRow (vb + 1) 2 1 u k ((Ks k).map (.int .i64)) ∧ wr.ownsRow (vb + 1) 2 1 v k ((Ks k).map (.int .i64)) ∧ Apart (.slice VA q vc) u ∧ Apart (.slice VA q vc) v ∧ Apart u v ∧ Kept [] w1 wr) (fun ii _ => n - (intOf ii).toNat)
            case atStart => exact ⟨0, _, _, by omega, rfl, HB.out, HOWN.out, World.ownsRow_nil _ _ _ _, World.ownsRow_nil _ _ _ _, (Apart.nil _).symm, (Apart.nil _).symm, Apart.nil _, HK.out⟩
            case round =>
              obtain ⟨k, u, v, hk, rfl, hb, hown1, hown2, hown3, ha1, ha2, ha3, hK⟩ := hrel
              obtain ⟨UA, uc, rfl⟩ := own_len hown2
              obtain ⟨TA, tc, rfl⟩ := own_len hown3
              obtain ⟨b0, b1, b2, z0, z1, z2, bl⟩ := hb.three
              have HB := Lib.hid hb
              have HO1 := Lib.hid hown1
              have HO2 := Lib.hid hown2
              have HO3 := Lib.hid hown3
              have HA1 := Lib.hid ha1
              have HA2 := Lib.hid ha2
              have HA3 := Lib.hid ha3
              have HK6 := Lib.hid hK
              have hp := HBP.out.kept hK (by simp)
              have q0 := hp.cell 0
              simp at q0
              clear hb hown1 hown2 hown3 ha1 ha2 ha3 hK hp
              by_cases hlt : k < n
              · go_wp2_with (at_builtin; refine wpList_append_own_at _ rfl (.tmp 41) (.tmp 42) 22 rfl (vb + 1) 2 i0 (.int .i64 0) 1 8 Try.underlying22 hi0 hz0 hz1 hz2 rfl (by decide) _ k _ rfl (HO2.out.alloc _) ⟨wr.heap.size, 0, none⟩ 1 1 [.int .i64 1024] rfl rfl (cell_one_at _ _ _ _ rfl) (by simp [Value.oneCell']) (by unfold maxLen; omega) (by omega) (by simp; omega) ?_)
                intro v7 w7 hown7 hgrow7 _ hat7
                have hs7 := hgrow7.size
                simp at hs7
                have hb7 := (HB.out.alloc (.cells #[.int .i64 1024] 2)).grown hgrow7 (own_ne (Nat.lt_succ_self vb) HO2.out)
                obtain ⟨VB, vd, rfl⟩ := own_len hown7
                obtain ⟨c0, c1, c2, y0, y1, y2, cl⟩ := hb7.three
                have HB7 : Hid (Blk (w7.setCell ⟨vb, 1, none⟩ (.slice VB (k + 1) vd)) vb #[.slice VA q vc, .slice VB (k + 1) vd, .slice TA k tc] 32) := by
                  have := hb7.set 1 (.slice VB (k + 1) vd)
                  show Blk _ _ _ _
                  simpa using this
                have HA37 := Lib.hid (Apart.next (H := wr.heap.size + 1) HA3.out.symm (HO3.out.alloc (.cells #[.int .i64 1024] 2)) (by simp) hat7)
                have HA17 := Lib.hid (Apart.next (H := wr.heap.size + 1) HA1.out (HO1.out.alloc (.cells #[.int .i64 1024] 2)) (by simp) hat7)
                have HO27 : Hid ((w7.setCell ⟨vb, 1, none⟩ (.slice VB (k + 1) vd)).ownsRow (vb + 1) 2 1 (.slice VB (k + 1) vd) (k + 1) ((Ks (k + 1)).map (.int .i64))) := by
                  show (w7.setCell _ _).ownsRow _ _ _ _ _ _
                  rw [ks_snoc]
                  exact own_setOf (Nat.lt_succ_self vb) hown7 _
                have HO17 := Lib.hid (own_setOf (b := vb) (i := 1) (Nat.lt_succ_self vb) (own_grownA (HO1.out.alloc _) HA1.out hgrow7) (.slice VB (k + 1) vd))
                have HO37 := Lib.hid (own_setOf (b := vb) (i := 1) (Nat.lt_succ_self vb) (own_grownA (HO3.out.alloc _) HA3.out.symm hgrow7) (.slice VB (k + 1) vd))
                have HK7 : Hid (Kept [] w1 (w7.setCell ⟨vb, 1, none⟩ (.slice VB (k + 1) vd))) := (Kept.grown (S := []) (HK6.out.alloc _) hgrow7 (fun y hy => .inr (by have := (HO2.out.lt y hy).1; have := HV0.out; omega))).setCell (.inr (by have := HV0.out; dsimp only; omega)) _
                clear hown7 hgrow7 hat7 hb7 b0 b1 b2 z0 z1 z2 bl
                go_wp2_with (at_builtin; refine wpList_append_own_at _ rfl (.tmp 46) (.tmp 47) 22 rfl (vb + 1) 2 i0 (.int .i64 0) 1 8 Try.underlying22 hi0 hz0 hz1 hz2 rfl (by decide) _ k _ rfl (HO37.out.alloc _) ⟨w7.heap.size, 0, none⟩ 1 1 [.int .i64 1024] rfl rfl (cell_one_at _ _ _ _ (by simp)) (by simp [Value.oneCell']) (by unfold maxLen; omega) (by omega) (by simp; omega) ?_)
                intro v9 w9 hown9 hgrow9 _ hat9
                have hb9 := (HB7.out.alloc (.cells #[.int .i64 1024] 2)).grown hgrow9 (own_ne (Nat.lt_succ_self vb) HO37.out)
                obtain ⟨TB, td, rfl⟩ := own_len hown9
                obtain ⟨d0, d1, d2, x0, x1, x2, dl⟩ := hb9.three
                have HB9 := Lib.hid hb9
                have HA39 := Lib.hid (Apart.next (H := w7.heap.size + 1) (v' := .slice TB (k + 1) td) HA37.out.symm (HO27.out.alloc (.cells #[.int .i64 1024] 2)) (by simp) hat9)
                have HA19 := Lib.hid (Apart.next (H := w7.heap.size + 1) (v' := .slice TB (k + 1) td) HA2.out (HO17.out.alloc (.cells #[.int .i64 1024] 2)) (by simp) hat9)
                have HO39 : Hid (w9.ownsRow (vb + 1) 2 1 (.slice TB (k + 1) td) (k + 1) ((Ks (k + 1)).map (.int .i64))) := by
                  show w9.ownsRow _ _ _ _ _ _
                  rw [ks_snoc]
                  exact hown9
                have HO19 := Lib.hid (own_grownA (HO17.out.alloc _) HA2.out hgrow9)
                have HO29 := Lib.hid (own_grownA (HO27.out.alloc _) HA37.out.symm hgrow9)
                have HK9 : Hid (Kept [] w1 w9) := Kept.grown (S := []) (HK7.out.alloc _) hgrow9 (fun y hy => .inr (by have := (HO37.out.lt y hy).1; have := HV0.out; omega))
                clear hown9 hgrow9 hat9 hb9 c0 c1 c2 y0 y1 y2 cl
                go_wp2_with fail
                go_roundw
                case rel =>
                  refine ⟨k + 1, .slice VB (k + 1) vd, .slice TB (k + 1) td, by omega, by go_num, ?_, own_setOf (Nat.lt_succ_self vb) HO19.out _, own_setOf (Nat.lt_succ_self vb) HO29.out _, own_setOf (Nat.lt_succ_self vb) HO39.out _, HA17.out, HA19.out, HA39.out, HK9.out.setCell (.inr (by have := HV0.out; dsimp only; omega)) _⟩
                  have := HB9.out.set 2 (.slice TB (k + 1) td)
                  simpa using this
                case measure => simp [intOf]; omega
              · obtain rfl : n = k := by omega
                have HRR := Lib.hid (HBR.out.kept HK6.out (by simp))
                obtain ⟨r0, r1, r2, rz0, rz1, rz2, rl⟩ := HRR.out.three
                clear hlt
                go_wp2_with fail
                have hE : Hid (E = 0) := by show _ = _; rw [← HE.out]; simp; omega
                have HBS := Lib.hid (Kept.set3 (S := [w.heap.size + 1]) (b := w.heap.size + 1) ((Kept.refl [] wr).nil (S := [w.heap.size + 1])) (.inl (by simp)))
                have key : ∀ {k : Nat} {v : Value}, wr.ownsRow (vb + 1) 2 1 v k ((Ks k).map (.int .i64)) → RdI (((wr.setCell ⟨w.heap.size + 1, 0, none⟩ (.slice VA q vc)).setCell ⟨w.heap.size + 1, 1, none⟩ (.slice UA n uc)).setCell ⟨w.heap.size + 1, 2, none⟩ (.slice TA n tc)) .i64 v (Ks k) := fun ho => RdI.kept (RdI.of_own ho).1 (HBS.out _ _ _) (fun b hb hm => by
                  have := (ho.lt b hb).1
                  simp at hm
                  omega)
                refine bodyPost_ret (res_ct rfl _ _ (w.heap.size + 1) 32 _ _ rfl (HRR.out.set3 _ _ _) Try.underlying32 rfl (by kernel_rfl)) rfl ?_
                rw [hE.out]
                exact ⟨_, _, _, rfl, key HO1.out, key HO2.out, key HO3.out, (HK1.out.trans HK6.out).set3 (.inr (by omega)) _ _ _⟩

set_option maxRecDepth 100000 in
set_option maxHeartbeats 2000000 in
/-- same: rates are the same. -/
theorem same_any (a b c d e f : Value) (r s : RatesD) (w : World) (h1 : RdI w .i64 a r.1) (h2 : RdI w .i64 b r.2.1) (h3 : RdI w .i64 c r.2.2) (g1 : RdI w .i64 d s.1) (g2 : RdI w .i64 e s.2.1) (g3 : RdI w .i64 f s.2.2) (hrs : r = s) :
    Calls Try.prog 21 #[.agg #[a, b, c], .agg #[d, e, f]] w fun e w' => e = .returned (.bool true) ∧ Kept [] w w' := by
  subst hrs
  have HE1 : Hid (∀ W, Kept [] w W → Calls Try.prog 20 #[a, d] W fun e w' => e = .returned (.bool true) ∧ Kept [] W w') := fun W hW => (eq64_any .i64 a d r.1 r.1 W (h1.keep hW) (g1.keep hW)).mono fun _ _ ⟨he, m, hm⟩ => ⟨by rw [he]; simp, by rw [hm]; exact (Kept.refl [] W).drewN m⟩
  have HE2 : Hid (∀ W, Kept [] w W → Calls Try.prog 20 #[b, e] W fun e w' => e = .returned (.bool true) ∧ Kept [] W w') := fun W hW => (eq64_any .i64 b e r.2.1 r.2.1 W (h2.keep hW) (g2.keep hW)).mono fun _ _ ⟨he, m, hm⟩ => ⟨by rw [he]; simp, by rw [hm]; exact (Kept.refl [] W).drewN m⟩
  have HE3 : Hid (∀ W, Kept [] w W → Calls Try.prog 20 #[c, f] W fun e w' => e = .returned (.bool true) ∧ Kept [] W w') := fun W hW => (eq64_any .i64 c f r.2.2 r.2.2 W (h3.keep hW) (g3.keep hW)).mono fun _ _ ⟨he, m, hm⟩ => ⟨by rw [he]; simp, by rw [hm]; exact (Kept.refl [] W).drewN m⟩
  obtain ⟨A, ac, rfl, _, _⟩ := h1
  obtain ⟨B, bc, rfl, _, _⟩ := h2
  obtain ⟨C, cc, rfl, _, _⟩ := h3
  obtain ⟨D, dc, rfl, _, _⟩ := g1
  obtain ⟨E, ec, rfl, _, _⟩ := g2
  obtain ⟨F, fc, rfl, _, _⟩ := g3
  obtain ⟨n1, hn1⟩ : ∃ n, r.1.length = n := ⟨_, rfl⟩
  obtain ⟨n2, hn2⟩ : ∃ n, r.2.1.length = n := ⟨_, rfl⟩
  obtain ⟨n3, hn3⟩ : ∃ n, r.2.2.length = n := ⟨_, rfl⟩
  rw [hn1, hn2, hn3]
  rw [hn1] at HE1
  rw [hn2] at HE2
  rw [hn3] at HE3
  clear hn1 hn2 hn3
  have HB0 := Lib.hid ((Blk.new w #[.slice A n1 ac, .slice B n2 bc, .slice C n3 cc] 32).alloc (.cells #[.slice D n1 dc, .slice E n2 ec, .slice F n3 fc] 32))
  have HB1 : Hid (Blk ((w.alloc (.cells #[.slice A n1 ac, .slice B n2 bc, .slice C n3 cc] 32)).alloc (.cells #[.slice D n1 dc, .slice E n2 ec, .slice F n3 fc] 32)) (w.heap.size + 1) #[.slice D n1 dc, .slice E n2 ec, .slice F n3 fc] 32) := by
    have := Blk.new (w.alloc (.cells #[.slice A n1 ac, .slice B n2 bc, .slice C n3 cc] 32)) #[.slice D n1 dc, .slice E n2 ec, .slice F n3 fc] 32
    rwa [show (w.alloc (.cells #[.slice A n1 ac, .slice B n2 bc, .slice C n3 cc] 32)).heap.size = w.heap.size + 1 by simp] at this
  have HK0 := Lib.hid (((Kept.refl [] w).alloc (.cells #[.slice A n1 ac, .slice B n2 bc, .slice C n3 cc] 32)).alloc (.cells #[.slice D n1 dc, .slice E n2 ec, .slice F n3 fc] 32))
  go_enter Try.func21, Try.ntmps21
  go_wp2_with fail
  refine (HE1.out _ HK0.out).mono ?_
  rintro e w1 ⟨rfl, hk1⟩
  have HK1 := Lib.hid (HK0.out.trans hk1)
  have x1 := (HB0.out.kept hk1 (by simp)).cell 1
  have y1 := (HB1.out.kept hk1 (by simp)).cell 1
  simp at x1 y1
  have HKa := Lib.hid hk1
  clear hk1
  go_wp2_with fail
  refine (HE2.out _ HK1.out).mono ?_
  rintro e w2 ⟨rfl, hk2⟩
  have HK2 := Lib.hid (HK1.out.trans hk2)
  have x2 := (HB0.out.kept (HKa.out.trans hk2) (by simp)).cell 2
  have y2 := (HB1.out.kept (HKa.out.trans hk2) (by simp)).cell 2
  simp at x2 y2
  clear hk2
  go_wp2_with fail
  refine (HE3.out _ HK2.out).mono ?_
  rintro e w3 ⟨rfl, hk3⟩
  have HK3 := Lib.hid (HK2.out.trans hk3)
  clear hk3
  go_wp2_with fail
  go_ret
  exact ⟨rfl, HK3.out⟩
end Go.Proofs.Ytiiiflckphgdiaa

/- The reference's Path, between two brokers. -/
import Derived.Test.YtikpnlmimhnmmaaT32
import Derived.Test.YtikpnlmimhnmmaaT15
import Derived.Maps.AppendAt
set_option linter.unusedVariables false
set_option linter.unusedSimpArgs false
set_option linter.unnecessarySimpa false
namespace Go.Proofs.Ytikpnlmimhnmmaa
open Go.RowKit Tr

set_option maxRecDepth 100000 in
set_option maxHeartbeats 4000000 in
theorem rpath_in (r : Nat) (v : Value) (P : List Int) (a b : Int) (w : World) (h : RT w r v P) (hT : Tree P) (ha : inB P.length a) (hb : inB P.length b) :
    Calls Try.prog 40 #[.pointer (some ⟨r, 0, none⟩), .int .i64 a, .int .i64 b] w (RisePost w (path P a b)) := by
  obtain ⟨i0, hi0, hz0, hz1, hz2⟩ := info_parts infoInt
  obtain ⟨F1, ⟨m, F2, F2c, F3, F4⟩, F5⟩ := turn_facts hT ha hb
  have hp1 := com_pos hT ha hb
  have hp2 := com_le_l P a b
  have hp3 := com_le_r P a b
  have la := rt_len P a
  have lb := rt_len P b
  have hla := rise_len hT ha
  have hlb := rise_len hT hb
  have hda := depth_lt hT ha
  have hdb := depth_lt hT hb
  have h16 := hT.le
  have HI1 := Lib.hid (is_ref r v P a w h)
  have HI2 := Lib.hid (is_ref r v P b w h)
  rw [(inBb_iff _ _).2 ha] at HI1
  rw [(inBb_iff _ _).2 hb] at HI2
  have UP1 := up_tree v P a w h.2 hT ha
  have UP2 : ∀ w', Kept [] w w' → _ := fun w' (k : Kept [] w w') => up_tree v P b w' (h.2.keep k) hT hb
  have hc0 := h.1
  rw [F5]
  obtain ⟨p, hp⟩ : ∃ p, (rise P a).length - com P a b = p := ⟨_, rfl⟩
  obtain ⟨q, hq⟩ : ∃ q, (rise P b).length - com P a b = q := ⟨_, rfl⟩
  rw [hp] at F1 F2 ⊢
  rw [hq] at F3 F4 ⊢
  obtain ⟨X, hX⟩ : ∃ X, rise P a = X := ⟨_, rfl⟩
  obtain ⟨Y, hY⟩ : ∃ Y, rise P b = Y := ⟨_, rfl⟩
  rw [hX] at F1 F2 la hla hp UP1 ⊢
  rw [hY] at F1 F2c F3 F4 lb hlb hq UP2 ⊢
  obtain ⟨nx, hnx⟩ : ∃ n, X.length = n := ⟨_, rfl⟩
  obtain ⟨ny, hny⟩ : ∃ n, Y.length = n := ⟨_, rfl⟩
  rw [hnx] at hla hp la UP1
  rw [hny] at hlb hq lb UP2
  have hpx : p < nx := by omega
  have hqy : q < ny := by omega
  have hx16 : nx ≤ 16 := by omega
  have hy16 : ny ≤ 16 := by omega
  have HNX := Lib.hid hnx
  have HNY := Lib.hid hny
  have HF1 := Lib.hid F1
  have HF2 := Lib.hid F2
  have HF2c := Lib.hid F2c
  have HF3 := Lib.hid F3
  have HF4 := Lib.hid F4
  have HUP1 := Lib.hid UP1
  have HUP2 := Lib.hid UP2
  clear F1 F2 F2c F3 F4 F5 hp1 hp2 hp3 la lb hla hlb hda hdb h16 UP1 UP2 hp hq hX hY hnx hny ha hb hT
  obtain ⟨R, hR⟩ : ∃ R, X.take (p + 1) ++ (Y.take q).reverse = R := ⟨_, rfl⟩
  rw [hR]
  have HR := Lib.hid hR
  clear hR
  go_enter Try.func40, Try.ntmps40
  go_wp2_with fail
  refine HI1.out.mono ?_
  rintro e w' ⟨rfl, rfl⟩
  go_wp2_with fail
  refine HI2.out.mono ?_
  rintro e w' ⟨rfl, rfl⟩
  go_wp2_with fail
  refine HUP1.out.mono ?_
  rintro e w1 ⟨hk1, v1, rfl, ho1⟩
  have hc1 := hk1.cell (by simp) hc0
  obtain ⟨gx, cx, rfl, hgx, hgxl⟩ := ho1.form (by omega)
  go_wp2_with fail
  refine (HUP2.out _ hk1).mono ?_
  rintro e w2 ⟨hk2, v2, rfl, ho2⟩
  obtain ⟨gy, cy, rfl, hgy, hgyl⟩ := ho2.form (by omega)
  have HOX := Lib.hid (ownsRow_keep ho1 hk2 (by simp))
  have HOY := Lib.hid ho2
  have HCX : Hid (∀ (k : Nat) (x : Int), X[k]? = some x → w2.cell? ⟨gx, k, none⟩ = some (.int .i64 x)) := fun k x hx => by
    rw [HOX.out.cellAt k (by rw [← HNX.out, Nat.mul_one]; exact (List.getElem?_eq_some_iff.1 hx).1), List.getElem?_map, hx]; rfl
  have HCY : Hid (∀ (k : Nat) (x : Int), Y[k]? = some x → w2.cell? ⟨gy, k, none⟩ = some (.int .i64 x)) := fun k x hx => by
    rw [HOY.out.cellAt k (by rw [← HNY.out, Nat.mul_one]; exact (List.getElem?_eq_some_iff.1 hx).1), List.getElem?_map, hx]; rfl
  have HRY : Hid (RdI w2 .i64 (.slice (some ⟨gy, 0, none⟩) ny cy) Y) := (RdI.of_own ho2).1
  have hK2 := hk1.trans hk2
  have hsz2 := hK2.size
  have HTX : Hid (∀ k x, X[k]? = some x → (X.take k).map (Value.int .i64) ++ [.int .i64 x] = (X.take (k + 1)).map (.int .i64)) := fun k x hx => by
    obtain ⟨h1, h2⟩ := List.getElem?_eq_some_iff.1 hx
    rw [List.take_succ_eq_append_getElem h1, h2]; simp
  have HTY : Hid (∀ k x, Y[k]? = some x → (Y.take k).map (Value.int .i64) ++ [.int .i64 x] = (Y.take (k + 1)).map (.int .i64)) := fun k x hx => by
    obtain ⟨h1, h2⟩ := List.getElem?_eq_some_iff.1 hx
    rw [List.take_succ_eq_append_getElem h1, h2]; simp
  clear ho1 ho2 hk1 hk2 hc1 hc0 hgxl hgx
  go_wp2_with fail
  go_loopw [11, 12] (fun o kk wr => ∃ (k : Nat), k ≤ p ∧ kk = .int .i64 k ∧ wr.ownsRow w2.heap.size 3 1 o k ((X.take k).map (.int .i64)) ∧ Kept [] w2 wr) (fun _ kk _ => nx - (intOf kk).toNat)
  case atStart => exact ⟨0, by omega, rfl, World.ownsRow_nil _ _ _ _, Kept.refl _ _⟩
  case round =>
    obtain ⟨k, hk, rfl, hown, hK⟩ := hrel
    obtain ⟨AA, cc, rfl, -⟩ := own_len hown
    have hgb : ∀ x, (Value.slice AA k cc).ownBlock = some x → w2.heap.size ≤ x := fun x hx => (hown.lt x hx).1
    have HGB := Lib.hid hgb
    have HOWN := Lib.hid hown
    clear hgb hown
    obtain ⟨x, hx⟩ : ∃ x, X[k]? = some x := ⟨_, List.getElem?_eq_getElem (by rw [HNX.out]; omega)⟩
    have hcx := hK.cell (by simp) (HCX.out k x hx)
    have HX := Lib.hid hx
    clear hx
    have hkx : k < nx := by omega
    go_wp2_with (at_builtin; refine wpList_append_own _ rfl _ _ 22 rfl w2.heap.size 3 i0 (.int .i64 0) 1 8 Try.underlying22 hi0 hz0 hz1 hz2 rfl (by decide) _ k ((X.take k).map (.int .i64)) rfl (World.ownsRow.alloc HOWN.out _) ⟨wr.heap.size, 0, none⟩ 1 1 [.int .i64 x] rfl rfl (cell_one_new _ _ _) (by simp [Value.oneCell']) (by unfold maxLen; omega) (by omega) (by have := hK.size; simp; omega) ?_)
    intro v' w4 hown4 hgrow4 _
    have hK4 : Kept [] w2 w4 := (hK.alloc _).grown hgrow4 (fun x hx => .inr (HGB.out x hx))
    have hcx4 := hK4.cell (by simp) (HCX.out k x HX.out)
    rw [← List.map_take, HTX.out k x HX.out] at hown4
    have HOWN4 := Lib.hid hown4
    clear hown4 hgrow4
    go_wp2_with fail
    refine (has_any _ Y x _ (HRY.out.keep hK4)).mono ?_
    rintro e w5 ⟨rfl, rfl⟩
    cases hB : Y.contains x with
    | false =>
      have HB := Lib.hid hB
      go_wp2_with fail
      go_roundw
      case rel =>
        refine ⟨k + 1, ?_, by go_num, HOWN4.out, hK4⟩
        rcases Nat.lt_or_ge k p with h1 | h1
        · omega
        · exfalso
          have e : k = p := by omega
          have h2 := HX.out
          rw [e, HF2.out] at h2
          injection h2 with h2
          have h3 := HB.out
          rw [← h2, HF2c.out] at h3
          cases h3
      case measure => simp [intOf]; omega
    | true =>
      have hkp : k = p := by
        rcases Nat.lt_or_ge k p with h1 | h1
        · exfalso
          have := HF1.out k h1 x HX.out
          rw [hB] at this; cases this
        · omega
      have hxm : x = m := by
        have h2 := HX.out
        rw [hkp, HF2.out] at h2
        injection h2 with h2
        exact h2.symm
      clear hB
      subst hkp
      subst hxm
      obtain ⟨go, co, rfl, hgo, hgol⟩ := HOWN4.out.form (by omega)
      have hcm : w4.cell? ⟨go, k, none⟩ = some (.int .i64 x) := by
        rw [HOWN4.out.cellAt k (by omega), List.getElem?_map, List.getElem?_take_of_lt (by omega), HX.out]; rfl
      have hidx : IntKind.i64.wrap (((k + 1 : Nat) : Int) - 1) = (k : Int) := by unfold IntKind.wrap; simp [IntKind.signed, IntKind.bits]; omega
      go_wp2_with fail
      go_loopw [13, 14] (fun d jj wr => ∃ (j : Nat), j ≤ q ∧ jj = .int .i64 j ∧ wr.ownsRow w4.heap.size 3 1 d j ((Y.take j).map (.int .i64)) ∧ Kept [] w4 wr) (fun _ jj _ => ny - (intOf jj).toNat)
      case atStart => exact ⟨0, by omega, rfl, World.ownsRow_nil _ _ _ _, Kept.refl _ _⟩
      case round =>
        obtain ⟨j, hj, rfl, hown, hK⟩ := hrel
        obtain ⟨AB, cb, rfl, -⟩ := own_len hown
        have hgb : ∀ x, (Value.slice AB j cb).ownBlock = some x → w4.heap.size ≤ x := fun x hx => (hown.lt x hx).1
        have HGB2 := Lib.hid hgb
        have HOWN2 := Lib.hid hown
        clear hgb hown
        obtain ⟨y, hy⟩ : ∃ y, Y[j]? = some y := ⟨_, List.getElem?_eq_getElem (by rw [HNY.out]; omega)⟩
        have hcy := hK.cell (by simp) (hK4.cell (by simp) (HCY.out j y hy))
        have hcm2 := hK.cell (by simp) hcm
        have HY := Lib.hid hy
        clear hy
        have hjy : j < ny := by omega
        by_cases hjq : j < q
        · have hne : (y != x) = true := by have := HF4.out j hjq y HY.out; simpa using this
          go_wp2_with fail
          go_quiet (fail)
          go_wp2_with (at_builtin; refine wpList_append_own _ rfl _ _ 22 rfl w4.heap.size 3 i0 (.int .i64 0) 1 8 Try.underlying22 hi0 hz0 hz1 hz2 rfl (by decide) _ j ((Y.take j).map (.int .i64)) rfl (World.ownsRow.alloc (by exact HOWN2.out) _) ⟨wr.heap.size, 0, none⟩ 1 1 [.int .i64 y] rfl rfl (cell_one_new _ _ _) (by simp [Value.oneCell']) (by unfold maxLen; omega) (by omega) (by have := hK.size; simp; omega) ?_)
          intro v' w5 hown5 hgrow5 _
          have hK5 : Kept [] w4 w5 := ((hK.drewN _).alloc _).grown hgrow5 (fun x hx => .inr (HGB2.out x hx))
          rw [← List.map_take, HTY.out j y HY.out] at hown5
          have HOWN5 := Lib.hid hown5
          clear hown5 hgrow5
          go_wp2_with fail
          go_roundw
          case rel => exact ⟨j + 1, by omega, by go_num, HOWN5.out, hK5⟩
          case measure => simp [intOf]; omega
        · have hne : (y != x) = false := by
            have e : j = q := by omega
            have h2 := HY.out
            rw [e, HF3.out] at h2
            injection h2 with h2
            simp [h2]
          go_wp2_with fail
          go_quiet (fail)
          have ejq : j = q := by omega
          subst ejq
          go_wp2_with fail
          obtain ⟨wm, rfl⟩ : ∃ x, x = wr := ⟨_, rfl⟩
          have HGO : Hid (∀ z, (Value.slice AB j cb).ownBlock = some z → z ≠ go) := fun z hz => by have := HGB2.out z hz; omega
          have hsz4 : w2.heap.size ≤ w4.heap.size := hK4.size
          have hK04 := hK2.trans hK4
          have hszr : w4.heap.size ≤ wm.heap.size := hK.size
          have HO0 : Hid (wm.ownsRow w2.heap.size 3 1 (.slice (some ⟨go, 0, none⟩) (k + 1) co) (k + 1) ((X.take (k + 1)).map (.int .i64))) := ownsRow_keep HOWN4.out hK (by simp)
          have HD : Hid (∀ t y, t < j → Y[t]? = some y → (X.take (k + 1) ++ ((Y.take j).drop (t + 1)).reverse).map (Value.int .i64) ++ [.int .i64 y] = (X.take (k + 1) ++ ((Y.take j).drop t).reverse).map (Value.int .i64)) := fun t y ht hy => by
            obtain ⟨h1, h2⟩ := List.getElem?_eq_some_iff.1 hy
            rw [List.drop_eq_getElem_cons (show t < (Y.take j).length by rw [List.length_take]; omega), List.getElem_take, h2]
            simp
          have HLX : Hid ((X.take (k + 1)).length = k + 1) := by show _ = _; rw [List.length_take, HNX.out]; omega
          have HLY : Hid ((Y.take j).length = j) := by show _ = _; rw [List.length_take, HNY.out]; omega
          go_loopw [11, 15] (fun o ii wq => ∃ (t s : Nat), t + s = j ∧ ii = .int .i64 ((t : Int) - 1) ∧ wq.ownsRow w2.heap.size 3 1 o (k + 1 + s) ((X.take (k + 1) ++ ((Y.take j).drop t).reverse).map (.int .i64)) ∧ (∀ z, o.ownBlock = some z → z = go ∨ wm.heap.size ≤ z) ∧ Kept [go] wm wq) (fun _ ii _ => (intOf ii + 1).toNat)
          case atStart =>
            refine ⟨j, 0, by omega, by go_num, ?_, fun z hz => .inl (by simp [Value.ownBlock] at hz; exact hz.symm), (Kept.refl _ _).drewN _⟩
            rw [List.drop_eq_nil_of_le (by have := HLY.out; omega), List.reverse_nil, List.append_nil]
            exact HO0.out
          case round =>
            obtain ⟨t, s, hts, rfl, hown, hob, hK6⟩ := hrel
            obtain ⟨AC, c6, rfl, -⟩ := own_len hown
            have HOWN6 := Lib.hid hown
            have HOB := Lib.hid hob
            clear hown hob
            rcases t with _ | t
            · have es : s = j := by omega
              subst es
              go_wp2_with fail
              go_ret
              refine ⟨_, rfl, ?_, hK04.after (Kept.trans (S := [go]) hK.nil hK6) (by simp; omega)⟩
              have e1 : R.length = k + 1 + s := by rw [← HR.out, List.length_append, List.length_reverse, HLX.out, HLY.out]
              rw [e1, ← HR.out]
              exact rowBase HOWN6.out hsz2
            · obtain ⟨gd, cd, he, hgd, hgdl⟩ := HOWN2.out.form (by omega)
              injection he with he1 he2 he3
              subst he1 he3
              have hgg : gd ≠ go := HGO.out gd rfl
              obtain ⟨y2, hy2⟩ : ∃ y, Y[t]? = some y := ⟨_, List.getElem?_eq_getElem (by rw [HNY.out]; omega)⟩
              have hcd : wm.cell? ⟨gd, t, none⟩ = some (.int .i64 y2) := by
                rw [HOWN2.out.cellAt t (by omega), List.getElem?_map, List.getElem?_take_of_lt (by omega), hy2]; rfl
              have hcd6 := hK6.cell (show (⟨gd, t, none⟩ : Addr).block ∉ [go] by simpa using hgg) hcd
              have HY2 := Lib.hid hy2
              have htj : t < j := by omega
              have hti : ((t + 1 : Nat) : Int) - 1 = (t : Int) := by omega
              rw [hti]
              clear hy2 hti
              go_wp2_with (at_builtin; refine wpList_append_own_at _ rfl _ _ 22 rfl w2.heap.size 3 i0 (.int .i64 0) 1 8 Try.underlying22 hi0 hz0 hz1 hz2 rfl (by decide) _ (k + 1 + s) ((X.take (k + 1) ++ ((Y.take j).drop (t + 1)).reverse).map (.int .i64)) rfl (World.ownsRow.alloc HOWN6.out _) ⟨wr.heap.size, 0, none⟩ 1 1 [.int .i64 y2] rfl rfl (cell_one_new _ _ _) (by simp [Value.oneCell']) (by unfold maxLen; omega) (by omega) (by have := hK6.size; simp; omega) ?_)
              intro v' w7 hown7 hgrow7 _ hat7
              have hK7 : Kept [go] wm w7 := (hK6.alloc _).grown hgrow7 (fun x hx => by
                rcases HOB.out x hx with h0 | h0
                · exact .inl (by simp [h0])
                · exact .inr h0)
              have hown7' : w7.ownsRow w2.heap.size 3 1 v' (k + 1 + s + 1) ((X.take (k + 1) ++ ((Y.take j).drop t).reverse).map (.int .i64)) := by
                rw [← HD.out t y2 htj HY2.out]
                simpa [List.append_assoc] using hown7
              have hob7 : ∀ z, v'.ownBlock = some z → z = go ∨ wm.heap.size ≤ z := fun z hz => by
                rcases hat7 with h0 | h0
                · rw [h0] at hz; exact HOB.out z hz
                · rw [h0] at hz
                  have h1 := hK6.size
                  have h2 : wr.heap.size + 1 = z := Option.some.inj hz
                  exact .inr (by omega)
              have HOB7 := Lib.hid hob7
              have HOWN7 := Lib.hid hown7'
              clear hown7 hown7' hgrow7 hat7 hob7
              go_wp2_with fail
              go_roundw
              case rel => exact ⟨t, s + 1, by omega, by go_num, HOWN7.out, HOB7.out, hK7⟩
              case measure => simp [intOf]

end Go.Proofs.Ytikpnlmimhnmmaa

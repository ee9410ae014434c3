/- Attributes, sorted: the document's . -/
import Derived.Test.YthnfoiaahiopdaaDoorB61
import Derived.Laws.AppendOwnNone
import Derived.Deep.DeepCutAuto
set_option linter.unusedVariables false
set_option linter.unusedSimpArgs false
set_option linter.unnecessarySimpa false
namespace Go.Proofs.YthnfoiaahiopdaaDoor
open Go.RowKit Go.Shelf
attribute [local go_sem] Oper.semAt_some

set_option maxRecDepth 100000 in
set_option maxHeartbeats 4000000 in
theorem rAttrs_any (v : Value) (l : List AttrD) (w : World) (hx : Rds attrR w v l) : Calls Tryd.prog 26 #[v] w (AttrsPost w l) := by
  obtain ⟨i0, zz, hi0, hz0, hz1, hz2, hz3⟩ := infoA
  have HX := Lib.hid hx
  have HOK := Lib.hid (ints_ok hx)
  obtain ⟨A, c, rfl, hmx⟩ := hx.form
  obtain ⟨n, hn⟩ : ∃ n, l.length = n := ⟨_, rfl⟩
  rw [hn] at HX hmx ⊢
  have HN := Lib.hid hn
  clear hx hn
  by_cases hbig : 8 < n
  · have hd : decide ((8 : Int) < (n : Int)) = true := decide_eq_true (by omega)
    have HE : Hid (attrsV l = ([], 3)) := by show _ = _; unfold attrsV; rw [if_pos (by rw [HN.out]; exact hbig)]
    go_enter Tryd.func26, Tryd.ntmps26
    go_wp2_with fail
    go_ret2
    exact AttrsPost.no HE.out (Kept.refl _ _)
  · have hd : decide ((8 : Int) < (n : Int)) = false := decide_eq_false (by omega)
    go_enter Tryd.func26, Tryd.ntmps26
    go_wp2_with fail
    go_loopw [4, 5] (fun vv ii wr => ∃ (i : Nat), ii = .int .i64 i ∧ i ≤ n ∧ wr.ownsRow w.heap.size 36 4 vv i (cellsA (sortL (l.take i))) ∧ Kept [] w wr) (fun _ ii _ => n - (intOf ii).toNat)
    case atStart => exact ⟨0, rfl, Nat.zero_le _, World.ownsRow_nil _ _ _ _, Kept.refl _ _⟩
    case round =>
      obtain ⟨i, rfl, hi, hown, hK⟩ := hrel
      have HK := Lib.hid hK
      have HOWN := Lib.hid hown
      obtain ⟨AA, cc, rfl⟩ := own_len hown
      by_cases hlt : i < n
      · obtain ⟨b, off, c', x, cs, he, hxi, hE, hc⟩ := (Rds.keep HX.out hK).at (k := i) (by rw [HN.out]; exact hlt)
        injection he with he1 he2 he3
        subst he1 he3
        obtain ⟨rfl, hs1, hs2⟩ := attrR_cells hE
        have HST := Lib.hid (sortL_step hxi)
        obtain ⟨S, hS⟩ : ∃ S, sortL (l.take i) = S := ⟨_, rfl⟩
        rw [hS] at HST HOWN hown
        have hSl : S.length = i := by rw [← hS]; exact sortL_len i (l.take i) (by rw [List.length_take, HN.out]; omega)
        have HSL := Lib.hid hSl
        obtain ⟨nm, k0, nn, s⟩ := x
        have e0 := hc 0 (by decide)
        have e1 := hc 1 (by decide)
        have e2 := hc 2 (by decide)
        have e3 := hc 3 (by decide)
        simp [attrC, show attrR.sz = 4 from rfl] at e0 e1 e2 e3
        have HE0 := Lib.hid e0
        clear hE hc he2 hS hSl hK hown
        go_wp2_with fail
        go_loopw [6] (fun kk wq => ∃ (k : Nat), kk = .int .i64 k ∧ k ≤ i ∧ kdn (nm, k0, nn, s) S i = kdn (nm, k0, nn, s) S k ∧ ∃ q, wq = wr.drewN q) (fun kk _ => (intOf kk).toNat)
        case atStart => exact ⟨i, rfl, Nat.le_refl _, rfl, 0, rfl⟩
        case round =>
          obtain ⟨k, rfl, hk, hkd, q0, rfl⟩ := hrel
          by_cases h0 : k = 0
          · have hd0 : decide ((0 : Int) < (k : Int)) = false := decide_eq_false (by omega)
            have hd1 : decide (0 < k) = false := decide_eq_false (by omega)
            have HKD : Hid (kdn (nm, k0, nn, s) S i = k) := by show _ = _; rw [hkd, h0]; rfl
            clear hkd
            go_upto_region 8 with fail
            go_quiet (fail)
            have hki : (k : Int) = 0 := by omega
            rw [h0] at HKD
            rw [hki]
            go_upto_region 11 with fail
            rcases HOWN.out.2 with ⟨hv, hz⟩ | ⟨g, cap, cur, hev, hgb, hgg, hcap, _⟩
            · rw [hv]
              have HS0 : Hid (S = []) := List.eq_nil_of_length_eq_zero (HSL.out.trans hz)
              have HFIN : Hid (cellsA (sortL (l.take (i + 1))) = [.string nm, .int .i64 k0, .int .i64 nn, .string s]) := by
                show _ = _
                rw [HST.out, HKD.out, HS0.out]
                rfl
              have HZ := Lib.hid hz
              clear hv hz
              obtain ⟨wq, hwq⟩ : ∃ x, (wr.drewN q0).drewN nq = x := ⟨_, rfl⟩
              have HKW : Hid (Kept [] wr wq) := by show Kept _ _ _; rw [← hwq]; exact ((Kept.refl [] wr).drewN q0).drewN nq
              rw [hwq]
              clear hwq
              have z0' : wq.cell? ⟨b, off + i * 4, none⟩ = some (.string nm) := HKW.out.cell (by simp) HE0.out
              have z1' := HKW.out.cell (by simp) e1
              have z2' := HKW.out.cell (by simp) e2
              have z3' := HKW.out.cell (by simp) e3
              have F4 : Hid (∀ W', Kept [] wr W' → W'.cell? ⟨b, off + i * 4, none⟩ = some (.string nm) ∧ W'.cell? ⟨b, off + i * 4 + 1, none⟩ = some (.int .i64 k0) ∧ W'.cell? ⟨b, off + i * 4 + 2, none⟩ = some (.int .i64 nn) ∧ W'.cell? ⟨b, off + i * 4 + 3, none⟩ = some (.string s)) := fun W' hk => ⟨hk.cell (by simp) HE0.out, hk.cell (by simp) e1, hk.cell (by simp) e2, hk.cell (by simp) e3⟩
              clear e0 e1 e2 e3
              have hszq := HKW.out.size
              have hszw := HK.out.size
              have hmx' : Tryd.prog.follows .mixedOrders = true := by kernel_rfl
              go_region_held3 (fun w' => w'.cell? ⟨b, off + i * 4, none⟩ = some (.string nm) ∧ w'.cell? ⟨b, off + i * 4 + 1, none⟩ = some (.int .i64 k0) ∧ w'.cell? ⟨b, off + i * 4 + 2, none⟩ = some (.int .i64 nn) ∧ w'.cell? ⟨b, off + i * 4 + 3, none⟩ = some (.string s)) (first | exact ⟨z0', z1', z2', z3'⟩ | exact F4.out _ HKW.out.drew | exact F4.out _ (HKW.out.drew.alloc _) | exact F4.out _ HK6.out) (first | (refine step_append_nothing (by rfl) _ _ 30 (by rfl) 36 i0 Tryd.underlying30 hi0 (by rfl) _ _ (by rfl) ?_) | (refine step_append_lies _ (by rfl) _ _ 30 (by rfl) w.heap.size 36 i0 zz 4 48 Tryd.underlying30 hi0 hz0 hz1 hz2 hz3 (by decide) (.slice none 0 0) 0 [] (by rfl) (World.ownsRow_nil _ _ _ _) ⟨_, 0, none⟩ 1 1 [.string nm, .int .i64 k0, .int .i64 nn, .string s] (by rfl) (by rfl) (cell_four_new _ _ _ _ _ _) (by simp [Value.oneCell']) (by decide) (by unfold maxLen; omega) (by omega) (by simp; omega) _ rfl ?_; intro g2 cap2 w6 hown6 hgrow6 hat6 hlt6; simp only [Nat.zero_add, List.nil_append] at hown6; have HK6 : Hid (Kept [] wr w6) := (by first | exact Kept.grown (HKW.out.drew.alloc _) hgrow6 (fun x hx => by simp [Value.ownBlock] at hx) | exact Kept.grown ((HKW.out.alloc _).drew) hgrow6 (fun x hx => by simp [Value.ownBlock] at hx))))
              all_goals (go_wp2_with (at_builtin; refine wpList_append_own_none rfl _ _ 30 rfl w.heap.size 36 i0 4 Tryd.underlying30 hi0 _ 1 _ rfl hown6 rfl ?_))
              all_goals (refine ⟨⟨i + 1, by push_cast; rfl, by omega, ?_, HK.out.trans HK6.out⟩, by simp [intOf]; omega⟩)
              all_goals (rw [HFIN.out]; have e : i + 1 = 1 := by rw [HZ.out])
              all_goals (rw [e]; exact hown6)
            · injection hev with hv1 hv2 hv3
              subst hv1 hv3
              have HFIN : Hid (cellsA (sortL (l.take (i + 1))) = [.string nm, .int .i64 k0, .int .i64 nn, .string s] ++ cellsA S) := by
                show _ = _
                rw [HST.out, HKD.out]
                rfl
              have hlenR : (cellsA S).length = i * 4 := by rw [cellsA_len, HSL.out]
              have HONER : Hid (∀ u ∈ cellsA S, u.oneCell' = true) := fun u hu => cellsA_one hu
              have HREST : Hid (∀ W', Kept [] wr W' → ∀ j u, (cellsA S)[j]? = some u → W'.cell? ((⟨g, 0, none⟩ : Addr).add j) = some u) := fun W' hk j u hu => hk.cell (by simp) (HOWN.out.cells (g := g) rfl j u hu)
              obtain ⟨wq, hwq⟩ : ∃ x, (wr.drewN q0).drewN nq = x := ⟨_, rfl⟩
              have HKW : Hid (Kept [] wr wq) := by show Kept _ _ _; rw [← hwq]; exact ((Kept.refl [] wr).drewN q0).drewN nq
              rw [hwq]
              clear hwq
              have z0' : wq.cell? ⟨b, off + i * 4, none⟩ = some (.string nm) := HKW.out.cell (by simp) HE0.out
              have z1' := HKW.out.cell (by simp) e1
              have z2' := HKW.out.cell (by simp) e2
              have z3' := HKW.out.cell (by simp) e3
              have F4 : Hid (∀ W', Kept [] wr W' → W'.cell? ⟨b, off + i * 4, none⟩ = some (.string nm) ∧ W'.cell? ⟨b, off + i * 4 + 1, none⟩ = some (.int .i64 k0) ∧ W'.cell? ⟨b, off + i * 4 + 2, none⟩ = some (.int .i64 nn) ∧ W'.cell? ⟨b, off + i * 4 + 3, none⟩ = some (.string s)) := fun W' hk => ⟨hk.cell (by simp) HE0.out, hk.cell (by simp) e1, hk.cell (by simp) e2, hk.cell (by simp) e3⟩
              clear e0 e1 e2 e3
              have hszq := HKW.out.size
              have hszw := HK.out.size
              have hmx' : Tryd.prog.follows .mixedOrders = true := by kernel_rfl
              go_region_held3 (fun w' => w'.cell? ⟨b, off + i * 4, none⟩ = some (.string nm) ∧ w'.cell? ⟨b, off + i * 4 + 1, none⟩ = some (.int .i64 k0) ∧ w'.cell? ⟨b, off + i * 4 + 2, none⟩ = some (.int .i64 nn) ∧ w'.cell? ⟨b, off + i * 4 + 3, none⟩ = some (.string s)) (first | exact ⟨z0', z1', z2', z3'⟩ | exact F4.out _ HKW.out.drew | exact F4.out _ (HKW.out.drew.alloc _) | exact F4.out _ HK6.out) (first | (refine step_append_nothing (by rfl) _ _ 30 (by rfl) 36 i0 Tryd.underlying30 hi0 (by rfl) _ _ (by rfl) ?_) | (refine step_append_lies _ (by rfl) _ _ 30 (by rfl) w.heap.size 36 i0 zz 4 48 Tryd.underlying30 hi0 hz0 hz1 hz2 hz3 (by decide) (.slice none 0 0) 0 [] (by rfl) (World.ownsRow_nil _ _ _ _) ⟨_, 0, none⟩ 1 1 [.string nm, .int .i64 k0, .int .i64 nn, .string s] (by rfl) (by rfl) (cell_four_new _ _ _ _ _ _) (by simp [Value.oneCell']) (by decide) (by unfold maxLen; omega) (by omega) (by simp; omega) _ rfl ?_; intro g2 cap2 w6 hown6 hgrow6 hat6 hlt6; simp only [Nat.zero_add, List.nil_append] at hown6; have HK6 : Hid (Kept [] wr w6) := (by first | exact Kept.grown (HKW.out.drew.alloc _) hgrow6 (fun x hx => by simp [Value.ownBlock] at hx) | exact Kept.grown ((HKW.out.alloc _).drew) hgrow6 (fun x hx => by simp [Value.ownBlock] at hx))))
              all_goals (have hg2 : wr.heap.size ≤ w6.heap.size := HK6.out.size)
              all_goals (have hg4 : wr.heap.size ≤ g2 := by (rcases hat6 with h | h <;> simp [Value.ownBlock] at h <;> omega))
              all_goals (go_wp2_with (at_builtin; refine wpList_append_own_at _ rfl _ _ 30 rfl w.heap.size 36 i0 zz 4 48 Tryd.underlying30 hi0 hz0 hz1 hz2 hz3 (by decide) (.slice (some ⟨g2, 0, none⟩) 1 cap2) 1 _ rfl hown6 ⟨g, 0, none⟩ i cc (cellsA S) (by first | rfl | simp [Act.eval]) hlenR (HREST.out _ HK6.out) HONER.out (by unfold maxLen; omega) (by omega) (by omega) ?_; intro v7 w7 hown7 hgrow7 hnil7 hat7; have HK7 : Hid (Kept [] wr w7) := (Kept.grown HK6.out hgrow7 (fun x hx => .inr (by simp [Value.ownBlock] at hx; omega)))))
              all_goals (refine ⟨⟨i + 1, by push_cast; rfl, by omega, ?_, HK.out.trans HK7.out⟩, by simp [intOf]; omega⟩)
              all_goals (rw [HFIN.out]; have e : 1 + i = i + 1 := by omega)
              all_goals (rw [e] at hown7; exact hown7)
          · obtain ⟨q, hq⟩ : ∃ q, k - 1 = q := ⟨_, rfl⟩
            obtain ⟨y, hy⟩ : ∃ y, S[q]? = some y := ⟨_, List.getElem?_eq_getElem (by rw [HSL.out]; omega)⟩
            have hdn : kdn (nm, k0, nn, s) S k = if ltA (nm, k0, nn, s) y = true then kdn (nm, k0, nn, s) S q else k := by
              have e : k = q + 1 := by omega
              rw [e, kdn, List.getD_eq_getElem?_getD, hy]
              rfl
            have hab := above_lt (nm, k0, nn, s) y
            rcases HOWN.out.2 with ⟨_, hz⟩ | ⟨g, cap, cur, hev, hgb, hgg, hcap, _⟩
            · omega
            · injection hev with hv1 hv2 hv3
              subst hv1 hv3
              obtain ⟨ym, y4, y5, y6⟩ := y
              have hcy := HOWN.out.cells (g := g) rfl (q * 4 + 0) _ ((cellsA_get S q _ hy 0 (by decide)).trans rfl)
              rw [Addr.add_lit, Nat.zero_add, Nat.add_zero] at hcy
              have hd0 : decide ((0 : Int) < (k : Int)) = true := decide_eq_true (by omega)
              have hd1 : decide (0 < k) = true := decide_eq_true (by omega)
              have hw : IntKind.i64.wrap ((k : Int) - 1) = (q : Int) := by unfold IntKind.wrap; simp [IntKind.signed, IntKind.bits]; omega
              have hqi : q < i := by omega
              simp only at hab
              have HDN := Lib.hid hdn
              have HKD := Lib.hid hkd
              have hqk : q < k := by omega
              clear hy hgg hv2 hq h0 hdn hkd hgb
              cases hlt2 : ltA (nm, k0, nn, s) (ym, y4, y5, y6) with
              | true =>
                have HKQ : Hid (kdn (nm, k0, nn, s) S i = kdn (nm, k0, nn, s) S q) := by show _ = _; rw [HKD.out, HDN.out, if_pos hlt2]
                rw [hlt2] at hab
                have hab2 : (Op.bytesLess ym.toList nm.toList || (ym.toList == nm.toList)) = false := by simpa using hab
                clear hlt2 hab
                go_upto_region 8 with fail
                go_quiet (fail)
                rename_i nq
                go_wp2_with fail
                go_roundw
                case rel => exact ⟨q, rfl, by omega, HKQ.out, q0 + nq, rfl⟩
                case measure => simp [intOf]; omega
              | false =>
                have HKQ : Hid (kdn (nm, k0, nn, s) S i = k) := by show _ = _; rw [HKD.out, HDN.out, if_neg (by rw [hlt2]; decide)]
                rw [hlt2] at hab
                have hab2 : (Op.bytesLess ym.toList nm.toList || (ym.toList == nm.toList)) = true := by
                  cases hb : (Op.bytesLess ym.toList nm.toList || (ym.toList == nm.toList)) with
                  | true => rfl
                  | false => rw [hb] at hab; cases hab
                clear hlt2 hab
                go_upto_region 8 with fail
                go_quiet (fail)
                go_upto_region 11 with fail
                obtain ⟨wq, hwq⟩ : ∃ x, (wr.drewN q0).drewN nq = x := ⟨_, rfl⟩
                have HKW : Hid (Kept [] wr wq) := by show Kept _ _ _; rw [← hwq]; exact ((Kept.refl [] wr).drewN q0).drewN nq
                rw [hwq]
                clear hwq hcy e0
                have HNEW : Hid (∀ W', Kept [] wr W' → ∀ j u, ((cellsA S).take (k * 4))[j]? = some u → W'.cell? ((⟨g, 0, none⟩ : Addr).add j) = some u) := fun W' hk j u hu => by
                  have h1 : (cellsA S)[j]? = some u := by
                    rw [List.getElem?_take] at hu
                    split at hu
                    · exact hu
                    · cases hu
                  exact hk.cell (by simp) (HOWN.out.cells (g := g) rfl j u h1)
                have hlen : ((cellsA S).take (k * 4)).length = k * 4 := by rw [List.length_take, cellsA_len, HSL.out]; omega
                have HONE : Hid (∀ u ∈ (cellsA S).take (k * 4), u.oneCell' = true) := fun u hu => cellsA_one (List.mem_of_mem_take hu)
                have hk0 : 0 < k := by omega
                have hkc : k ≤ cc := by omega
                have z0' : wq.cell? ⟨b, off + i * 4, none⟩ = some (.string nm) := HKW.out.cell (by simp) HE0.out
                have z1' := HKW.out.cell (by simp) e1
                have z2' := HKW.out.cell (by simp) e2
                have z3' := HKW.out.cell (by simp) e3
                have F4 : Hid (∀ W', Kept [] wr W' → W'.cell? ⟨b, off + i * 4, none⟩ = some (.string nm) ∧ W'.cell? ⟨b, off + i * 4 + 1, none⟩ = some (.int .i64 k0) ∧ W'.cell? ⟨b, off + i * 4 + 2, none⟩ = some (.int .i64 nn) ∧ W'.cell? ⟨b, off + i * 4 + 3, none⟩ = some (.string s)) := fun W' hk => ⟨hk.cell (by simp) HE0.out, hk.cell (by simp) e1, hk.cell (by simp) e2, hk.cell (by simp) e3⟩
                clear e1 e2 e3
                obtain ⟨CK, hCK⟩ : ∃ C, (cellsA S).take (k * 4) = C := ⟨_, rfl⟩
                rw [hCK] at HNEW HONE hlen
                have hszq := HKW.out.size
                have hszw := HK.out.size
                have hmx' : Tryd.prog.follows .mixedOrders = true := by kernel_rfl
                obtain ⟨CR, hCR⟩ : ∃ C, (cellsA S).drop (k * 4) = C := ⟨_, rfl⟩
                have hlenR : CR.length = (i - k) * 4 := by rw [← hCR, List.length_drop, cellsA_len, HSL.out]; omega
                have HONER : Hid (∀ u ∈ CR, u.oneCell' = true) := fun u hu => cellsA_one (List.mem_of_mem_drop (by rw [hCR]; exact hu))
                obtain ⟨AD, hAD⟩ : ∃ A, (if cc = k then (⟨g, 0, none⟩ : Addr) else ⟨g, k * 4, none⟩) = A := ⟨_, rfl⟩
                have HAD : Hid ((if cc = k then some (⟨g, 0, none⟩ : Addr) else some ⟨g, k * 4, none⟩) = some AD) := by show _ = _; rw [← hAD]; split <;> rfl
                have HREST : Hid (∀ W', Kept [] wr W' → ∀ j u, CR[j]? = some u → W'.cell? (AD.add j) = some u) := fun W' hk j u hu => by
                  by_cases hck : cc = k
                  · rw [List.eq_nil_of_length_eq_zero (by omega : CR.length = 0)] at hu
                    cases hu
                  · rw [if_neg hck] at hAD
                    rw [← hAD]
                    rw [← hCR, List.getElem?_drop] at hu
                    have h1 := hk.cell (by simp) (HOWN.out.cells (g := g) rfl (k * 4 + j) u hu)
                    rw [Addr.add_lit, Nat.zero_add] at h1
                    rw [Addr.add_lit]
                    exact h1
                clear hAD
                have HFIN : Hid (cellsA (sortL (l.take (i + 1))) = (CK ++ [.string nm, .int .i64 k0, .int .i64 nn, .string s]) ++ CR) := by
                  show _ = _
                  rw [HST.out, HKQ.out, cellsA_mid _ _ _ (by rw [HSL.out]; exact hk), hCK, hCR]
                  rfl
                go_region_held3 (fun w' => w'.cell? ⟨b, off + i * 4, none⟩ = some (.string nm) ∧ w'.cell? ⟨b, off + i * 4 + 1, none⟩ = some (.int .i64 k0) ∧ w'.cell? ⟨b, off + i * 4 + 2, none⟩ = some (.int .i64 nn) ∧ w'.cell? ⟨b, off + i * 4 + 3, none⟩ = some (.string s)) (first | exact ⟨z0', z1', z2', z3'⟩ | exact F4.out _ HKW.out.drew | exact F4.out _ (HKW.out.drew.alloc _) | exact F4.out _ HK5.out | exact F4.out _ (HK5.out.alloc _) | exact F4.out _ HK6.out) (first | (refine step_append_lies _ (by rfl) _ _ 30 (by rfl) w.heap.size 36 i0 zz 4 48 Tryd.underlying30 hi0 hz0 hz1 hz2 hz3 (by decide) (.slice none 0 0) 0 [] (by rfl) (World.ownsRow_nil _ _ _ _) ⟨g, 0, none⟩ k cc CK (by rfl) hlen (HNEW.out _ (by first | exact HKW.out.drew | exact HKW.out.drew.alloc _ | exact (HKW.out.alloc _).drew | exact HKW.out)) HONE.out hk0 (by unfold maxLen; omega) (by omega) (by simp; omega) _ rfl ?_; intro g1 cap1 w5 hown5 hgrow5 hat5 hlt5; simp only [Nat.zero_add, List.nil_append] at hown5; have HK5 : Hid (Kept [] wr w5) := (by first | exact Kept.grown HKW.out.drew hgrow5 (fun x hx => by simp [Value.ownBlock] at hx) | exact Kept.grown (HKW.out.drew.alloc _) hgrow5 (fun x hx => by simp [Value.ownBlock] at hx) | exact Kept.grown ((HKW.out.alloc _).drew) hgrow5 (fun x hx => by simp [Value.ownBlock] at hx))) | (refine step_append_lies _ (by rfl) _ _ 30 (by rfl) w.heap.size 36 i0 zz 4 48 Tryd.underlying30 hi0 hz0 hz1 hz2 hz3 (by decide) (.slice (some ⟨g1, 0, none⟩) _ cap1) k CK (by rfl) (by first | exact hown5 | exact hown5.alloc _ | (rw [Nat.zero_add]; first | exact hown5 | exact hown5.alloc _)) ⟨_, 0, none⟩ 1 1 [.string nm, .int .i64 k0, .int .i64 nn, .string s] (by rfl) (by rfl) (by first | exact cell_four_new _ _ _ _ _ _ | exact fun j u hu => hgrow5.cell (cell_four_new _ _ _ _ _ _ j u hu) (by simp [Value.ownBlock])) (by simp [Value.oneCell']) (by decide) (by unfold maxLen; omega) (by omega) (by have := hgrow5.size; simp at this ⊢; omega) _ rfl ?_; intro g2 cap2 w6 hown6 hgrow6 hat6 hlt6; have HK6 : Hid (Kept [] wr w6) := (by first | exact Kept.grown HK5.out hgrow6 (fun x hx => .inr (by simp [Value.ownBlock] at hx; rcases hat5 with h | h <;> simp [Value.ownBlock] at h; omega)) | exact Kept.grown (HK5.out.alloc _) hgrow6 (fun x hx => .inr (by simp [Value.ownBlock] at hx; rcases hat5 with h | h <;> simp [Value.ownBlock] at h; omega)))))
                all_goals (have hg2 : w5.heap.size ≤ w6.heap.size := by have := hgrow6.size; first | exact this | (simp at this; omega))
                all_goals (have hg3 : wr.heap.size ≤ w5.heap.size := HK5.out.size)
                all_goals (have hg4 : wr.heap.size ≤ g2 := by (rcases hat6 with h | h <;> rcases hat5 with h' | h' <;> simp [Value.ownBlock] at h h' <;> omega))
                all_goals (go_wp2_with (at_builtin; refine wpList_append_own_at _ rfl _ _ 30 rfl w.heap.size 36 i0 zz 4 48 Tryd.underlying30 hi0 hz0 hz1 hz2 hz3 (by decide) (.slice (some ⟨g2, 0, none⟩) (k + 1) cap2) (k + 1) _ rfl hown6 AD (i - k) _ CR (by first | (show Value.slice _ _ _ = _; rw [HAD.out]) | (show Value.slice _ _ _ = _; have h' := HAD.out; rw [if_pos rfl] at h'; rw [h']) | (show Value.slice _ _ _ = _; have h' := HAD.out; rw [if_neg (by assumption)] at h'; rw [h'])) hlenR (HREST.out _ HK6.out) HONER.out (by unfold maxLen; omega) (by omega) (by omega) ?_; intro v7 w7 hown7 hgrow7 hnil7 hat7; have HK7 : Hid (Kept [] wr w7) := (Kept.grown HK6.out hgrow7 (fun x hx => .inr (by simp [Value.ownBlock] at hx; omega)))))
                all_goals (refine ⟨⟨i + 1, by push_cast; rfl, by omega, ?_, HK.out.trans HK7.out⟩, by simp [intOf]; omega⟩)
                all_goals (rw [HFIN.out]; have e : k + 1 + (i - k) = i + 1 := by omega)
                all_goals (rw [e] at hown7; exact hown7)
      · have hin : l.take i = l := List.take_of_length_le (by rw [HN.out]; omega)
        have hie : i = n := by omega
        rw [hin] at HOWN
        have hls := sortL_len l.length l rfl
        have hrs : Rds attrR wr (.slice AA i cc) (sortL l) := rds_of_own (base := w.heap.size) (by rw [hls, HN.out, ← hie]; exact HOWN.out) (by rw [hls, HN.out]; unfold maxLen; omega) (fun x hx => attrR.keep HK.out (HOK.out x (mem_sortL _ l rfl x hx)))
        have HRS := Lib.hid hrs
        have HLC := Lib.hid (rCheckAttrs_any _ _ wr hrs)
        obtain ⟨F, hF⟩ : ∃ F, chkA (sortL l) = F := ⟨_, rfl⟩
        have HF := Lib.hid hF
        rw [hF] at HLC
        clear hrs hF hin hie hls hown hK
        go_wp2_with fail
        refine HLC.out.mono ?_
        rintro e w3 ⟨rfl, hk3⟩
        have HK3 := Lib.hid (HK.out.trans hk3)
        have HR3 := Lib.hid (Rds.keep HRS.out hk3)
        clear hk3
        by_cases h0 : F = 0
        · have HE : Hid (attrsV l = (sortL l, 0)) := by show _ = _; unfold attrsV; rw [if_neg (by rw [HN.out]; exact hbig), HF.out, if_pos h0]
          subst h0
          go_wp2_with fail
          go_ret2
          exact AttrsPost.yes HE.out HR3.out HK3.out
        · have hne : (F == 0) = false := by simpa using h0
          have hne2 : (F != 0) = true := by simpa using h0
          have HE : Hid (attrsV l = ([], F)) := by show _ = _; unfold attrsV; rw [if_neg (by rw [HN.out]; exact hbig), HF.out, if_neg h0]
          clear h0
          go_wp2_with fail
          go_ret2
          exact AttrsPost.no HE.out HK3.out

end Go.Proofs.YthnfoiaahiopdaaDoor

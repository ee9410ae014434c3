/- Which attributes may be: the document's CheckAttrs. -/
import Derived.Test.YthnfoiaahiopdaaDoorB2
import Derived.Test.YthnfoiaahiopdaaDoorN6
set_option linter.unusedVariables false
set_option linter.unusedSimpArgs false
set_option linter.unnecessarySimpa false
namespace Go.Proofs.YthnfoiaahiopdaaDoor
open Go.RowKit Go.Shelf
attribute [local go_sem] Oper.semAt_some

set_option maxRecDepth 100000 in
set_option maxHeartbeats 4000000 in
theorem rCheckAttrs_any (v : Value) (l : List AttrD) (w : World) (hx : Rds attrR w v l) : Calls Tryd.prog 32 #[v] w fun e w' => e = .returned (.int .i64 (chkA l)) ∧ Kept [] w w' := by
  have HX := Lib.hid hx
  obtain ⟨A, c, rfl, hmx⟩ := hx.form
  obtain ⟨n, hn⟩ : ∃ n, l.length = n := ⟨_, rfl⟩
  rw [hn] at HX hmx ⊢
  have HN := Lib.hid hn
  clear hx hn
  by_cases hbig : 8 < n
  · have hd : decide ((8 : Int) < (n : Int)) = true := decide_eq_true (by omega)
    have HA : Hid (chkA l = 3) := by show _ = _; unfold chkA; rw [if_pos (by rw [HN.out]; exact hbig)]
    go_enter Tryd.func32, Tryd.ntmps32
    go_wp2_with fail
    go_ret
    exact ⟨by rw [HA.out]; rfl, Kept.refl _ _⟩
  · have hd : decide ((8 : Int) < (n : Int)) = false := decide_eq_false (by omega)
    have HA : Hid (chkA l = chkGo (prevN l 0) (l.drop 0)) := by show _ = _; unfold chkA; rw [if_neg (by rw [HN.out]; exact hbig)]; rfl
    obtain ⟨F, hF⟩ : ∃ F, chkGo (prevN l 0) (l.drop 0) = F := ⟨_, rfl⟩
    have HF := Lib.hid hF
    clear hF
    go_enter Tryd.func32, Tryd.ntmps32
    go_wp2_with fail
    go_loopw [3] (fun ii wr => ∃ (i : Nat), i ≤ n ∧ ii = .int .i64 i ∧ chkGo (prevN l i) (l.drop i) = F ∧ Kept [] w wr) (fun ii _ => n - (intOf ii).toNat)
    case atStart => exact ⟨0, by omega, rfl, HF.out, Kept.refl _ _⟩
    case round =>
      obtain ⟨i, hi, rfl, hg, hK⟩ := hrel
      have HK := Lib.hid hK
      by_cases hlt : i < n
      · obtain ⟨b, off, c', x, cs, he, hxi, hE, hc⟩ := (Rds.keep HX.out hK).at (k := i) (by rw [HN.out]; exact hlt)
        injection he with he1 he2 he3
        subst he1 he3
        obtain ⟨rfl, hs1, hs2⟩ := attrR_cells hE
        rw [chkGo_step hxi] at hg
        obtain ⟨nm, k, nn, s⟩ := x
        simp only at hs1 hs2 hg
        have e0 := hc 0 (by decide)
        have e1 := hc 1 (by decide)
        have e2 := hc 2 (by decide)
        have e3 := hc 3 (by decide)
        simp [attrC, show attrR.sz = 4 from rfl] at e0 e1 e2 e3
        have HG := Lib.hid hg
        have HNM : Hid (∀ W, Calls Tryd.prog 30 #[.string nm] W fun e w' => e = .returned (.bool (nameV nm)) ∧ Kept [] W w') := fun W => (rname_any nm hs1 W).mono fun e w' ⟨g1, g2⟩ => ⟨g1, by rw [← g2]; exact Kept.refl _ _⟩
        have HCK : Hid (∀ W, Calls Tryd.prog 28 #[.agg #[.int .i64 k, .int .i64 nn, .string s]] W fun e w' => e = .returned (.int .i64 (chkV (k, nn, s))) ∧ Kept [] W w') := fun W => rcheck_any k nn s hs2 W
        have E0 := Lib.hid e0
        have E1 := Lib.hid e1
        have E2 := Lib.hid e2
        have E3 := Lib.hid e3
        clear hE hc hxi he2 hg hK
        go_wp2_with fail
        refine (HNM.out _).mono ?_
        rintro e w2 ⟨rfl, hk2⟩
        have HK2 := Lib.hid (HK.out.trans hk2)
        have HH2 := Lib.hid hk2
        have y1 := hk2.cell (by simp) E1.out
        have y2 := hk2.cell (by simp) E2.out
        have y3 := hk2.cell (by simp) E3.out
        cases hnm : nameV nm with
        | false =>
          have HE : Hid (F = 31) := by show _ = _; have := HG.out; rw [if_pos hnm] at this; exact this.symm
          clear hnm hk2 e0 e1 e2 e3
          go_wp2_with fail
          go_ret
          exact ⟨by rw [HA.out, HF.out, HE.out]; rfl, HK2.out⟩
        | true =>
          have h9 := HG.out
          rw [if_neg (by rw [hnm]; decide)] at h9
          have HG2 := Lib.hid h9
          clear hnm hk2 e0 e1 e2 e3 HG h9
          go_wp2_with fail
          refine (HCK.out _).mono ?_
          rintro e w3 ⟨rfl, hk3⟩
          have HK3 := Lib.hid (HK2.out.trans hk3)
          have x0 := hk3.cell (by simp) (HH2.out.cell (by simp) E0.out)
          clear hk3 y1 y2 y3
          rcases chkV_two (k, nn, s) with hck | hck
          · rw [hck]
            have h9 := HG2.out
            rw [if_neg (by rw [hck]; decide)] at h9
            have HG3 := Lib.hid h9
            clear hck HG2 h9
            by_cases h0 : i = 0
            · have HG4 : Hid (chkGo (prevN l (i + 1)) (l.drop (i + 1)) = F) := by
                show _ = _
                have h9 := HG3.out
                have h8 : prevN l i = none := by unfold prevN; rw [if_pos h0]
                rw [h8] at h9
                exact h9
              have hd0 : decide ((0 : Int) < (i : Int)) = false := decide_eq_false (by omega)
              have hd1 : decide (0 < i) = false := decide_eq_false (by omega)
              clear HG3 h0
              go_upto_region 11 with fail
              go_quiet (fail)
              rename_i nq
              go_wp2_with fail
              go_roundw
              case rel => exact ⟨i + 1, by omega, by go_num, HG4.out, HK3.out.drewN nq⟩
              case measure => simp [intOf]; omega
            · obtain ⟨q, hq⟩ : ∃ q, i - 1 = q := ⟨_, rfl⟩
              obtain ⟨b', off', c', x, cs, he, hxq, hE, hc⟩ := (Rds.keep HX.out HK3.out).at (k := q) (by rw [HN.out]; omega)
              injection he with he1 he2 he3
              injection he1 with he1
              injection he1 with he4 he5 he6
              subst he4 he5 he3
              obtain ⟨rfl, _, _⟩ := attrR_cells hE
              obtain ⟨ym, y4, y5, y6⟩ := x
              have e0 := hc 0 (by decide)
              simp [attrC, show attrR.sz = 4 from rfl] at e0
              have h8 : prevN l i = some ym := by unfold prevN; rw [if_neg h0, hq, hxq]; rfl
              have h9 := HG3.out
              rw [h8] at h9
              simp only at h9
              have HG4 := Lib.hid h9
              have hd0 : decide ((0 : Int) < (i : Int)) = true := decide_eq_true (by omega)
              have hd1 : decide (0 < i) = true := decide_eq_true (by omega)
              have hw : IntKind.i64.wrap ((i : Int) - 1) = (q : Int) := by unfold IntKind.wrap; simp [IntKind.signed, IntKind.bits]; omega
              have hqn : q < n := by omega
              clear HG3 h8 h9 hxq hE hc he2 he6 hq h0
              cases hle : leN nm ym with
              | true =>
                have HE : Hid (F = 32) := by show _ = _; have := HG4.out; rw [if_pos hle] at this; exact this.symm
                have hle2 : (Op.bytesLess nm.toList ym.toList || (nm.toList == ym.toList)) = true := hle
                clear hle
                go_upto_region 11 with fail
                go_quiet (fail)
                rename_i nq
                go_wp2_with fail
                go_ret
                exact ⟨by rw [HA.out, HF.out, HE.out]; rfl, HK3.out.drewN nq⟩
              | false =>
                have HG5 : Hid (chkGo (prevN l (i + 1)) (l.drop (i + 1)) = F) := by show _ = _; have := HG4.out; rw [if_neg (by rw [hle]; decide)] at this; exact this
                have hle2 : (Op.bytesLess nm.toList ym.toList || (nm.toList == ym.toList)) = false := hle
                clear hle
                go_upto_region 11 with fail
                go_quiet (fail)
                rename_i nq
                go_wp2_with fail
                go_roundw
                case rel => exact ⟨i + 1, by omega, by go_num, HG5.out, HK3.out.drewN nq⟩
                case measure => simp [intOf]; omega
          · have HE : Hid (F = 30) := by show _ = _; have := HG2.out; rw [if_pos (by rw [hck]; decide), hck] at this; exact this.symm
            rw [hck]
            clear hck
            go_wp2_with fail
            go_ret
            exact ⟨by rw [HA.out, HF.out, HE.out]; rfl, HK3.out⟩
      · have HE : Hid (F = 0) := by
          show _ = _
          rw [← hg, List.drop_of_length_le (by rw [HN.out]; omega)]
          unfold chkGo
          cases prevN l i <;> rfl
        clear hg
        go_wp2_with fail
        go_ret
        exact ⟨by rw [HA.out, HF.out, HE.out]; rfl, HK.out⟩

end Go.Proofs.YthnfoiaahiopdaaDoor

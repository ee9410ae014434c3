/- Scripts, the program's: a step's line. -/
import Derived.Test.YthgenobbpaclhaaDoorZ6
import Derived.Test.YthgenobbpaclhaaDoorZ7
import Derived.Test.YthgenobbpaclhaaDoorZ8
set_option linter.unusedVariables false
set_option linter.unusedSimpArgs false
set_option linter.unnecessarySimpa false
namespace Go.Proofs.YthgenobbpaclhaaDoor
open Go.RowKit Go.Shelf
attribute [local go_sem] Oper.semAt_some

theorem shape_at (b : Nat) (k : Int) (h1 : 1 ≤ k) (h2 : k ≤ 12) (w : World) : (Instr.index 69 (.agg (shapesV b)) (.int .i64 k)).run Tryd.prog w = .ok (.agg #[.string (wordK k), fieldsRow b k.toNat]) w := by
  rcases kinds h1 h2 with rfl | rfl | rfl | rfl | rfl | rfl | rfl | rfl | rfl | rfl | rfl | rfl <;> kernel_rfl
theorem fieldsRow_new {b k x : Nat} (h : (fieldsRow b k).ownBlock = some x) : b < x := by
  unfold fieldsRow at h
  split at h <;> simp [Value.ownBlock] at h <;> omega
theorem fieldsK_bd {k : Int} : (∀ f ∈ fieldsK k, f ≤ 12) ∧ (fieldsK k).length ≤ 4 := by
  unfold fieldsK
  repeat' split
  all_goals (constructor <;> simp)
def LinePost (w : World) (o : Option ByteArray) (e : Ending) (w' : World) : Prop := e = .returned (.tuple #[.string (o.getD eB), .int .i64 (match o with | none => 1 | some _ => 0)]) ∧ Kept [] w w'
theorem LinePost.no {w w' : World} {o : Option ByteArray} (h : o = none) (hk : Kept [] w w') : LinePost w o (.returned (.tuple #[.string { data := #[] }, .int .i64 1])) w' := by subst h; exact ⟨rfl, hk⟩
theorem LinePost.yes {w w' : World} {o : Option ByteArray} {s : ByteArray} (h : o = some s) (hk : Kept [] w w') : LinePost w o (.returned (.tuple #[.string s, .int .i64 0])) w' := by subst h; exact ⟨rfl, hk⟩
open Classical in
noncomputable def endW (k : Int) : Option (List ByteArray × StepD) → Option ByteArray
  | none => none
  | some (ws, y) => if y = zS k then some (joinT ws) else none
open Classical in
theorem lineT_end (x : StepD) (h : 1 ≤ x.kind ∧ x.kind ≤ 12) : lineT x = endW x.kind (goF (fieldsK x.kind) x [wordK x.kind]) := by
  unfold lineT
  rw [← progW_line]
  unfold progW
  rw [if_pos h]
  cases goF (fieldsK x.kind) x [wordK x.kind] with
  | none => rfl
  | some p =>
    obtain ⟨ws, y⟩ := p
    show (if y = zS x.kind then some ws else none).map joinT = if y = zS x.kind then some (joinT ws) else none
    split <;> rfl
open Classical in
theorem endW_no {k : Int} {ws : List ByteArray} {y : StepD} (h : sameS y (zS k) = false) : endW k (some (ws, y)) = none := by
  unfold sameS at h
  unfold endW
  exact if_neg (of_decide_eq_false h)
open Classical in
theorem endW_yes {k : Int} {ws : List ByteArray} {y : StepD} (h : sameS y (zS k) = true) : endW k (some (ws, y)) = some (joinT ws) := by
  unfold sameS at h
  unfold endW
  exact if_pos (of_decide_eq_true h)
theorem lineT_out (x : StepD) (h : ¬ (1 ≤ x.kind ∧ x.kind ≤ 12)) : lineT x = none := by
  unfold lineT lineW
  rw [if_neg (fun hh => h ⟨hh.1, hh.2.1⟩)]
  rfl
theorem Blk.grown {w w' : World} {b : Nat} {cs : Array Value} {t : TypeId} {row : Option Nat} (h : Blk w b cs t) (hg : w.grownBy w' row) (hn : some b ≠ row) : Blk w' b cs t := by
  have hl := h.lt
  unfold Blk at *
  rw [hg.block b hl hn]
  exact h
theorem fZ_kind (f : Nat) (x : StepD) : (fZ f x).kind = x.kind := by unfold fZ; split <;> rfl
theorem wordK_size {k : Int} (h1 : 1 ≤ k) (h2 : k ≤ 12) : (wordK k).size ≤ 4194306 := by
  rcases kinds h1 h2 with rfl | rfl | rfl | rfl | rfl | rfl | rfl | rfl | rfl | rfl | rfl | rfl <;> decide

set_option maxRecDepth 100000 in
set_option maxHeartbeats 8000000 in
theorem line_any (x : StepD) (pv av : Value) (w : World) (hx : StepV w x pv av) (sm : StepSm x) (ht : TabVar w) : Calls Tryd.prog 14 #[.agg (stepC x pv av)] w (LinePost w (lineT x)) := by
  obtain ⟨i0, hi0, hz0, hz1, hz2⟩ := info_parts infoStr5
  have HX := Lib.hid hx
  have SM := Lib.hid sm
  have HT := Lib.hid ht
  obtain ⟨PA, pc, rfl, _⟩ := hx.1
  obtain ⟨AA, ac, rfl, _⟩ := hx.2.form
  clear hx sm ht
  by_cases hk : 1 ≤ x.kind ∧ x.kind ≤ 12
  · have HL := Lib.hid (lineT_end x hk)
    obtain ⟨R, hR⟩ : ∃ R, goF (fieldsK x.kind) x [wordK x.kind] = R := ⟨_, rfl⟩
    rw [hR] at HL
    obtain ⟨FK, hFK⟩ : ∃ FK, fieldsK x.kind = FK := ⟨_, rfl⟩
    rw [hFK] at hR
    have HFK := Lib.hid hFK
    have HR := Lib.hid hR
    have hbd := fieldsK_bd (k := x.kind)
    rw [hFK] at hbd
    have HF12 := Lib.hid hbd.1
    have hm4 := hbd.2
    obtain ⟨m, hm⟩ : ∃ m, FK.length = m := ⟨_, rfl⟩
    rw [hm] at hm4
    have HM := Lib.hid hm
    have HSHP : Hid (∀ b W, (Instr.index 69 (.agg (shapesV b)) (.int .i64 x.kind)).run Tryd.prog W = .ok (.agg #[.string (wordK x.kind), fieldsRow b x.kind.toNat]) W) := fun b W => shape_at b x.kind hk.1 hk.2 W
    have HKI := Lib.hid hk
    have d0 : decide (x.kind < 1) = false := decide_eq_false (by omega)
    have d1 : decide (12 < x.kind) = false := decide_eq_false (by omega)
    obtain ⟨W0, hW0⟩ : ∃ W0, w.alloc (.cells (stepC x (.slice PA x.place.length pc) (.slice AA x.attrs.length ac)) 40) = W0 := ⟨_, rfl⟩
    have HK0 : Hid (Kept [] w W0) := by show Kept _ _ _; rw [← hW0]; exact (Kept.refl [] w).alloc _
    have HB0 : Hid (Blk W0 w.heap.size (stepC x (.slice PA x.place.length pc) (.slice AA x.attrs.length ac)) 40) := by show Blk _ _ _ _; rw [← hW0]; exact Blk.new _ _ _
    have HS0 : Hid (W0.heap.size = w.heap.size + 1) := by show _ = _; rw [← hW0]; simp
    have HW0 := Lib.hid hW0
    have HSH : Hid (∀ W, Kept [] W0 W → Calls Tryd.prog 27 #[] W fun e w' => ∃ b, W0.heap.size ≤ b ∧ e = .returned (.agg (shapesV b)) ∧ RdI w' .i64 (fieldsRow b x.kind.toNat) (FK.map Int.ofNat) ∧ Kept [] W w') := fun W hkw => (shapes_any W).mono fun e w' ⟨h1, h2, h3⟩ => ⟨_, hkw.size, h1, by
      have := h2 x.kind.toNat (by have := HKI.out; omega) (by have := HKI.out; omega)
      rw [show ((x.kind.toNat : Nat) : Int) = x.kind from by have := HKI.out; omega, HFK.out] at this
      exact this, h3⟩
    have hc0 : W0.cell? ⟨w.heap.size, 0, none⟩ = some (.int .i64 x.kind) := HB0.out.cell 0
    have HC0 : Hid (∀ W, Kept [] W0 W → W.cell? ⟨w.heap.size, 0, none⟩ = some (.int .i64 x.kind)) := fun W hkw => (HB0.out.kept hkw (by simp)).cell 0
    clear hR hFK hbd hm hW0 hk
    have hmx' : Tryd.prog.follows .mixedOrders = true := by kernel_rfl
    dsimp only [stepC]
    go_enter Tryd.func14, Tryd.ntmps14
    go_upto_region 3 with fail
    rw [show w.alloc (.cells #[.int .i64 x.kind, .string x.text, .slice PA x.place.length pc, .int .i64 x.source, .int .i64 x.time, .string x.type, .slice AA x.attrs.length ac, .int .i64 x.pattern, .int .i64 x.op, .int .i64 x.dest, .int .i64 x.broker, .int .i64 x.number, .int .i64 x.at_, .int .u8 x.wth] 40) = W0 from HW0.out]
    go_cut [4] from 18 (fun p wx => ∃ (sb : Nat) (FA : Option Addr) (fc : Nat), p = .pointer (some ⟨sb, 0, none⟩) ∧ Blk wx sb #[.string (wordK x.kind), .slice FA m fc] 68 ∧ RdI wx .i64 (.slice FA m fc) (FK.map Int.ofNat) ∧ (∀ z, (Value.slice FA m fc).ownBlock = some z → W0.heap.size < z) ∧ Kept [] W0 wx)
    case first =>
      go_region_held3 (fun w' => w'.cell? ⟨w.heap.size, 0, none⟩ = some (.int .i64 x.kind)) (first | exact hc0 | exact HC0.out _ (Kept.refl _ _).drew | exact HC0.out _ ((Kept.refl _ _).alloc _) | exact HC0.out _ ((Kept.refl _ _).alloc _).drew | exact HC0.out _ HK1.out | exact HC0.out _ (HK1.out.alloc _) | exact HC0.out _ (HK1.out.setCell (.inr (Nat.le_refl _)) _) | exact HC0.out _ ((HK1.out.setCell (.inr (Nat.le_refl _)) _).setCell (.inr (Nat.le_refl _)) _)) ((go_at_call 27; first | (refine (HSH.out _ (Kept.refl _ _).drew).mono ?_; rintro e w1 ⟨b, hb, rfl, hrows, hk1⟩; have HK1 : Hid (Kept [] W0 w1) := ((Kept.refl [] W0).drew).trans hk1; have HROWS := Lib.hid hrows; obtain ⟨FA, fc, hf, hfm, hfc⟩ := hrows; rw [List.length_map, HM.out] at hf; have hix := fun W => HSHP.out b W; rw [hf] at hix; have HFB : Hid (∀ z, (Value.slice FA m fc).ownBlock = some z → W0.heap.size < z) := (fun z hz => by have := fieldsRow_new (b := b) (k := x.kind.toNat) (by rw [hf]; exact hz); omega); rw [hf] at HROWS; clear hf hfm hfc hk1) | (refine (HSH.out _ ((Kept.refl _ _).alloc _).drew).mono ?_; rintro e w1 ⟨b, hb, rfl, hrows, hk1⟩; have HK1 : Hid (Kept [] W0 w1) := (((Kept.refl [] W0).alloc _).drew).trans hk1; have HBA : Hid (Blk w1 W0.heap.size #[.string { data := #[] }, .slice none 0 0] 68) := Blk.kept (w := (W0.alloc (.cells #[.string { data := #[] }, .slice none 0 0] 68)).drew) (Blk.new W0 _ _) hk1 (by simp); have y0 := HBA.out.cell 0; have y1 := HBA.out.cell 1; have f0 := HBA.out.free 0; have f1 := HBA.out.free 1; simp at y0 y1; have HROWS := Lib.hid hrows; obtain ⟨FA, fc, hf, hfm, hfc⟩ := hrows; rw [List.length_map, HM.out] at hf; have hix := fun W => HSHP.out b W; rw [hf] at hix; have HFB : Hid (∀ z, (Value.slice FA m fc).ownBlock = some z → W0.heap.size < z) := (fun z hz => by have := fieldsRow_new (b := b) (k := x.kind.toNat) (by rw [hf]; exact hz); omega); rw [hf] at HROWS; clear hf hfm hfc hk1)))
      all_goals (go_wp2_with fail)
      all_goals go_meet
      all_goals (first | exact ⟨_, FA, fc, rfl, Blk.new _ _ _, HROWS.out.keep ((Kept.refl [] w1).alloc _), HFB.out, HK1.out.alloc _⟩ | exact ⟨_, FA, fc, rfl, (HBA.out.set 0 (.string (wordK x.kind))).set 1 (.slice FA m fc), HROWS.out.kept (S := [W0.heap.size]) (((Kept.refl _ w1).setCell (.inl (by simp)) _).setCell (.inl (by simp)) _) (fun z hz => by have := HFB.out z hz; simp; omega), HFB.out, (HK1.out.setCell (.inr (Nat.le_refl _)) _).setCell (.inr (Nat.le_refl _)) _⟩ | skip)
      all_goals trace_state
      all_goals sorry
    case rest =>
      obtain ⟨sb, FA, fc, rfl, hsb, hrd, hfb, hkc⟩ := hcut
      have HRD := Lib.hid hrd
      have HFB := Lib.hid hfb
      have HKC := Lib.hid hkc
      have s0 := hsb.cell 0
      have s1 := hsb.cell 1
      simp at s0 s1
      have hsl := hsb.lt
      have hsn : ¬ sb = wc.heap.size := by omega
      have s1' : (wc.alloc (.cells #[.string (wordK x.kind)] 9)).cell? ⟨sb, 1, none⟩ = some (.slice FA m fc) := by
        have := (hsb.alloc (.cells #[.string (wordK x.kind)] 9)).cell 1
        simpa using this
      have HO1 := Lib.hid (OwnS.lit wc wc.heap.size [wordK x.kind] (Nat.le_refl _) (by simp) (by simp [maxLen]))
      have HBC := Lib.hid (HB0.out.kept hkc (by simp))
      have HBCl := Lib.hid ((HB0.out.kept hkc (by simp)).lt)
      clear hsb hrd hfb hkc hc0
      refine ‹∀ (a : Act) (w : World), Code.wp Tryd.prog _ _ a w → _› _ _ ?_
      go_wp2_with fail
      go_loopw [5, 28] (fun vv ii wr => ∃ (i : Nat) (ws : List ByteArray) (y : StepD) (qv bv : Value), i ≤ m ∧ ii = .int .i64 i ∧ OwnS wr wc.heap.size vv ws ∧ goF (FK.drop i) y ws = R ∧ Blk wr w.heap.size (stepC y qv bv) 40 ∧ StepV w y qv bv ∧ StepSm y ∧ y.kind = x.kind ∧ ws.length ≤ 1 + i * 2097153 ∧ (∀ u ∈ ws, u.size ≤ 4194306) ∧ Kept [w.heap.size] wc wr) (fun _ ii _ => m - (intOf ii).toNat)
      case atStart => exact ⟨0, [wordK x.kind], x, _, _, by omega, rfl, HO1.out, HR.out, HBC.out.alloc _, HX.out, SM.out, rfl, by simp, (fun u hu => by simp at hu; rw [hu]; exact wordK_size HKI.out.1 HKI.out.2), (Kept.refl _ _).alloc _⟩
      case round =>
        obtain ⟨i, ws, y, qv, bv, hi, rfl, hown, hgo, hblk, hv, hsm, hyk, hwl, hws, hK⟩ := hrel
        have HK := Lib.hid hK
        have HGO := Lib.hid hgo
        have HBY := Lib.hid hblk
        have HV := Lib.hid hv
        have HSM := Lib.hid hsm
        have HYK := Lib.hid hyk
        have HWS := Lib.hid hws
        obtain ⟨WA, wcp, rfl⟩ := hown.len
        have HOWN := Lib.hid hown
        obtain ⟨WL, hWL⟩ : ∃ n, ws.length = n := ⟨_, rfl⟩
        have HWL := Lib.hid hWL
        rw [hWL] at hwl ⊢
        clear hgo hblk hv hsm hyk hws hown hWL
        by_cases hlt : i < m
        · obtain ⟨f, hfg⟩ : ∃ f, FK[i]? = some f := ⟨_, List.getElem?_eq_getElem (by rw [HM.out]; exact hlt)⟩
          have hf12 := HF12.out f (List.mem_of_getElem? hfg)
          have HD := Lib.hid (drop_at hfg)
          obtain ⟨A', c', he, _, hE⟩ := HRD.out.kept hK (fun z hz => by have := HFB.out z hz; rw [HS0.out] at this; simp; omega)
          obtain ⟨fb, foff, rfl, hcc⟩ := hE (by intro e; have := congrArg List.length e; simp [HM.out] at this; omega)
          injection he with he1 he2 he3
          subst he1 he3
          have hcf := hcc i (Int.ofNat f) (by rw [List.getElem?_map, hfg]; rfl)
          have HASK : Hid (FieldAsk w wr w.heap.size y qv bv) := ⟨Kept.after (HK0.out.trans HKC.out) hK (by intro z hz; simp at hz; omega), Nat.le_refl _, HBY.out, HV.out, HSM.out, HT.out⟩
          have HWC := Lib.hid (words_any f hf12 w wr w.heap.size y qv bv HASK.out)
          have hnl := fW_len HSM.out f
          have HFS := Lib.hid (fW_size HSM.out f)
          obtain ⟨NL, hNL⟩ : ∃ n, (fW f y).length = n := ⟨_, rfl⟩
          rw [hNL] at hnl
          have HNL := Lib.hid hNL
          have hszr := HK.out.size
          clear he2 hE hcc hK hfg hNL
          go_wp2_with fail
          refine HWC.out.mono ?_
          rintro e w3 ⟨v, qv', bv', rfl, hown3, hblk3, hv3, hk3⟩
          have HO3 := Lib.hid hown3
          have HB3 := Lib.hid hblk3
          have HV3 := Lib.hid hv3
          have HK3 := Lib.hid hk3
          have HKW : Hid (Kept [] w w3) := Kept.after (HK0.out.trans HKC.out) (HK.out.trans HK3.out) (by intro z hz; simp at hz; omega)
          clear hown3 hblk3 hv3 hk3
          obtain ⟨q, hq⟩ : ∃ q, fOk f y = q := ⟨_, rfl⟩
          rw [hq] at HO3 ⊢
          cases q with
          | false =>
            have HRN : Hid (R = none) := by show _ = _; rw [← HGO.out, HD.out, goF, if_neg (by rw [hq]; decide)]
            clear hq HO3
            go_wp2_with fail
            go_ret2
            exact LinePost.no (by rw [HL.out, HRN.out]; rfl) HKW.out
          | true =>
            have HRG : Hid (goF (FK.drop (i + 1)) (fZ f y) (ws ++ fW f y) = R) := by show _ = _; rw [← HGO.out, HD.out, goF, if_pos hq]
            have ho3 := HO3.out rfl
            have hsz3 := HK3.out.size
            rcases ho3.2 with ⟨_, h0⟩ | ⟨g, cap, cur, rfl, hgb, hgg, hcap, _⟩
            · have := HNL.out; omega
            · have HCL : Hid (∀ j u, (cW (fW f y))[j]? = some u → w3.cell? ((⟨g, 0, none⟩ : Addr).add j) = some u) := fun j u hu => World.ownsRow.cells ho3 (g := g) rfl j u hu
              have hcl : (cW (fW f y)).length = NL * 1 := by unfold cW; rw [List.length_map, HNL.out, Nat.mul_one]
              have HCO : Hid (∀ u ∈ cW (fW f y), u.oneCell' = true) := fun u hu => by
                unfold cW at hu
                obtain ⟨z, _, rfl⟩ := List.mem_map.1 hu
                rfl
              have hbl := HBCl.out
              have HOK : Hid (w3.ownsRow wc.heap.size 9 1 (.slice WA WL wcp) WL (cW ws)) := by
                have h := ownsRow_keep HOWN.out HK3.out (fun z hz => by have := (World.ownsRow.lt HOWN.out z hz).1; simp; omega)
                rw [HWL.out] at h
                exact h
              rw [HNL.out]
              clear hq HO3 ho3 hgg hgb
              go_wp2_with (at_builtin; refine wpList_append_own_at _ rfl _ _ 62 rfl wc.heap.size 9 i0 (.string { data := #[] }) 1 16 Tryd.underlying62 hi0 hz0 hz1 hz2 rfl (by decide) (.slice WA WL wcp) WL (cW ws) rfl HOK.out ⟨g, 0, none⟩ NL cap (cW (fW f y)) rfl hcl HCL.out HCO.out (by unfold maxLen; omega) (by omega) (by omega) ?_)
              intro v' w5 hown5 hgrow5 _ hat5
              have HK5 : Hid (Kept [w.heap.size] wc w5) := Kept.grown (HK.out.trans HK3.out) hgrow5 (fun z hz => .inr (World.ownsRow.lt HOK.out z hz).1)
              have HB5 := Lib.hid (HB3.out.grown hgrow5 (fun e => by have := (World.ownsRow.lt HOK.out _ e.symm).1; omega))
              have HO5 : Hid (OwnS w5 wc.heap.size v' (ws ++ fW f y)) := by
                show World.ownsRow _ _ _ _ _ _ _
                rw [List.length_append, HWL.out, HNL.out]
                unfold cW at hown5 ⊢
                rw [List.map_append]
                exact hown5
              clear hown5 hgrow5 hat5
              go_wp2_with fail
              go_roundw
              case rel => exact ⟨i + 1, ws ++ fW f y, fZ f y, qv', bv', by omega, by go_num, HO5.out, HRG.out, HB5.out, HV3.out, fZ_sm HSM.out f, (fZ_kind f y).trans HYK.out, by rw [List.length_append, HWL.out, HNL.out]; omega, (fun u hu => by rcases List.mem_append.1 hu with hu | hu; exact HWS.out u hu; exact HFS.out u hu), HK5.out⟩
              case measure => simp [intOf]; omega
        · have hin : i = m := by omega
          have HRS : Hid (R = some (ws, y)) := by show _ = _; rw [← HGO.out, List.drop_eq_nil_of_le (by rw [HM.out]; omega)]; rfl
          have HKW : Hid (Kept [] w wr) := Kept.after (HK0.out.trans HKC.out) hK (by intro z hz; simp at hz; omega)
          obtain ⟨QA, qc, rfl, _⟩ := HV.out.1
          obtain ⟨BA, bc, rfl, _⟩ := HV.out.2.form
          obtain ⟨a0, a1, a2, a3, a4, a5, a6, a7, a8, a9, a10, a11, a12, a13⟩ := HBY.out.step
          have HSA := Lib.hid (same_step y (zS y.kind) _ _ _ _ wr (HV.out.keep HKW.out) (⟨rdI_nil wr, rdsA_nil wr⟩ : StepV wr (zS y.kind) (.slice none 0 0) (.slice none 0 0)))
          obtain ⟨q, hq⟩ : ∃ q, sameS y (zS y.kind) = q := ⟨_, rfl⟩
          rw [hq] at HSA
          have HQ := Lib.hid hq
          have HJ : Hid (∀ W, Kept [] wr W → Calls Tryd.prog 24 #[.slice WA WL wcp, .string { data := #[32] }] W fun e w' => e = .returned (.string (joinT ws)) ∧ Kept [] W w') := fun W hkw => join_any _ ws wc.heap.size W (by have := OwnS.keep HOWN.out hkw; rwa [HWL.out] at this) (by
            have := join_len ws 4194306 HWS.out
            rw [HWL.out] at this
            have : WL * (4194306 + 1) ≤ 8388613 * 4194307 := Nat.mul_le_mul (by omega) (by omega)
            omega) (by rw [HWL.out]; omega)
          clear hK hq
          go_wp2_with fail
          refine HSA.out.mono ?_
          rintro e w6 ⟨rfl, hk6⟩
          have HK6 := Lib.hid hk6
          clear hk6 a0 a1 a2 a3 a4 a5 a6 a7 a8 a9 a10 a11 a12 a13
          cases q with
          | false =>
            have HN : Hid (lineT x = none) := by
              show _ = _
              rw [HL.out, HRS.out]
              have h := HQ.out
              rw [HYK.out] at h
              exact endW_no h
            go_wp2_with fail
            go_ret2
            exact LinePost.no HN.out (HKW.out.trans HK6.out)
          | true =>
            have HY : Hid (lineT x = some (joinT ws)) := by
              show _ = _
              rw [HL.out, HRS.out]
              have h := HQ.out
              rw [HYK.out] at h
              exact endW_yes h
            go_wp2_with fail
            refine (HJ.out _ HK6.out).mono ?_
            rintro e w7 ⟨rfl, hk7⟩
            have HK7 := Lib.hid ((HKW.out.trans HK6.out).trans hk7)
            clear hk7
            go_wp2_with fail
            go_ret2
            exact LinePost.yes HY.out HK7.out
  · have HL := Lib.hid (lineT_out x hk)
    have HK0 : Hid (Kept [] w (w.alloc (.cells (stepC x (.slice PA x.place.length pc) (.slice AA x.attrs.length ac)) 40))) := (Kept.refl [] w).alloc _
    by_cases h1 : x.kind < 1
    · have d0 : decide (x.kind < 1) = true := decide_eq_true h1
      clear hk h1
      dsimp only [stepC]
      go_enter Tryd.func14, Tryd.ntmps14
      go_wp2_with fail
      go_ret2
      exact LinePost.no HL.out HK0.out
    · have d0 : decide (x.kind < 1) = false := decide_eq_false h1
      have d1 : decide (12 < x.kind) = true := decide_eq_true (by omega)
      clear hk h1
      dsimp only [stepC]
      go_enter Tryd.func14, Tryd.ntmps14
      go_wp2_with fail
      go_ret2
      exact LinePost.no HL.out HK0.out

end Go.Proofs.YthgenobbpaclhaaDoor

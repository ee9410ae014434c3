/- Scripts, the document's: an event's words: the walk. -/
import Derived.Test.YthgenobbpaclhaaDoorZ21
import Derived.Test.YthgenobbpaclhaaDoorZ7
set_option linter.unusedVariables false
set_option linter.unusedSimpArgs false
set_option linter.unnecessarySimpa false
namespace Go.Proofs.YthgenobbpaclhaaDoor
open Go.RowKit Go.Shelf
attribute [local go_sem] Oper.semAt_some

set_option maxRecDepth 100000 in
set_option maxHeartbeats 8000000 in
theorem rinject_any (x : StepD) (pv av : Value) (w : World) (hx : StepV w x pv av) (sm : StepSm x) (ht : TabVar w) : Calls Tryd.prog 41 #[.agg (stepC x pv av)] w (InjPost w x) := by
  have HX := Lib.hid hx
  have SM := Lib.hid sm
  obtain ⟨PA, pc, rfl, _⟩ := hx.1
  obtain ⟨AA, ac, rfl, ham⟩ := hx.2.form
  have HIT : Hid (∀ n W, I64 n → Kept [] w W → Calls Tryd.prog 25 #[.int .i64 n] W fun e w' => e = .returned (.string (numT n)) ∧ Kept [] W w') := fun n W hn hk => ritoa_any n hn W (ht.keep hk)
  have HNU : Hid (∀ n W, I64 n → Kept [] w W → Calls Tryd.prog 42 #[.int .i64 n] W fun e w' => e = .returned (.string (numT n)) ∧ Kept [] W w') := fun n W hn hk => rnum_any n hn W (ht.keep hk)
  have HQU : Hid (∀ s W, s.size ≤ 1048576 → Calls Tryd.prog 40 #[.string s] W fun e w' => e = .returned (.string (quoT s)) ∧ Kept [] W w') := fun s W hs => rquoted_any s hs W
  have HVT : Hid (∀ k n s W, Fits (k, n, s) → Calls Tryd.prog 60 #[.agg #[.int .i64 k, .int .i64 n, .string s]] W fun e w' => e = .returned (.string (textV (k, n, s))) ∧ Kept [] W w') := fun k n s W hf => rtext_any k n s hf W
  obtain ⟨n, hn⟩ : ∃ n, x.attrs.length = n := ⟨_, rfl⟩
  have HN := Lib.hid hn
  have hnl : n ≤ 1048576 := by rw [← hn]; exact sm.alen
  have hr1 := num_size sm.source
  have hr2 := num_size sm.time
  have hr3 : (quoT x.type).size ≤ 4194306 := by have := quo_size x.type; have := sm.type; omega
  have hr4 : (numT (n : Int)).size ≤ 300 := num_size ⟨by omega, by omega⟩
  have HI0 := Lib.hid (inj0_text x)
  have HTL : Hid (tailT (injW x) = tailT (inj0 x ++ x.attrs.flatMap attrW)) := by show _ = _; rw [injW_eq]
  have H0S : Hid ((tailT (inj0 x)).size ≤ 16777300) := by
    have h := tailT_size (inj0 x) 4194306 (fun u hu => by
      unfold inj0 at hu
      simp at hu
      rcases hu with rfl | rfl | rfl | rfl
      · omega
      · omega
      · have := quo_size x.type; have := sm.type; omega
      · rw [hn]; omega)
    have hl4 : (inj0 x).length = 4 := rfl
    rw [hl4] at h
    show _ ≤ _
    omega
  obtain ⟨W0, hW0⟩ : ∃ W0, w.alloc (.cells (stepC x (.slice PA x.place.length pc) (.slice AA x.attrs.length ac)) 40) = W0 := ⟨_, rfl⟩
  have HK0 : Hid (Kept [] w W0) := by show Kept _ _ _; rw [← hW0]; exact (Kept.refl [] w).alloc _
  have HB0 : Hid (Blk W0 w.heap.size (stepC x (.slice PA x.place.length pc) (.slice AA x.attrs.length ac)) 40) := by show Blk _ _ _ _; rw [← hW0]; exact Blk.new _ _ _
  have HW0 := Lib.hid hW0
  have a3 : ∀ s : SW (Kept [] W0), s.to.cell? ⟨w.heap.size, 3, none⟩ = some (.int .i64 x.source) := fun s => (HB0.out.kept s.ok (by simp)).cell 3
  have a4 : ∀ s : SW (Kept [] W0), s.to.cell? ⟨w.heap.size, 4, none⟩ = some (.int .i64 x.time) := fun s => (HB0.out.kept s.ok (by simp)).cell 4
  have a5 : ∀ s : SW (Kept [] W0), s.to.cell? ⟨w.heap.size, 5, none⟩ = some (.string x.type) := fun s => (HB0.out.kept s.ok (by simp)).cell 5
  have a6 : ∀ s : SW (Kept [] W0), s.to.cell? ⟨w.heap.size, 6, none⟩ = some (.slice AA n ac) := fun s => by have := (HB0.out.kept s.ok (by simp)).cell 6; rw [← HN.out]; exact this
  have HKS : Hid (∀ s : SW (Kept [] W0), Kept [] w s.to) := fun s => HK0.out.trans s.ok
  have HTY : Hid (x.type.size ≤ 1048576) := sm.type
  have HSRC : Hid (I64 x.source) := sm.source
  have HTIM : Hid (I64 x.time) := sm.time
  have HNI : Hid (I64 (n : Int)) := ⟨by omega, by omega⟩
  clear hx sm ht hn hW0 ham
  dsimp only [stepC]
  go_enter Tryd.func41, Tryd.ntmps41
  go_upto_region 1 with fail
  rw [show w.alloc (.cells #[.int .i64 x.kind, .string x.text, .slice PA x.place.length pc, .int .i64 x.source, .int .i64 x.time, .string x.type, .slice AA x.attrs.length ac, .int .i64 x.pattern, .int .i64 x.op, .int .i64 x.dest, .int .i64 x.broker, .int .i64 x.number, .int .i64 x.at_, .int .u8 x.wth] 40) = W0 from HW0.out]
  refine wp_region_sw (Kept [] W0) (stays_kept W0) (Kept.refl _ _) (by kernel_rfl) (by kernel_rfl) (fun hne => ?_)
  repeat (go_big_quiet_step (first
    | (go_at_call 25; first | exact SW.calls (stays_kept W0) (HIT.out _ _ HSRC.out (HKS.out _)) | exact SW.calls (stays_kept W0) (HIT.out _ _ HNI.out (HKS.out _)))
    | (go_at_call 42; exact SW.calls (stays_kept W0) (HNU.out _ _ HTIM.out (HKS.out _)))
    | (go_at_call 40; exact SW.calls (stays_kept W0) (HQU.out _ _ HTY.out))))
  refine wpQuiet_nil ?_
  intro w1 hs1
  have HK1 := Lib.hid hs1
  rw [show ({ data := #[32] } ++ numT x.source ++ { data := #[32] } ++ numT x.time ++ { data := #[32] } ++ quoT x.type ++ { data := #[32] } ++ numT (n : Int) : ByteArray) = tailT (inj0 x) from by rw [← HN.out]; exact HI0.out]
  have HBX1 := Lib.hid (HB0.out.kept hs1 (by simp))
  clear hs1 a3 a4 a5 a6 hr1 hr2 hr3 hr4
  have b5 : w1.cell? ⟨w.heap.size, 5, none⟩ = some (.string x.type) := HBX1.out.cell 5
  have hlt5 := len_at x.type rfl
  have HTD : Hid (decide ((x.type.size : Int) ≤ 64) = decide (x.type.size ≤ 64)) := by show _ = _; congr 1; apply propext; omega
  obtain ⟨O0, hO0⟩ : ∃ o, tailT (inj0 x) = o := ⟨_, rfl⟩
  have HO0 := Lib.hid hO0
  rw [hO0]
  clear hO0
  go_wp2_with fail
  go_loopw [4, 5, 6] (fun oo kk ii wr => ∃ (k : Nat), k ≤ n ∧ ii = .int .i64 k ∧ oo = .string (tailT (inj0 x ++ (x.attrs.take k).flatMap attrW)) ∧ kk = .bool (decide (x.type.size ≤ 64) && attrsOk (x.attrs.take k)) ∧ Kept [] W0 wr) (fun _ _ ii _ => n - (intOf ii).toNat)
  case atStart => exact ⟨0, by omega, rfl, by rw [List.take_zero, List.flatMap_nil, List.append_nil, HO0.out], by rw [HTD.out]; simp [attrsOk], HK1.out⟩
  case round =>
    obtain ⟨k, hk, rfl, rfl, rfl, hK⟩ := hrel
    have HK := Lib.hid hK
    obtain ⟨O, hO⟩ : ∃ O, tailT (inj0 x ++ (x.attrs.take k).flatMap attrW) = O := ⟨_, rfl⟩
    have HO := Lib.hid hO
    obtain ⟨g, hg⟩ : ∃ g, (decide (x.type.size ≤ 64) && attrsOk (x.attrs.take k)) = g := ⟨_, rfl⟩
    have HG := Lib.hid hg
    have hos : O.size ≤ 8800000000000 := by
      rw [← hO, tailT_app]
      have h1 := H0S.out
      have h2 := tailT_size ((x.attrs.take k).flatMap attrW) 4194306 (fun u hu => by
        obtain ⟨a, ha, hu⟩ := List.mem_flatMap.1 hu
        have hs := SM.out.attrs a (List.mem_of_mem_take ha)
        unfold attrW at hu
        simp at hu
        rcases hu with rfl | rfl
        · have := quo_size a.1; have := hs.1; omega
        · exact textV_size hs)
      rw [attrsW_len, List.length_take, HN.out] at h2
      rw [ByteArray.size_append]
      omega
    rw [hO, hg]
    clear hO hg
    have HBR := Lib.hid (HBX1.out)
    have hb6 : wr.cell? ⟨w.heap.size, 6, none⟩ = some (.slice AA n ac) := by have := (HB0.out.kept hK (by simp)).cell 6; rw [← HN.out]; exact this
    by_cases hlt : k < n
    · obtain ⟨b, off, c', a, cs, he, hxi, hE, hc⟩ := (Rds.keep HX.out.2 (HK0.out.trans hK)).at (k := k) (by rw [HN.out]; exact hlt)
      rw [HN.out] at he
      injection he with he1 he2 he3
      subst he1 he3
      obtain ⟨rfl, hs1, hs2⟩ := attrR_cells hE
      have hsm := SM.out.attrs a (List.mem_of_getElem? hxi)
      have htk : x.attrs.take (k + 1) = x.attrs.take k ++ [a] := by
        obtain ⟨g1, g2⟩ := List.getElem?_eq_some_iff.1 hxi
        rw [List.take_succ_eq_append_getElem g1, g2]
      have HTK := Lib.hid htk
      obtain ⟨nm, k0, nn, s⟩ := a
      have HFIT := Lib.hid hsm.fits
      have HNM : Hid (nm.size ≤ 1048576) := hsm.1
      have hq1 : (quoT nm).size ≤ 4194306 := by have := quo_size nm; have := hsm.1; dsimp only at this; omega
      have hq2 : (textV (k0, nn, s)).size ≤ 4194306 := textV_size hsm
      have e0 := hc 0 (by decide)
      have e1 := hc 1 (by decide)
      have e2 := hc 2 (by decide)
      have e3 := hc 3 (by decide)
      simp [attrC, show attrR.sz = 4 from rfl] at e0 e1 e2 e3
      have HCK : Hid (∀ W, Calls Tryd.prog 61 #[.agg #[.int .i64 k0, .int .i64 nn, .string s]] W fun e w' => e = .returned (.int .i64 (chkV (k0, nn, s))) ∧ Kept [] W w') := fun W => rcheck_any k0 nn s hs2 W
      have hnm := len_at nm rfl
      have HKB := Lib.hid (HK.out.alloc (.cells #[.string nm, .int .i64 k0, .int .i64 nn, .string s] 61))
      have HBB := Lib.hid (Blk.new wr #[.string nm, .int .i64 k0, .int .i64 nn, .string s] 61)
      have HP := Lib.hid (attrOk_parts2 (k := k0) (n := nn) (nm := nm) (s := s))
      have HSTEP : Hid (O ++ ((({ data := #[32] } ++ quoT nm) ++ { data := #[32] }) ++ textV (k0, nn, s)) = tailT (inj0 x ++ (x.attrs.take (k + 1)).flatMap attrW)) := by
        show _ = _
        rw [inj_step _ _ _ _ HO.out.symm, HTK.out, List.flatMap_append, ← List.append_assoc]
        rfl
      have HGS : Hid ((g && attrOk (nm, k0, nn, s)) = (decide (x.type.size ≤ 64) && attrsOk (x.attrs.take (k + 1)))) := by
        show _ = _
        rw [HTK.out, attrsOk_snoc, ← HG.out, Bool.and_assoc]
      clear hxi hE hc he2 hs1 hs2 hsm htk hK
      go_upto_region 7 with fail
      go_cut [5] from 44 to 67 (fun v wx => v = .bool (g && attrOk (nm, k0, nn, s)) ∧ Kept [] (wr.alloc (.cells #[.string nm, .int .i64 k0, .int .i64 nn, .string s] 61)) wx)
      case first =>
        cases g with
        | false =>
          go_wp2_with fail
          go_meet
          exact ⟨rfl, Kept.refl _ _⟩
        | true =>
          by_cases hlong : nm.size ≤ 64
          · have d0 : decide ((nm.size : Int) ≤ 64) = true := decide_eq_true (by omega)
            have HD : Hid (decide (nm.size ≤ 64) = true) := decide_eq_true hlong
            clear hlong
            go_wp2_with fail
            refine (HCK.out _).mono ?_
            rintro e w2 ⟨rfl, hk2⟩
            have HK2 := Lib.hid hk2
            clear hk2
            go_wp2_with fail
            go_meet
            refine ⟨?_, HK2.out⟩
            rw [HP.out, HD.out, Bool.eq_iff_iff.2 (beq_iff_eq.trans (decide_eq_true_iff (p := chkV (k0, nn, s) = 0)).symm)]
            rfl
          · have d0 : decide ((nm.size : Int) ≤ 64) = false := decide_eq_false (by omega)
            have HD : Hid (decide (nm.size ≤ 64) = false) := decide_eq_false hlong
            clear hlong
            go_wp2_with fail
            go_meet
            exact ⟨by rw [HP.out, HD.out]; simp, Kept.refl _ _⟩
      case rest =>
        obtain ⟨rfl, hkc⟩ := hcut
        have HKC := Lib.hid hkc
        have HBC := Lib.hid (HBB.out.kept hkc (by simp))
        have HKW := Lib.hid (HKB.out.trans hkc)
        rw [HGS.out]
        clear hkc e0 e1 e2 e3
        have a0 : ∀ s' : SW (Kept [] wc), s'.to.cell? ⟨wr.heap.size, 0, none⟩ = some (.string nm) := fun s' => (HBC.out.kept s'.ok (by simp)).cell 0
        have a1 : ∀ s' : SW (Kept [] wc), s'.to.cell? ⟨wr.heap.size, 1, none⟩ = some (.int .i64 k0) := fun s' => (HBC.out.kept s'.ok (by simp)).cell 1
        have a2 : ∀ s' : SW (Kept [] wc), s'.to.cell? ⟨wr.heap.size, 2, none⟩ = some (.int .i64 nn) := fun s' => (HBC.out.kept s'.ok (by simp)).cell 2
        have a3 : ∀ s' : SW (Kept [] wc), s'.to.cell? ⟨wr.heap.size, 3, none⟩ = some (.string s) := fun s' => (HBC.out.kept s'.ok (by simp)).cell 3
        refine ‹∀ (a : Act) (w : World), Code.wp Tryd.prog _ _ a w → _› _ _ ?_
        refine wp_region_sw (Kept [] wc) (stays_kept wc) (Kept.refl _ _) (by kernel_rfl) (by kernel_rfl) (fun hne => ?_)
        repeat (go_big_quiet_step (first
          | (go_at_call 40; exact SW.calls (stays_kept wc) (HQU.out _ _ HNM.out))
          | (go_at_call 60; exact SW.calls (stays_kept wc) (HVT.out _ _ _ _ HFIT.out))))
        refine wpQuiet_nil ?_
        intro w5 hs5
        have HK5 := Lib.hid (HKW.out.trans hs5)
        clear hs5 a0 a1 a2 a3
        go_wp2_with fail
        go_roundw
        case rel =>
          exact ⟨k + 1, by omega, by go_num, by rw [← HSTEP.out], rfl, HK5.out⟩
        case measure => simp [intOf]; omega
    · have hin : k = n := by omega
      have HE : Hid (O = tailT (injW x)) := by show _ = _; rw [HTL.out, ← HO.out, hin, List.take_of_length_le (by rw [HN.out]; exact Nat.le_refl _)]
      have HE2 : Hid (g = (decide (x.type.size ≤ 64) && attrsOk x.attrs)) := by show _ = _; rw [← HG.out, hin, List.take_of_length_le (by rw [HN.out]; exact Nat.le_refl _)]
      clear hK
      go_wp2_with fail
      go_ret2
      exact ⟨by rw [HE.out, HE2.out] <;> rfl, HK0.out.trans HK.out⟩

end Go.Proofs.YthgenobbpaclhaaDoor

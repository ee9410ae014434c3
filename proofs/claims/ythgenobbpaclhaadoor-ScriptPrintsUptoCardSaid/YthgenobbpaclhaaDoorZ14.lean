/- Scripts, the program's: Print. -/
import Derived.Test.YthgenobbpaclhaaDoorZ9
import Derived.Test.YthgenobbpaclhaaDoorZ13
set_option linter.unusedVariables false
set_option linter.unusedSimpArgs false
set_option linter.unnecessarySimpa false
namespace Go.Proofs.YthgenobbpaclhaaDoor
open Go.RowKit Go.Shelf
attribute [local go_sem] Oper.semAt_some

def PrintPost (w : World) (r : ByteArray × Int) (e : Ending) (w' : World) : Prop := e = .returned (.tuple #[.string r.1, .int .i64 r.2]) ∧ Kept [] w w'
theorem PrintPost.of {w w' : World} {r : ByteArray × Int} {s : ByteArray} {x : Int} (h : r = (s, x)) (hk : Kept [] w w') : PrintPost w r (.returned (.tuple #[.string s, .int .i64 x])) w' := by subst h; exact ⟨rfl, hk⟩
theorem Kept.below_of {a b c : World} (h : Kept [] a b) (k : Below a.heap.size b c) : Kept [] a c :=
  ⟨k.os.trans h.os, k.tape.trans h.tape, k.output.trans h.output, Nat.le_trans h.size k.size, fun i hi _ => (k.block i hi).trans (h.block i hi (by simp))⟩
theorem step14 {w : World} {b o : Nat} {x : StepD} {pv av : Value} (h : ∀ j u, (stepC x pv av)[j]? = some u → w.cell? ⟨b, o + j, none⟩ = some u) : w.cell? ⟨b, o, none⟩ = some (.int .i64 x.kind) ∧ w.cell? ⟨b, o + 1, none⟩ = some (.string x.text) ∧ w.cell? ⟨b, o + 2, none⟩ = some (pv) ∧ w.cell? ⟨b, o + 3, none⟩ = some (.int .i64 x.source) ∧ w.cell? ⟨b, o + 4, none⟩ = some (.int .i64 x.time) ∧ w.cell? ⟨b, o + 5, none⟩ = some (.string x.type) ∧ w.cell? ⟨b, o + 6, none⟩ = some (av) ∧ w.cell? ⟨b, o + 7, none⟩ = some (.int .i64 x.pattern) ∧ w.cell? ⟨b, o + 8, none⟩ = some (.int .i64 x.op) ∧ w.cell? ⟨b, o + 9, none⟩ = some (.int .i64 x.dest) ∧ w.cell? ⟨b, o + 10, none⟩ = some (.int .i64 x.broker) ∧ w.cell? ⟨b, o + 11, none⟩ = some (.int .i64 x.number) ∧ w.cell? ⟨b, o + 12, none⟩ = some (.int .i64 x.at_) ∧ w.cell? ⟨b, o + 13, none⟩ = some (.int .u8 x.wth) :=
  ⟨h 0 _ rfl, h 1 _ rfl, h 2 _ rfl, h 3 _ rfl, h 4 _ rfl, h 5 _ rfl, h 6 _ rfl, h 7 _ rfl, h 8 _ rfl, h 9 _ rfl, h 10 _ rfl, h 11 _ rfl, h 12 _ rfl, h 13 _ rfl⟩
theorem nl_size (s : ByteArray) : (s ++ { data := #[10] } : ByteArray).size = s.size + 1 := by rw [ByteArray.size_append]; rfl
theorem str_nl (s : ByteArray) : Lib.strCells (s ++ { data := #[10] }) = Lib.byteCells (s.data.toList ++ [10]) := by
  rw [Lib.strCells_eq]
  simp

set_option maxRecDepth 100000 in
set_option maxHeartbeats 8000000 in
theorem print_any (c : ConfD) (pv sv v : Value) (L : List StepD) (w : World) (hc : ConfV w c pv sv) (csm : ConfSm c) (hl : RdSt w v L) (lsm : ∀ x ∈ L, StepSm x) (ht : TabVar w) :
    Calls Tryd.prog 6 #[.agg (confC c pv sv), v] w (PrintPost w (printV c L)) := by
  have HC := Lib.hid hc
  have CSM := Lib.hid csm
  have HLL := Lib.hid hl
  have LSM := Lib.hid lsm
  have HT := Lib.hid ht
  obtain ⟨PA, pc, rfl, hp1, _⟩ := hc.1
  obtain ⟨SA, sc, rfl, hs1, _⟩ := hc.2
  obtain ⟨LA, lc, rfl, hlm, _⟩ := hl
  have hpl := csm.plen
  have hsl := csm.slen
  obtain ⟨n, hn⟩ : ∃ n, L.length = n := ⟨_, rfl⟩
  have HN := Lib.hid hn
  rw [hn] at hlm HLL ⊢
  clear hc csm lsm ht hp1 hs1 hn
  have hnm : n ≤ 9223372036854775807 := by unfold maxLen at hlm; omega
  clear hlm
  obtain ⟨W0, hW0⟩ : ∃ W0, w.alloc (.cells #[.slice PA c.parents.length pc, .slice SA c.sources.length sc, .int .i64 c.slide] 24) = W0 := ⟨_, rfl⟩
  have HK0 : Hid (Kept [] w W0) := by show Kept _ _ _; rw [← hW0]; exact (Kept.refl [] w).alloc _
  have HW0 := Lib.hid hW0
  clear hW0
  have HPV : Hid (16384 < n ∨ 64 < c.parents.length ∨ 64 < c.sources.length → printV c L = (eB, 3)) := fun h => printV_long (by rw [HN.out]; exact h)
  dsimp only [confC]
  by_cases h1 : 16384 < n
  · have d1 : decide ((16384 : Int) < (n : Int)) = true := decide_eq_true (by omega)
    have HE := Lib.hid (HPV.out (.inl h1))
    clear h1
    go_enter Tryd.func6, Tryd.ntmps6
    go_wp2_with fail
    rw [show w.alloc (.cells #[.slice PA c.parents.length pc, .slice SA c.sources.length sc, .int .i64 c.slide] 24) = W0 from HW0.out]
    go_ret2
    exact PrintPost.of HE.out HK0.out
  by_cases h2 : 64 < c.parents.length
  · have d1 : decide ((16384 : Int) < (n : Int)) = false := decide_eq_false (by omega)
    have d2 : decide ((64 : Int) < (c.parents.length : Int)) = true := decide_eq_true (by omega)
    have HE := Lib.hid (HPV.out (.inr (.inl h2)))
    clear h1 h2
    go_enter Tryd.func6, Tryd.ntmps6
    go_wp2_with fail
    rw [show w.alloc (.cells #[.slice PA c.parents.length pc, .slice SA c.sources.length sc, .int .i64 c.slide] 24) = W0 from HW0.out]
    go_ret2
    exact PrintPost.of HE.out HK0.out
  by_cases h3 : 64 < c.sources.length
  · have d1 : decide ((16384 : Int) < (n : Int)) = false := decide_eq_false (by omega)
    have d2 : decide ((64 : Int) < (c.parents.length : Int)) = false := decide_eq_false (by omega)
    have d3 : decide ((64 : Int) < (c.sources.length : Int)) = true := decide_eq_true (by omega)
    have HE := Lib.hid (HPV.out (.inr (.inr h3)))
    clear h1 h2 h3
    go_enter Tryd.func6, Tryd.ntmps6
    go_wp2_with fail
    rw [show w.alloc (.cells #[.slice PA c.parents.length pc, .slice SA c.sources.length sc, .int .i64 c.slide] 24) = W0 from HW0.out]
    go_ret2
    exact PrintPost.of HE.out HK0.out
  have d1 : decide ((16384 : Int) < (n : Int)) = false := decide_eq_false (by omega)
  have d2 : decide ((64 : Int) < (c.parents.length : Int)) = false := decide_eq_false (by omega)
  have d3 : decide ((64 : Int) < (c.sources.length : Int)) = false := decide_eq_false (by omega)
  have HNOT : Hid (¬ (16384 < L.length ∨ 64 < c.parents.length ∨ 64 < c.sources.length)) := by show ¬ _; rw [HN.out]; omega
  have hn16 : n ≤ 16384 := by omega
  clear h1 h2 h3 HPV
  have HHD : Hid (∀ W, Kept [] w W → Calls Tryd.prog 12 #[.agg #[.slice PA c.parents.length pc, .slice SA c.sources.length sc, .int .i64 c.slide]] W fun e w' => e = .returned (.string (headT c)) ∧ Kept [] W w') := fun W hk => head_any c _ _ W (HC.out.keep hk) CSM.out (HT.out.keep hk)
  have hhs := headT_size CSM.out
  obtain ⟨hT, hhT⟩ : ∃ h, headT c = h := ⟨_, rfl⟩
  rw [hhT] at HHD hhs
  have HHT := Lib.hid hhT
  have HS0 : Hid (W0.heap.size = w.heap.size + 1) := by show _ = _; rw [← HW0.out]; simp
  have HIS := Lib.hid (IsB.start W0)
  rw [HS0.out] at HIS
  have HK1 := Lib.hid ((Kept.refl [] W0).alloc (.cells #[.pointer none, .slice none 0 0] 46))
  clear hhT
  go_enter Tryd.func6, Tryd.ntmps6
  go_upto_region 4 with fail
  rw [show w.alloc (.cells #[.slice PA c.parents.length pc, .slice SA c.sources.length sc, .int .i64 c.slide] 24) = W0 from HW0.out]
  have HB1 : Hid (Blk (W0.alloc (.cells #[.pointer none, .slice none 0 0] 46)) w.heap.size #[.slice PA c.parents.length pc, .slice SA c.sources.length sc, .int .i64 c.slide] 24) := by
    show Blk _ _ _ _
    have := Blk.new w #[.slice PA c.parents.length pc, .slice SA c.sources.length sc, .int .i64 c.slide] 24
    rw [HW0.out] at this
    exact this.alloc _
  obtain ⟨W1, hW1⟩ : ∃ W1, W0.alloc (.cells #[.pointer none, .slice none 0 0] 46) = W1 := ⟨_, rfl⟩
  rw [hW1] at HIS HK1 HB1 ⊢
  clear hW1
  have a0 := HB1.out.cell 0
  have a1 := HB1.out.cell 1
  have a2 := HB1.out.cell 2
  simp at a0 a1 a2
  go_wp2_with fail
  refine (HHD.out _ (HK0.out.trans HK1.out)).mono ?_
  rintro e w2 ⟨rfl, hk2⟩
  have HK2 := Lib.hid (HK1.out.trans hk2)
  have HI2 := Lib.hid (HIS.out.keep hk2)
  have hsz2 := HK2.out.size
  clear hk2 a0 a1 a2
  go_wp2_with fail
  have hw1 : ([] : List Value).length + (hT ++ { data := #[10] } : ByteArray).size ≤ 140737488355328 := by rw [nl_size, List.length_nil]; omega
  have hw2 : w.heap.size + 1 ≤ w2.heap.size := by have := HS0.out; omega
  have HWR := Lib.hid (write_any (w.heap.size + 1) (w.heap.size + 1) [] (hT ++ { data := #[10] }) w2 HI2.out hw1 hw2)
  clear hw1 hw2
  refine HWR.out.mono ?_
  rintro e w3 ⟨rfl, hb3, hbel⟩
  have HI3 : Hid (IsB (w.heap.size + 1) (w.heap.size + 1) (Lib.byteCells (hT.data.toList ++ [10])) w3) := by
    have := hb3
    rw [List.nil_append, str_nl] at this
    exact this
  have HK3 : Hid (Kept [] W0 w3) := Kept.below_of HK2.out (by rw [HS0.out]; exact hbel)
  clear hb3 hbel
  go_wp2_with fail
  go_loopw [32] (fun ii wr => ∃ (k : Nat) (P : List UInt8), k ≤ n ∧ ii = .int .i64 k ∧ linesB (L.take k) = some P ∧ P.length ≤ k * 2700000001 ∧ IsB (w.heap.size + 1) (w.heap.size + 1) (Lib.byteCells (hT.data.toList ++ [10] ++ P)) wr ∧ Kept [] W0 wr) (fun ii _ => n - (intOf ii).toNat)
  case atStart => exact ⟨0, [], by omega, rfl, rfl, by simp, by rw [List.append_nil]; exact HI3.out, HK3.out⟩
  case round =>
    obtain ⟨k, P, hk, rfl, hP, hPl, hI, hK⟩ := hrel
    have HP := Lib.hid hP
    have HI := Lib.hid hI
    have HK := Lib.hid hK
    have hszr := hK.size
    clear hP hI
    by_cases hlt : k < n
    · obtain ⟨x, hxg⟩ : ∃ x, L[k]? = some x := ⟨_, List.getElem?_eq_getElem (by rw [HN.out]; exact hlt)⟩
      obtain ⟨A', c', he, _, hE⟩ := HLL.out.keep (HK0.out.trans hK)
      obtain ⟨b, off, rfl, hcc⟩ := hE (by rintro rfl; simp at hxg)
      injection he with he1 he2 he3
      subst he1 he3
      obtain ⟨qv, av, hv, hcx⟩ := hcc k x hxg
      have HV := Lib.hid hv
      obtain ⟨QA, qc, rfl, _⟩ := hv.1
      obtain ⟨BA, bc, rfl, _⟩ := hv.2.form
      obtain ⟨e0, e1, e2, e3, e4, e5, e6, e7, e8, e9, e10, e11, e12, e13⟩ := step14 hcx
      have hsm := LSM.out x (List.mem_of_getElem? hxg)
      have hmem := List.mem_of_getElem? hxg
      have HSM := Lib.hid hsm
      have HMEM := Lib.hid hmem
      have HLI : Hid (∀ W, Kept [] wr W → Calls Tryd.prog 14 #[.agg (stepC x (.slice QA x.place.length qc) (.slice BA x.attrs.length bc))] W (LinePost W (lineT x))) := fun W hkw => line_any x _ _ W (HV.out.keep hkw) HSM.out (HT.out.keep ((HK0.out.trans HK.out).trans hkw))
      have htk : L.take (k + 1) = L.take k ++ [x] := by
        obtain ⟨g1, g2⟩ := List.getElem?_eq_some_iff.1 hxg
        rw [List.take_succ_eq_append_getElem g1, g2]
      have HTK := Lib.hid htk
      obtain ⟨o, ho⟩ : ∃ o, lineT x = o := ⟨_, rfl⟩
      have HO := Lib.hid ho
      rw [ho] at HLI
      clear hv hcx hcc hE hxg he2 hsm hmem htk ho hK
      dsimp only [stepC] at HLI
      go_wp2_with fail
      refine (HLI.out _ ((Kept.refl [] wr).alloc _)).mono ?_
      rintro e w5 ⟨rfl, hk5⟩
      have HK5 := Lib.hid ((HK.out.alloc (.cells (stepC x (.slice QA x.place.length qc) (.slice BA x.attrs.length bc)) 40)).trans hk5)
      have HI5 := Lib.hid ((HI.out.keep ((Kept.refl [] wr).alloc (.cells (stepC x (.slice QA x.place.length qc) (.slice BA x.attrs.length bc)) 40))).keep hk5)
      clear hk5 e0 e1 e2 e3 e4 e5 e6 e7 e8 e9 e10 e11 e12 e13
      cases o with
      | none =>
        have HE := Lib.hid (printV_bad HNOT.out (linesB_none HO.out L HMEM.out))
        go_wp2_with fail
        go_ret2
        exact PrintPost.of HE.out (HK0.out.trans HK5.out)
      | some s =>
        have hss := line_size HSM.out HO.out
        have hsz5 := HK5.out.size
        go_wp2_with fail
        have hw1 : (Lib.byteCells (hT.data.toList ++ [10] ++ P)).length + (s ++ { data := #[10] } : ByteArray).size ≤ 140737488355328 := by
          rw [nl_size, Lib.byteCells_length, List.length_append, List.length_append, Array.length_toList]
          have : hT.data.size = hT.size := rfl
          simp only [List.length_cons, List.length_nil]
          omega
        have hw2 : w.heap.size + 1 ≤ w5.heap.size := by have := HS0.out; omega
        have HWR := Lib.hid (write_any (w.heap.size + 1) (w.heap.size + 1) _ (s ++ { data := #[10] }) w5 HI5.out hw1 hw2)
        clear hw1 hw2
        refine HWR.out.mono ?_
        rintro e w6 ⟨rfl, hb6, hbel⟩
        have HI6 : Hid (IsB (w.heap.size + 1) (w.heap.size + 1) (Lib.byteCells (hT.data.toList ++ [10] ++ (P ++ (s.data.toList ++ [10])))) w6) := by
          have := hb6
          rw [str_nl, ← Lib.byteCells_append] at this
          rw [← List.append_assoc]
          exact this
        have HK6 : Hid (Kept [] W0 w6) := Kept.below_of HK5.out (by rw [HS0.out]; exact hbel)
        have HP6 : Hid (linesB (L.take (k + 1)) = some (P ++ (s.data.toList ++ [10]))) := by
          show _ = _
          rw [HTK.out]
          exact linesB_snoc HO.out _ _ HP.out
        have hpl6 : (P ++ (s.data.toList ++ [10])).length ≤ (k + 1) * 2700000001 := by
          rw [List.length_append, List.length_append, Array.length_toList]
          have : s.data.size = s.size := rfl
          simp
          omega
        have HPL6 := Lib.hid hpl6
        clear hb6 hbel hpl6
        go_wp2_with fail
        go_roundw
        case rel => exact ⟨k + 1, _, by omega, by go_num, HP6.out, HPL6.out, HI6.out, HK6.out⟩
        case measure => simp [intOf]; omega
    · have hin : k = n := by omega
      have hLP : linesB L = some P := by
        have := HP.out
        rwa [hin, List.take_of_length_le (by rw [HN.out]; exact Nat.le_refl _)] at this
      have HE := Lib.hid (printV_ok HNOT.out hLP)
      have HST := Lib.hid (Tryd.Builder_String_any (w.heap.size + 1) (w.heap.size + 1) _ wr HI.out (by have := HS0.out; omega))
      clear hLP
      go_wp2_with fail
      refine HST.out.mono ?_
      rintro e w5 ⟨rfl, hbel⟩
      have HK5 : Hid (Kept [] W0 w5) := Kept.below_of HK.out (by rw [HS0.out]; exact hbel)
      clear hbel
      go_wp2_with fail
      go_ret2
      refine PrintPost.of ?_ (HK0.out.trans HK5.out)
      rw [HE.out, HHT.out]

end Go.Proofs.YthgenobbpaclhaaDoor

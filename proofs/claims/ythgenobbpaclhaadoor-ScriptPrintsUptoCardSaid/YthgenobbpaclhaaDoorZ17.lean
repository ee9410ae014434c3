/- Scripts: steps and engines that come in: readers with weights. -/
import Derived.Test.YthgenobbpaclhaaDoorZ13
import Derived.Test.YthgenobbpaclhaaDoorBulk
import Derived.Test.YthgenobbpaclhaaDoorVR
import Derived.LaidLaws
import Derived.Lib.LaidTab
import Derived.LaidHandle
import Derived.LaidMore
import Derived.MakeChecks
set_option linter.unusedVariables false
set_option linter.unusedSimpArgs false
set_option linter.unnecessarySimpa false
namespace Go.Proofs.YthgenobbpaclhaaDoor
open Go.RowKit Go.Shelf Go.Deep Go.ChangeShapes

theorem pow_data : (Rows.laid_internal_strconv_uint64pow10 : DataW Unit) = Lib.tabData .u64 Lib.pow10Tab := by kernel_rfl
theorem tab_of_laid {W : World} (h : laidMetH Tryd.prog [("math/bits.deBruijn32tab", Rows.laid_math_bits_deBruijn32tab), ("math/bits.deBruijn64tab", Rows.laid_math_bits_deBruijn64tab), ("internal/strconv.uint64pow10", Rows.laid_internal_strconv_uint64pow10)] W) : TabVar W := by
  rw [MakeChecks.laidMetH_plain _ _ _ (by kernel_rfl)] at h
  obtain ⟨ps, ⟨g0, t0, cs0, f0, p0, q0, hg0, ht0, hv0, hd0, ⟨g1, t1, cs1, f1, p1, q1, hg1, ht1, hv1, hd1, ⟨g2, t2, cs2, f2, p2, q2, hg2, ht2, hv2, hd2, _, _⟩, _⟩, _⟩, _, _⟩ := h
  have e2 : g2 = 1 := Option.some.inj (hg2.symm.trans globTab)
  subst e2
  have u2 : t2 = 129 := Option.some.inj (ht2.symm.trans (by kernel_rfl))
  subst u2
  rw [pow_data] at hd2
  have c2 := Lib.cells_of_tab (n := 20) Tryd.underlying129 Tryd.underlying114 (by kernel_rfl) (by kernel_rfl) hd2
  show World.var? _ _ _ = _
  rw [hv2, ← c2]
theorem i64_bd {n : Int} (h : (Lit.int .i64 n).wf = true) : -9223372036854775808 ≤ n ∧ n ≤ 9223372036854775807 := by
  simpa [Lit.wf, IntKind.min, IntKind.max, IntKind.signed, IntKind.bits] using h
theorem u8_bd {n : Int} (h : (Lit.int .u8 n).wf = true) : 0 ≤ n ∧ n ≤ 255 := by
  simpa [Lit.wf, IntKind.min, IntKind.max, IntKind.signed, IntKind.bits] using h

def Rk.OfFieldsB {α : Type} (d : Rk α) (wt : α → Nat) (P : Program) (fs : List Field) (off : Nat) : Prop :=
  ∀ {H : Type} {enc : TypeId × Value → H} {w : World} {base : Nat} {spare : Nat → Bool} {held : Bool} {fuel : Nat} {cs : List Value} {ys : List (DataW H × List MemPlace)},
    ys.length = fs.length → (∀ (i : Nat) (f : Field), fs[i]? = some f → DataW.trod enc P w base spare held fuel f.type ((cs.drop f.offset).take (P.cellsOf f.type)) = ys[i]?) → ∃ a, d.K w a ((cs.drop off).take d.sz) ∧ wt a ≤ Rows.uptoBulkAll (ys.map (·.1))
theorem Rk.fields_oneB {α : Type} {d : Rk α} {wt : α → Nat} {P : Program} {f : Field} {off : Nat} (hd : d.OfB wt P f.type) (ho : f.offset = off) (hs : P.cellsOf f.type = d.sz) : d.OfFieldsB wt P [f] off := by
  intro H enc w base spare held fuel cs ys hl h
  match ys, hl with
  | [y], _ =>
    have h0 := h 0 f rfl
    rw [ho, hs] at h0
    obtain ⟨a, ha, hb⟩ := hd h0
    exact ⟨a, ha, by simp only [List.map_cons, List.map_nil, Rows.uptoBulkAll]; omega⟩
theorem Rk.fields_consB {α β : Type} {a : Rk α} {b : Rk β} {wa : α → Nat} {wb : β → Nat} {P : Program} {f : Field} {fs : List Field} {off : Nat} (ha : a.OfB wa P f.type) (ho : f.offset = off) (hs : P.cellsOf f.type = a.sz)
    (hb : b.OfFieldsB wb P fs (off + a.sz)) : (a.pair b).OfFieldsB (fun x => wa x.1 + wb x.2) P (f :: fs) off := by
  intro H enc w base spare held fuel cs ys hl h
  match ys, hl with
  | y :: ys, hl =>
    have h0 := h 0 f rfl
    rw [ho, hs] at h0
    obtain ⟨x1, h1, w1⟩ := ha h0
    obtain ⟨x2, h2, w2⟩ := hb (cs := cs) (ys := ys) (by simpa using hl) (fun i g hg => h (i + 1) g (by simpa using hg))
    refine ⟨(x1, x2), ⟨_, _, ?_, h1, h2⟩, ?_⟩
    · show (cs.drop off).take (a.sz + b.sz) = _
      rw [List.take_add]
      simp [List.drop_drop]
    · simp only [List.map_cons, Rows.uptoBulkAll]
      omega
theorem Rk.of_structB {α : Type} {d : Rk α} {wt : α → Nat} {P : Program} {t : TypeId} {fs : Array Field} (ht : P.underlying t = some (.struct fs)) (hd : d.OfFieldsB wt P fs.toList 0) (hs : P.cellsOf t = d.sz) : d.OfB wt P t := by
  intro H enc w base spare held fuel cs x h
  obtain ⟨xs, n, _, rfl, hl, hlen, hf⟩ := DataW.trod_struct ht h
  obtain ⟨a, ha, hb⟩ := hd (cs := cs) (ys := xs) (by simpa using hlen) (fun i f hfi => hf i f (by simpa using hfi))
  refine ⟨a, ?_, ?_⟩
  · rw [List.drop_zero, List.take_of_length_le (by rw [hl, hs]; exact Nat.le_refl _)] at ha
    exact ha
  · simp only [Rows.uptoBulk]
    omega
theorem strR_ofB : Rk.str.OfB (fun s => s.size) Tryd.prog 9 := by
  intro H enc w base spare held fuel cs x h
  obtain ⟨s, rfl, rfl, hm⟩ := DataW.trod_string Tryd.underlying9 h
  exact ⟨s, ⟨rfl, hm⟩, by show s.size + 1 ≤ s.data.toList.length + 1; rw [Array.length_toList]; exact Nat.le_refl _⟩
theorem intR_ofB : (Rk.int .i64).OfB (fun _ => 0) Tryd.prog 3 := Rk.OfB.of (Rk.of_int Tryd.underlying3)
theorem int64R_ofB : (Rk.int .i64).OfB (fun _ => 0) Tryd.prog 2 := Rk.OfB.of (Rk.of_int Tryd.underlying2)
theorem u8R_ofB : (Rk.int .u8).OfB (fun _ => 0) Tryd.prog 5 := Rk.OfB.of (Rk.of_int Tryd.underlying5)
theorem intsR_ofB : (Rk.slice (Rk.int .i64)).OfB (fun l => (l.map (fun _ => 0 + 1)).sum) Tryd.prog 22 := Rk.OfB.slice Tryd.underlying22 intR_ofB (by kernel_rfl) (by decide)
theorem valR_ofB : valR.OfB (fun x => 0 + (0 + x.2.2.size)) Tryd.prog 59 :=
  Rk.of_structB Tryd.underlying59 (Rk.fields_consB intR_ofB rfl (by kernel_rfl) (Rk.fields_consB int64R_ofB rfl (by kernel_rfl) (Rk.fields_oneB strR_ofB rfl (by kernel_rfl)))) (by kernel_rfl)
def attrWt (x : AttrD) : Nat := x.1.size + (0 + (0 + x.2.2.2.size))
theorem attrR_ofB : attrR.OfB attrWt Tryd.prog 61 :=
  Rk.of_structB Tryd.underlying61 (Rk.fields_consB strR_ofB rfl (by kernel_rfl) (Rk.fields_oneB valR_ofB rfl (by kernel_rfl))) (by kernel_rfl)
theorem attrsR_ofB : (Rk.slice attrR).OfB (fun l => (l.map (fun a => attrWt a + 1)).sum) Tryd.prog 38 := Rk.OfB.slice Tryd.underlying38 attrR_ofB (by kernel_rfl) (by decide)

abbrev StepT := Int × ByteArray × List Int × Int × Int × ByteArray × List AttrD × Int × Int × Int × Int × Int × Int × Int
def stepP : Rk StepT := (Rk.int .i64).pair (Rk.str.pair ((Rk.slice (Rk.int .i64)).pair ((Rk.int .i64).pair ((Rk.int .i64).pair (Rk.str.pair ((Rk.slice attrR).pair ((Rk.int .i64).pair ((Rk.int .i64).pair ((Rk.int .i64).pair ((Rk.int .i64).pair ((Rk.int .i64).pair ((Rk.int .i64).pair (Rk.int .u8)))))))))))))
def stepWt (x : StepT) : Nat := 0 + (x.2.1.size + ((x.2.2.1.map (fun _ => 0 + 1)).sum + (0 + (0 + (x.2.2.2.2.2.1.size + ((x.2.2.2.2.2.2.1.map (fun a => attrWt a + 1)).sum + (0 + (0 + (0 + (0 + (0 + (0 + 0))))))))))))
set_option maxRecDepth 100000 in
set_option maxHeartbeats 4000000 in
theorem stepP_ofB : stepP.OfB stepWt Tryd.prog 40 := by
  intro H enc w base spare held fuel cs x h0
  have h := Rk.of_structB (P := Tryd.prog) (t := 40) Tryd.underlying40 (Rk.fields_consB intR_ofB rfl (by kernel_rfl) (Rk.fields_consB strR_ofB rfl (by kernel_rfl) (Rk.fields_consB intsR_ofB rfl (by kernel_rfl) (Rk.fields_consB intR_ofB rfl (by kernel_rfl) (Rk.fields_consB int64R_ofB rfl (by kernel_rfl) (Rk.fields_consB strR_ofB rfl (by kernel_rfl) (Rk.fields_consB attrsR_ofB rfl (by kernel_rfl) (Rk.fields_consB intR_ofB rfl (by kernel_rfl) (Rk.fields_consB intR_ofB rfl (by kernel_rfl) (Rk.fields_consB intR_ofB rfl (by kernel_rfl) (Rk.fields_consB intR_ofB rfl (by kernel_rfl) (Rk.fields_consB int64R_ofB rfl (by kernel_rfl) (Rk.fields_consB intR_ofB rfl (by kernel_rfl) (Rk.fields_oneB u8R_ofB rfl (by kernel_rfl))))))))))))))) (by kernel_rfl) h0
  exact h
def toStep (x : StepT) : StepD := ⟨x.1, x.2.1, x.2.2.1, x.2.2.2.1, x.2.2.2.2.1, x.2.2.2.2.2.1, x.2.2.2.2.2.2.1, x.2.2.2.2.2.2.2.1, x.2.2.2.2.2.2.2.2.1, x.2.2.2.2.2.2.2.2.2.1, x.2.2.2.2.2.2.2.2.2.2.1, x.2.2.2.2.2.2.2.2.2.2.2.1, x.2.2.2.2.2.2.2.2.2.2.2.2.1, x.2.2.2.2.2.2.2.2.2.2.2.2.2⟩
theorem ints_i64 {w : World} {l : List Int} {v : Value} (h : (Rk.slice (Rk.int .i64)).K w l [v]) : ∀ n ∈ l, I64 n := by
  intro n hn
  obtain ⟨A, c, _, _, _, _, hE⟩ := h
  obtain ⟨b, off, _, hx⟩ := hE (by rintro rfl; cases hn)
  obtain ⟨i, hi, rfl⟩ := List.getElem_of_mem hn
  obtain ⟨cs, hK, _⟩ := hx i _ (List.getElem?_eq_getElem hi)
  exact i64_bd hK.2
theorem attrs_i64 {w : World} {l : List AttrD} {v : Value} (h : (Rk.slice attrR).K w l [v]) : ∀ a ∈ l, I64 a.2.2.1 := by
  intro a ha
  obtain ⟨A, c, _, _, _, _, hE⟩ := h
  obtain ⟨b, off, _, hx⟩ := hE (by rintro rfl; cases ha)
  obtain ⟨i, hi, rfl⟩ := List.getElem_of_mem ha
  obtain ⟨cs, hK, _⟩ := hx i _ (List.getElem?_eq_getElem hi)
  obtain ⟨_, _, _, _, _, _, _, _, _, _, _, ⟨_, h2⟩, _⟩ := hK
  exact i64_bd h2
theorem sum_mem {α : Type} (f : α → Nat) : ∀ (l : List α) (a : α), a ∈ l → f a ≤ (l.map f).sum
  | [], a, h => by cases h
  | b :: l, a, h => by
    rw [List.map_cons, List.sum_cons]
    rcases List.mem_cons.1 h with rfl | h
    · omega
    · have := sum_mem f l a h; omega
theorem sum_len {α : Type} (f : α → Nat) : ∀ (l : List α), l.length ≤ (l.map (fun a => f a + 1)).sum
  | [] => by simp
  | b :: l => by
    rw [List.map_cons, List.sum_cons, List.length_cons]
    have := sum_len f l
    omega
theorem stepP_get {w : World} {t : StepT} {cs : List Value} (h : stepP.K w t cs) : ∃ pv av, cs = (stepC (toStep t) pv av).toList ∧ StepV w (toStep t) pv av ∧ (stepWt t + 1 ≤ 1048577 → StepSm (toStep t)) := by
  obtain ⟨t1, t2, t3, t4, t5, t6, t7, t8, t9, t10, t11, t12, t13, t14⟩ := t
  obtain ⟨_, _, rfl, ⟨rfl, r1⟩, _, _, rfl, ⟨rfl, r2⟩, _, _, rfl, k3, _, _, rfl, ⟨rfl, r4⟩, _, _, rfl, ⟨rfl, r5⟩, _, _, rfl, ⟨rfl, r6⟩, _, _, rfl, k7, _, _, rfl, ⟨rfl, r8⟩, _, _, rfl, ⟨rfl, r9⟩, _, _, rfl, ⟨rfl, r10⟩, _, _, rfl, ⟨rfl, r11⟩, _, _, rfl, ⟨rfl, r12⟩, _, _, rfl, ⟨rfl, r13⟩, ⟨rfl, r14⟩⟩ := h
  have k3' := k3
  have k7' := k7
  obtain ⟨A3, c3, rfl, _⟩ := k3
  obtain ⟨A7, c7, rfl, _⟩ := k7
  refine ⟨_, _, rfl, ⟨RdI.of_rk k3', k7'⟩, fun hw => ?_⟩
  have s7 := sum_len attrWt t7
  have s3 := sum_ones t3
  unfold stepWt at hw
  dsimp only at hw
  rw [s3] at hw
  refine ⟨i64_bd r1, ?_, ?_, ints_i64 k3', i64_bd r4, i64_bd r5, ?_, ?_, fun a ha => ?_, i64_bd r8, i64_bd r9, i64_bd r10, i64_bd r11, i64_bd r12, i64_bd r13, u8_bd r14⟩
  · show t2.size ≤ _; omega
  · show t3.length ≤ _; omega
  · show t6.size ≤ _; omega
  · show t7.length ≤ _; omega
  · have h1 := sum_mem (fun a => attrWt a + 1) t7 a ha
    have h2 := attrs_i64 k7' a ha
    have h3 : attrWt a = a.1.size + (0 + (0 + a.2.2.2.size)) := rfl

    exact ⟨by omega, by omega, h2⟩

end Go.Proofs.YthgenobbpaclhaaDoor

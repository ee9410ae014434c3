/- Texts put together: VL, E27, E28, E29, E30, E31, LD, LD2. -/
import Derived.Test.YtmkpbffjgpoplaaDoorX8
import Derived.Test.YtmkpbffjgpoplaaDoorRows
import Derived.LaidLaws
import Derived.Lib.LaidTab
import Derived.LaidHandle
import Derived.LaidMore
import Derived.MakeChecks
import Derived.Test.YtmkpbffjgpoplaaDoorE12
import Derived.Test.YtmkpbffjgpoplaaDoorE25
import Derived.Test.YtmkpbffjgpoplaaDoorE26
import Derived.Deep.DeepCutAuto
import Derived.Lib.AppendStr
import Derived.Test.YtmkpbffjgpoplaaDoorReader
import Derived.Lib.SmallJoins
/- What the rows' list of variables gives. -/
set_option linter.unusedVariables false
set_option linter.unusedSimpArgs false
namespace Go.Proofs.YtmkpbffjgpoplaaDoor
open Go.RowKit Go.Shelf

theorem pow_data : (Rows.laid_internal_strconv_uint64pow10 : DataW Unit) = Lib.tabData .u64 Lib.pow10Tab := by kernel_rfl
theorem vars_of_laid {W : World} (h : laidMetH Tryd.prog [("math/bits.deBruijn32tab", Rows.laid_math_bits_deBruijn32tab), ("math/bits.deBruijn64tab", Rows.laid_math_bits_deBruijn64tab), ("internal/strconv.uint64pow10", Rows.laid_internal_strconv_uint64pow10), ("strconv.ErrRange", Rows.laid_strconv_ErrRange), ("strconv.ErrSyntax", Rows.laid_strconv_ErrSyntax)] W) : Vars W := by
  rw [MakeChecks.laidMetH_plain _ _ _ (by kernel_rfl)] at h
  obtain ⟨ps, ⟨g0, t0, cs0, f0, p0, q0, hg0, ht0, hv0, hd0, ⟨g1, t1, cs1, f1, p1, q1, hg1, ht1, hv1, hd1, ⟨g2, t2, cs2, f2, p2, q2, hg2, ht2, hv2, hd2, ⟨g3, t3, cs3, f3, p3, q3, hg3, ht3, hv3, hd3, ⟨g4, t4, cs4, f4, p4, q4, hg4, ht4, hv4, hd4, _, _⟩, _⟩, _⟩, _⟩, _⟩, _, _⟩ := h
  have e2 : g2 = 3 := Option.some.inj (hg2.symm.trans globTab)
  have e3 : g3 = 2 := Option.some.inj (hg3.symm.trans (by kernel_rfl))
  have e4 : g4 = 1 := Option.some.inj (hg4.symm.trans (by kernel_rfl))
  subst e2 e3 e4
  have u2 : t2 = 116 := Option.some.inj (ht2.symm.trans (by kernel_rfl))
  have u3 : t3 = 72 := Option.some.inj (ht3.symm.trans (by kernel_rfl))
  have u4 : t4 = 72 := Option.some.inj (ht4.symm.trans (by kernel_rfl))
  subst u2 u3 u4
  rw [pow_data] at hd2
  have c2 := Lib.cells_of_tab (n := 20) Tryd.underlying116 Tryd.underlying92 (by kernel_rfl) (by kernel_rfl) hd2
  obtain ⟨_, u3, v3, c3, _, _⟩ := iface_of_trod Tryd.underlying72 hd3
  obtain ⟨_, u4, v4, c4, _, _⟩ := iface_of_trod Tryd.underlying72 hd4
  refine ⟨?_, ⟨.iface u4 v4, ?_, .inr ⟨_, _, rfl⟩⟩, ⟨.iface u3 v3, ?_, .inr ⟨_, _, rfl⟩⟩⟩
  · show World.var? _ _ _ = _
    rw [hv2, ← c2]
  · have := World.var?_cell hg4 hv4 0
    rw [Array.eq_one_of_toList c4] at this
    simpa using this
  · have := World.var?_cell hg3 hv3 0
    rw [Array.eq_one_of_toList c3] at this
    simpa using this


end Go.Proofs.YtmkpbffjgpoplaaDoor

/- A word stands by itself as it stands in a text: the plain laws. -/
set_option linter.unusedVariables false
set_option linter.unusedSimpArgs false
set_option linter.unnecessarySimpa false
namespace Go.Proofs.YtmkpbffjgpoplaaDoor
open Go.RowKit Go.Shelf

def clsB (l : Bool) (c : Int) : Bool := digitV c || (l && letterV c)
theorem runGo_build (s : ByteArray) (l : Bool) (e : Nat) : ∀ (r k : Nat), k ≤ e → e ≤ k + r → (∀ i, k ≤ i → i < e → clsB l (byt s i) = true) → (e = k + r ∨ clsB l (byt s e) = false) → runGo s l r k = e
  | 0, k, h1, h2, _, _ => by rw [runGo]; omega
  | r + 1, k, h1, h2, h3, h4 => by
    rw [runGo]
    by_cases hk : k = e
    · subst hk
      rw [if_neg]
      rcases h4 with h4 | h4
      · omega
      · unfold clsB at h4; rw [h4]; simp
    · have := h3 k (Nat.le_refl _) (by omega)
      unfold clsB at this
      rw [if_pos this]
      exact runGo_build s l e r (k + 1) (by omega) (by omega) (fun i a b => h3 i (by omega) b) (by rcases h4 with h4 | h4; exact .inl (by omega); exact .inr h4)
theorem runGo_cls (s : ByteArray) (l : Bool) : ∀ (r k i : Nat), k ≤ i → i < runGo s l r k → clsB l (byt s i) = true
  | 0, k, i, h1, h2 => by rw [runGo] at h2; omega
  | r + 1, k, i, h1, h2 => by
    rw [runGo] at h2
    split at h2
    · rename_i hc
      by_cases hk : i = k
      · subst hk; exact hc
      · exact runGo_cls s l r (k + 1) i (by omega) h2
    · omega
theorem closGo_pre (s x : ByteArray) (e : Nat) (hag : ∀ i, i < e → byt x i = byt s i) : ∀ (r k : Nat), closGo s r k = some e → ∀ r', e ≤ k + r' → closGo x r' k = some e
  | 0, k, h, _, _ => by simp [closGo] at h
  | 1, k, h, r', hr => by
    rw [closGo] at h
    split at h
    · rename_i hc
      injection h with h
      have hb : byt x k = 34 := by rw [hag k (by omega)]; exact hc
      match r', hr with
      | 0, hr => omega
      | 1, _ => rw [closGo, if_pos hb, h]
      | n + 2, _ => rw [closGo, if_neg (by omega), if_pos hb, h]
    · cases h
  | r + 2, k, h, r', hr => by
    have hbd := closGo_bd s (r + 2) k e h
    have hb := hag k (by omega)
    rw [closGo] at h
    split at h
    · rename_i hc
      have hbd2 := closGo_bd s r (k + 2) e h
      match r', hr with
      | 0, hr => omega
      | 1, hr => omega
      | n + 2, hr =>
        rw [closGo, if_pos (by rw [hb]; exact hc)]
        exact closGo_pre s x e hag r (k + 2) h n (by omega)
    · rename_i hc
      split at h
      · rename_i hc2
        injection h with h
        match r', hr with
        | 0, hr => omega
        | 1, _ => rw [closGo, if_pos (by rw [hb]; exact hc2), h]
        | n + 2, _ => rw [closGo, if_neg (by rw [hb]; exact hc), if_pos (by rw [hb]; exact hc2), h]
      · rename_i hc2
        have hbd2 := closGo_bd s (r + 1) (k + 1) e h
        match r', hr with
        | 0, hr => omega
        | 1, hr => omega
        | n + 2, hr =>
          rw [closGo, if_neg (by rw [hb]; exact hc), if_neg (by rw [hb]; exact hc2)]
          exact closGo_pre s x e hag (r + 1) (k + 1) h (n + 1) (by omega)

/-- The first word of a text is the first word of any text that begins so, if it ends there or a blank follows. -/
theorem wordO_agree (s x : ByteArray) (t : TokD) (hag : ∀ i, i < t.text.size → byt x i = byt s i) (hse : 0 < s.size) (hxe : t.text.size ≤ x.size) (hext : ∀ a b, a ≤ b → b ≤ t.text.size → x.extract a b = s.extract a b) (ho : wordO s 0 = some t) (hend : t.text.size = x.size ∨ byt x t.text.size = 32) : wordO x 0 = some t := by
  have ht := wordO_text hse ho
  have h0 := hag 0 (by omega)
  have hec : ∀ l, t.text.size = x.size ∨ clsB l (byt x t.text.size) = false := fun l => by
    rcases hend with h | h
    · exact .inl h
    · refine .inr ?_
      rw [h]
      cases l <;> decide
  have key : ∀ (l : Bool) (k : Nat), k ≤ t.text.size → (s.extract 0 (runV s l k)).size = t.text.size → runV s l k ≤ s.size → runV x l k = runV s l k ∧ runV s l k = t.text.size := by
    intro l k hk hz hle
    rw [size_extract s 0 _ (by omega) hle, Nat.sub_zero] at hz
    refine ⟨?_, hz⟩
    rw [hz]
    unfold runV at hz ⊢
    refine runGo_build x l _ _ _ hk (by omega) (fun i h1 h2 => ?_) ?_
    · rw [hag i h2]
      exact runGo_cls s l (s.size - k) k i h1 (by omega)
    · rcases hec l with h | h
      · exact .inl (by omega)
      · exact .inr h
  have hbase := ho
  unfold wordO at ho ⊢
  rw [h0]
  by_cases c1 : letterV (byt s 0) = true
  · rw [if_pos c1] at ho ⊢
    split at ho
    · rename_i hn
      injection ho with ho
      have hb := runV_bd s true (k := 0) (by omega)
      obtain ⟨e1, e2⟩ := key true 0 (by omega) (by rw [← ho]) hb.2
      have e3 : x.extract 0 (runV x true 0) = s.extract 0 (runV s true 0) := by rw [e1, e2]; exact hext _ _ (by omega) (Nat.le_refl _)
      rw [e3, if_pos hn, ho]
    · cases ho
  · rw [if_neg c1] at ho ⊢
    by_cases c2 : digitV (byt s 0) = true ∨ (byt s 0 = 45 ∧ 0 + 1 < s.size ∧ digitV (byt s (0 + 1)) = true)
    · rw [if_pos c2] at ho
      split at ho
      · rename_i hn
        injection ho with ho
        have hb := runV_bd s false (k := 0 + 1) (by omega)
        obtain ⟨e1, e2⟩ := key false (0 + 1) (by omega) (by rw [← ho]) hb.2
        have e3 : x.extract 0 (runV x false (0 + 1)) = s.extract 0 (runV s false (0 + 1)) := by rw [e1, e2]; exact hext _ _ (by omega) (Nat.le_refl _)
        have c2' : digitV (byt s 0) = true ∨ (byt s 0 = 45 ∧ 0 + 1 < x.size ∧ digitV (byt x (0 + 1)) = true) := by
          rcases c2 with c | ⟨a, b, c⟩
          · exact .inl c
          · have : 2 ≤ t.text.size := by
              rw [← e2]
              unfold runV
              rw [show s.size - (0 + 1) = (s.size - 2) + 1 by omega, runGo, if_pos (by rw [c]; simp)]
              exact (runGo_bd s false _ _).1
            exact .inr ⟨a, by omega, by rw [hag _ (by omega)]; exact c⟩
        rw [if_pos c2', e3, if_pos hn, ho]
      · cases ho
    · rw [if_neg c2] at ho
      have ne45 : byt s 0 = 45 → False := fun h45 => by
        rw [if_neg (by omega)] at ho
        rw [if_neg (fun h => by have := h.2; rw [h45] at this; simp [sym2] at this), if_neg (by rw [h45]; decide)] at ho
        cases ho
      have c2' : ¬ (digitV (byt s 0) = true ∨ (byt s 0 = 45 ∧ 0 + 1 < x.size ∧ digitV (byt x (0 + 1)) = true)) := by
        rintro (h | ⟨a, _⟩)
        · exact c2 (.inl h)
        · exact ne45 a
      rw [if_neg c2']
      by_cases c3 : byt s 0 = 34
      · rw [if_pos c3] at ho ⊢
        split at ho
        · cases ho
        · rename_i e he
          have hbd := closGo_bd _ _ _ _ he
          split at ho
          · rename_i hn
            injection ho with ho
            have hz : e = t.text.size := by
              rw [← ho]
              show e = (s.extract 0 e).size
              rw [size_extract s 0 _ (by omega) (by omega)]; omega
            have := closGo_pre s x e (fun i hi => hag i (by omega)) _ _ he (x.size - (0 + 1)) (by omega)
            rw [this]
            simp only
            rw [hext 0 e (by omega) (by omega), if_pos hn, ho]
          · cases ho
      · rw [if_neg c3] at ho ⊢
        by_cases c4 : 0 + 1 < s.size ∧ sym2 (byt s 0) (byt s (0 + 1)) = true
        · rw [if_pos c4] at ho
          injection ho with ho
          have hz : t.text.size = 2 := by
            rw [← ho]
            show (s.extract 0 (0 + 2)).size = 2
            rw [size_extract s 0 _ (by omega) (by omega)]
          rw [if_pos ⟨by omega, by rw [hag _ (by omega)]; exact c4.2⟩, hext 0 (0 + 2) (by omega) (by omega), ho]
        · rw [if_neg c4] at ho
          split at ho
          · rename_i c5
            injection ho with ho
            have hz : t.text.size = 1 := by
              rw [← ho]
              show (s.extract 0 (0 + 1)).size = 1
              rw [size_extract s 0 _ (by omega) (by omega)]
            have c4' : ¬ (0 + 1 < x.size ∧ sym2 (byt s 0) (byt x (0 + 1)) = true) := by
              rintro ⟨a, b⟩
              rcases hend with h | h
              · omega
              · rw [hz] at h
                rw [show (0 : Nat) + 1 = 1 from rfl, h] at b
                simp [sym2] at b
            rw [if_neg c4', if_pos c5, hext 0 (0 + 1) (by omega) (by omega), ho]
          · cases ho

/-- Where a word stands no blank stands. -/
theorem word_not_blank {s : ByteArray} {k : Nat} {t : TokD} (ho : wordO s k = some t) : blkB (byt s k) = false ∧ byt s k ≠ 35 := by
  have bad : ∀ c, byt s k = c → (c = 32 ∨ c = 9 ∨ c = 10 ∨ c = 13 ∨ c = 35) → False := by
    intro c hc h
    unfold wordO at ho
    rw [hc] at ho
    rw [if_neg (by rcases h with rfl | rfl | rfl | rfl | rfl <;> decide), if_neg (by rintro (h1 | ⟨h1, _⟩); rcases h with rfl | rfl | rfl | rfl | rfl <;> revert h1 <;> decide; omega), if_neg (by omega), if_neg (by rintro ⟨_, h1⟩; unfold sym2 at h1; rcases h with rfl | rfl | rfl | rfl | rfl <;> simp at h1), if_neg (by rcases h with rfl | rfl | rfl | rfl | rfl <;> decide)] at ho
    cases ho
  refine ⟨?_, fun h => bad _ h (by omega)⟩
  cases hb : blkB (byt s k) with
  | false => rfl
  | true =>
    unfold blkB at hb
    simp at hb
    exact (bad _ rfl (by omega)).elim
theorem blankV_at {s : ByteArray} {k : Nat} {t : TokD} (hk : k < s.size) (ho : wordO s k = some t) : blankV s k = k := by
  obtain ⟨h1, h2⟩ := word_not_blank ho
  unfold blankV
  rw [show s.size - k = (s.size - k - 1) + 1 by omega, blankGo, if_neg (by rw [h1]; decide), if_neg h2]
theorem blankV_end (s : ByteArray) : blankV s s.size = s.size := by unfold blankV; rw [Nat.sub_self, blankGo]

/-- What a word is by itself. -/
def okT (t : TokD) : Prop := 0 < t.text.size ∧ t.text.size ≤ 4096 ∧ wordO t.text 0 = some (t.at0 0)
theorem scan_one {t : TokD} (h : okT t) : scanV t.text = ([t.at0 0], 0, 0) := by
  obtain ⟨h1, h2, h3⟩ := h
  have hb := blankV_at h1 h3
  have e := wordsV_step (s := t.text) (k := 0) (Nat.zero_le _) (by rw [hb]; exact h1) (by rw [hb]; exact h3)
  have e2 : blankV t.text 0 + (t.at0 0).text.size = t.text.size := by rw [hb]; exact Nat.zero_add _
  rw [e2, wordsV_none (Nat.le_refl _) (fun h => absurd h (by rw [blankV_end]; omega))] at e
  refine scanV_ok rfl (by omega) e ?_
  rw [blankV_end]; omega
theorem scan_parts {s : ByteArray} {L : List TokD} {p : Nat} (h : scanV s = (L, p, 0)) : s.size ≤ 4096 ∧ wordsV s 0 = (L, s.size) ∧ p = 0 := by
  unfold scanV at h
  split at h
  · injection h with _ h; injection h with _ h; simp at h
  · rename_i hs
    split at h
    · injection h with _ h; injection h with _ h; simp at h
    · rename_i h2
      obtain ⟨k, hk, _, hb, _⟩ := words_last s (by omega)
      have := (blankV_bd s hk).2
      injection h with h3 h4
      injection h4 with h4 _
      refine ⟨by omega, ?_, h4.symm⟩
      rw [← h3]
      have : (wordsV s 0).2 = s.size := by omega
      rw [← this]
theorem ok_of_scan {t x : TokD} {p : Nat} (h : scanV t.text = ([x], p, 0)) (hx : x.at0 0 = t.at0 0) : okT t ∧ x.place = 0 := by
  obtain ⟨h1, h2, _⟩ := scan_parts h
  have hb := blankV_bd t.text (k := 0) (Nat.zero_le _)
  have htx : x.text = t.text := by have := congrArg TokD.text hx; exact this
  by_cases hlt : blankV t.text 0 < t.text.size
  · cases ho : wordO t.text (blankV t.text 0) with
    | none =>
      rw [wordsV_none (Nat.zero_le _) (fun _ => ho)] at h2
      injection h2 with h2 _
      cases h2
    | some y =>
      rw [wordsV_step (Nat.zero_le _) hlt ho] at h2
      injection h2 with h2 _
      injection h2 with h2 _
      subst h2
      have ht := wordO_text hlt ho
      rw [htx] at ht
      have hz : blankV t.text 0 = 0 := by omega
      rw [hz] at ho
      have hp : y.place = 0 := by rw [ht.1, hz]; rfl
      refine ⟨⟨by omega, h1, ?_⟩, hp⟩
      rw [ho, ← hx]
      congr 1
      unfold TokD.at0
      rw [← hp]
  · rw [wordsV_none (Nat.zero_le _) (fun h => absurd h hlt)] at h2
    injection h2 with h2 _
    cases h2
open Classical in
/-- What Check says. -/
noncomputable def checkV (t : TokD) : Int := if okT t then 0 else 50

/-- A word of a text may be by itself. -/
theorem word_ok {s : ByteArray} {k : Nat} {t : TokD} (hk : k < s.size) (hs : s.size ≤ 4096) (ho : wordO s k = some t) : okT t := by
  have ht := wordO_text hk ho
  refine ⟨by omega, by omega, ?_⟩
  rw [wordO_from s hk] at ho
  have hzf := size_from s (k := k) (by omega)
  cases hf : wordO (s.extract k s.size) 0 with
  | none => rw [hf] at ho; cases ho
  | some y =>
    rw [hf] at ho
    injection ho with ho
    have htx : y.text = t.text := by rw [← ho]; rfl
    have hy := wordO_text (s := s.extract k s.size) (k := 0) (by omega) hf
    have hyz : y = t.at0 0 := by
      rw [← ho]
      unfold TokD.at0
      have : y.place = 0 := hy.1
      rw [← this]
    have hx : ∀ a b, a ≤ b → b ≤ y.text.size → y.text.extract a b = (s.extract k s.size).extract a b := fun a b hab hb => by
      have e := hy.2.2.2
      rw [Nat.zero_add] at e
      have hsub : ∀ (X : ByteArray) (n : Nat), b ≤ n → (X.extract 0 n).extract a b = X.extract a b := fun X n hn => by
        apply ByteArray.ext
        rw [ByteArray.data_extract, ByteArray.data_extract, ByteArray.data_extract, Array.extract_extract, Nat.zero_add, Nat.zero_add, Nat.min_eq_left hn]
      conv => lhs; rw [e]
      exact hsub _ _ hb
    rw [← htx, ← hyz]
    refine wordO_agree (s.extract k s.size) y.text y (fun i hi => ?_) (by omega) (Nat.le_refl _) hx hf (.inl rfl)
    have e := hy.2.2.2
    rw [Nat.zero_add] at e
    conv => lhs; rw [e]
    have := byt_extract (s.extract k s.size) 0 y.text.size i (by omega) (by omega)
    rw [Nat.zero_add] at this
    exact this
theorem words_ok (s : ByteArray) (hs : s.size ≤ 4096) : ∀ (f : Nat) (k : Nat), k ≤ s.size → s.size + 1 - k ≤ f → ∀ t ∈ (wordsV s k).1, okT t
  | 0, k, hk, hf, t, ht => by omega
  | f + 1, k, hk, hf, t, ht => by
    have hbd := blankV_bd s hk
    by_cases hlt : blankV s k < s.size
    · cases ho : wordO s (blankV s k) with
      | none => rw [wordsV_none hk (fun _ => ho)] at ht; cases ht
      | some y =>
        rw [wordsV_step hk hlt ho] at ht
        have hy := wordO_text hlt ho
        rcases List.mem_cons.1 ht with rfl | ht
        · exact word_ok hlt hs ho
        · exact words_ok s hs f _ (by omega) (by omega) t ht
    · rw [wordsV_none hk (fun h => absurd h hlt)] at ht; cases ht
theorem scan_ok {s : ByteArray} {L : List TokD} {p : Nat} (h : scanV s = (L, p, 0)) : ∀ t ∈ L, okT t := by
  obtain ⟨h1, h2, _⟩ := scan_parts h
  have := words_ok s h1 _ 0 (Nat.zero_le _) (Nat.le_refl _)
  rw [h2] at this
  exact this

end Go.Proofs.YtmkpbffjgpoplaaDoor

/- Which words may be: both Checks. -/
set_option linter.unusedVariables false
set_option linter.unusedSimpArgs false
set_option linter.unnecessarySimpa false
namespace Go.Proofs.YtmkpbffjgpoplaaDoor
open Go.RowKit Go.Shelf
attribute [local go_sem] Oper.semAt_some

theorem checkV_of {t : TokD} {L : List TokD} {p : Nat} {e : Int} (h : scanV t.text = (L, p, e)) : (e ≠ 0 → checkV t = 50) ∧ (L.length ≠ 1 → checkV t = 50) ∧ (∀ x, L = [x] → e = 0 → (x.at0 0 = t.at0 0 → checkV t = 0 ∧ x.place = 0) ∧ (x.at0 0 ≠ t.at0 0 → checkV t = 50) ∧ (x.place ≠ 0 → checkV t = 50)) := by
  have bad : ¬ okT t → checkV t = 50 := fun h => by unfold checkV; rw [if_neg h]
  have key : okT t → L = [t.at0 0] ∧ e = 0 := fun hk => by
    have := (scan_one hk).symm.trans h
    injection this with h1 h2
    injection h2 with h2 h3
    exact ⟨h1.symm, h3.symm⟩
  refine ⟨fun h1 => bad fun hk => h1 (key hk).2, fun h1 => bad fun hk => h1 (by rw [(key hk).1]; rfl), fun x hx he => ⟨fun h1 => ?_, fun h1 => bad fun hk => ?_, fun h1 => bad fun hk => ?_⟩⟩
  · subst hx he
    have := ok_of_scan h h1
    exact ⟨by unfold checkV; rw [if_pos this.1], this.2⟩
  · have := (key hk).1
    rw [hx] at this
    injection this with this _
    exact h1 (by rw [this]; rfl)
  · have := (key hk).1
    rw [hx] at this
    injection this with this _
    exact h1 (by rw [this]; rfl)
theorem at0_ne {K K' : Int} {T T' : ByteArray} {v1 v2 y1 y2 : Int} {v3 y3 : ByteArray} {p p' : Int} (h : ¬ (K = K' ∧ T = T' ∧ v1 = y1 ∧ v2 = y2 ∧ v3 = y3)) : (⟨K', T', (y1, y2, y3), p'⟩ : TokD).at0 0 ≠ (⟨K, T, (v1, v2, v3), p⟩ : TokD).at0 0 := by
  intro e
  unfold TokD.at0 at e
  injection e with e1 e2 e3 e4
  injection e3 with e5 e6
  injection e6 with e7 e8
  exact h ⟨e1.symm, e2.symm, e5.symm, e7.symm, e8.symm⟩
theorem scanV_len2 (s : ByteArray) : (scanV s).1.length ≤ 4096 := by
  unfold scanV
  split
  · simp
  · rename_i h
    split
    · simp
    · obtain ⟨k, hk, _, _, hl⟩ := words_last s (by omega)
      simp only
      omega
theorem own_blk {W : World} {base : Nat} {e : TypeId} {v : Value} {L : List TokD} (h : W.ownsRow base e 6 v L.length (cT L)) (hn : L ≠ []) : ∃ (g c : Nat) (cur : Array Value), v = .slice (some ⟨g, 0, none⟩) L.length c ∧ base ≤ g ∧ Blk W g cur e ∧ ∀ (j : Nat) (x : Value), (cT L)[j]? = some x → cur[j]? = some x := by
  rcases h.2 with ⟨_, h0⟩ | ⟨g, cap, cur, he, hb, hg, _, _, _, ht⟩
  · exact absurd (List.eq_nil_of_length_eq_zero h0) hn
  · refine ⟨g, cap, cur, he, hb, hg, fun j x hx => ?_⟩
    have h2 := h.1
    have hj : j < (cT L).length := by
      rcases Nat.lt_or_ge j (cT L).length with h1 | h1
      · exact h1
      · rw [List.getElem?_eq_none h1] at hx; cases hx
    rw [← ht, List.getElem?_take_of_lt (by omega)] at hx
    simpa using hx

set_option maxRecDepth 100000 in
set_option maxHeartbeats 4000000 in
theorem lCheck_any (t : TokD) (w : World) (hv : Vars w) : Calls Tryd.prog 22 #[tokV t] w fun e w' => e = .returned (.int .i64 (checkV t)) ∧ Kept [] w w' := by
  obtain ⟨K, T, ⟨v1, v2, v3⟩, pl⟩ := t
  obtain ⟨L, hL⟩ : ∃ L, (scanV T).1 = L := ⟨_, rfl⟩
  obtain ⟨p, hp⟩ : ∃ p, (scanV T).2.1 = p := ⟨_, rfl⟩
  obtain ⟨er, her⟩ : ∃ er, (scanV T).2.2 = er := ⟨_, rfl⟩
  have hsc : scanV T = (L, p, er) := by rw [← hL, ← hp, ← her]
  have hlen : L.length ≤ 4096 := by rw [← hL]; exact scanV_len2 T
  obtain ⟨hc1, hc2, hc3⟩ := checkV_of (t := ⟨K, T, (v1, v2, v3), pl⟩) hsc
  have HC1 := Lib.hid hc1
  have HC2 := Lib.hid hc2
  have HC3 := Lib.hid hc3
  have HSC : Hid (∀ W, Kept [] w W → Calls Tryd.prog 8 #[.string T] W (ScanPost W T)) := fun W hk => lScan_any T W (hv.keep hk)
  obtain ⟨ans, hans⟩ : ∃ ans, checkV ⟨K, T, (v1, v2, v3), pl⟩ = ans := ⟨_, rfl⟩
  rw [hans] at HC1 HC2 HC3 ⊢
  clear hc1 hc2 hc3 hsc hans
  simp only [tokV]
  have HK0 := Lib.hid ((Kept.refl [] w).alloc (.cells #[.int .i64 K, .string T, .int .i64 v1, .int .i64 v2, .string v3, .int .i64 pl] 40))
  have HB0 := Lib.hid (Blk.new w #[.int .i64 K, .string T, .int .i64 v1, .int .i64 v2, .string v3, .int .i64 pl] 40)
  obtain ⟨⟨t0, t1, t2, t3, t4, t5⟩, ft0, ft1, ft2, ft3, ft4, ft5⟩ := HB0.out.six
  go_enter Tryd.func22, Tryd.ntmps22
  go_wp2_with fail
  refine (HSC.out _ HK0.out).mono ?_
  rintro e w1 ⟨v, rfl, hown, hk⟩
  have HK1 := Lib.hid (HK0.out.trans hk)
  have HB1 := Lib.hid (HB0.out.kept hk (by simp))
  clear t0 t1 t2 t3 t4 t5 ft0 ft1 ft2 ft3 ft4 ft5
  obtain ⟨⟨t0, t1, t2, t3, t4, t5⟩, ft0, ft1, ft2, ft3, ft4, ft5⟩ := HB1.out.six
  rw [hL] at hown
  rw [hp, her]
  obtain ⟨A, c, hAv⟩ := own_len hown
  subst hAv
  have HOWN := Lib.hid hown
  clear hown hk hL hp her
  obtain ⟨n, hn⟩ : ∃ n, L.length = n := ⟨_, rfl⟩
  have HN := Lib.hid hn
  rw [hn] at hlen ⊢
  clear hn
  by_cases he : er = 0
  case neg =>
    have hne : (er == 0) = false := by simpa using he
    have hne2 : (er != 0) = true := by simpa using he
    have HE := Lib.hid (HC1.out he)
    clear he
    go_wp2_with fail
    go_ret
    exact ⟨by rw [HE.out]; rfl, HK1.out⟩
  subst he
  by_cases hn1 : n = 1
  case neg =>
    have hne : ((n : Int) == 1) = false := by simp; omega
    have hne2 : ((n : Int) != 1) = true := by simp; omega
    have HE := Lib.hid (HC2.out (by rw [HN.out]; exact hn1))
    go_wp2_with fail
    go_ret
    exact ⟨by rw [HE.out]; rfl, HK1.out⟩
  subst hn1
  obtain ⟨x, hx⟩ : ∃ x, L = [x] := by
    have := HN.out
    match L, this with
    | [x], _ => exact ⟨x, rfl⟩
  subst hx
  obtain ⟨K', T', ⟨y1, y2, y3⟩, p'⟩ := x
  have HX := Lib.hid (HC3.out _ rfl rfl)
  obtain ⟨b, c', cur, he, hbb, hblk, hcur⟩ := own_blk HOWN.out (by simp)
  injection he with he1 he2 he3
  subst he1 he3
  have HQ1 := Lib.hid hblk
  have hlt := HB0.out.lt
  simp only [World.size_alloc] at hlt hbb
  have d0 : cur[0]? = some (.int .i64 K') := hcur 0 _ rfl
  have d1 : cur[1]? = some (.string T') := hcur 1 _ rfl
  have d2 : cur[2]? = some (.int .i64 y1) := hcur 2 _ rfl
  have d3 : cur[3]? = some (.int .i64 y2) := hcur 3 _ rfl
  have d4 : cur[4]? = some (.string y3) := hcur 4 _ rfl
  have d5 : cur[5]? = some (.int .i64 p') := hcur 5 _ rfl
  have z0 : w1.cell? ⟨b, 0, none⟩ = some (.int .i64 K') := (hblk.cell 0).trans d0
  have z1 : w1.cell? ⟨b, 1, none⟩ = some (.string T') := (hblk.cell 1).trans d1
  have z2 : w1.cell? ⟨b, 2, none⟩ = some (.int .i64 y1) := (hblk.cell 2).trans d2
  have z3 : w1.cell? ⟨b, 3, none⟩ = some (.int .i64 y2) := (hblk.cell 3).trans d3
  have z4 : w1.cell? ⟨b, 4, none⟩ = some (.string y3) := (hblk.cell 4).trans d4
  have z5 : w1.cell? ⟨b, 5, none⟩ = some (.int .i64 p') := (hblk.cell 5).trans d5
  have D0 := Lib.hid d0
  have D1 := Lib.hid d1
  have D2 := Lib.hid d2
  have D3 := Lib.hid d3
  have D4 := Lib.hid d4
  have D5 := Lib.hid d5
  clear d0 d1 d2 d3 d4 d5 hcur he2 hblk
  by_cases hpp : p' = 0
  case neg =>
    have hne : (p' == 0) = false := by simpa using hpp
    have hne2 : (p' != 0) = true := by simpa using hpp
    have HE := Lib.hid (HX.out.2.2 hpp)
    go_wp2_with fail
    go_ret
    exact ⟨by rw [HE.out]; rfl, HK1.out⟩
  subst hpp
  go_upto_region 5 with fail
  obtain ⟨w2, hw2⟩ : ∃ w2, w1.setCell ⟨w.heap.size, 5, none⟩ (.int .i64 0) = w2 := ⟨_, rfl⟩
  have HB2 : Hid (Blk w2 w.heap.size #[.int .i64 K, .string T, .int .i64 v1, .int .i64 v2, .string v3, .int .i64 0] 40) := by show Blk _ _ _ _; rw [← hw2]; exact HB1.out.set 5 _
  have HQ2 : Hid (Blk w2 b cur 40) := by show Blk _ _ _ _; rw [← hw2]; exact HQ1.out.set_other (by simp; omega) _
  have HK2 : Hid (Kept [] w w2) := by show Kept _ _ _; rw [← hw2]; exact HK1.out.setCell (.inr (by simp)) _
  rw [hw2]
  clear hw2 t0 t1 t2 t3 t4 t5 ft0 ft1 ft2 ft3 ft4 ft5 z0 z1 z2 z3 z4 z5
  obtain ⟨⟨t0, t1, t2, t3, t4, t5⟩, _⟩ := HB2.out.six
  have z0 : w2.cell? ⟨b, 0, none⟩ = some (.int .i64 K') := (HQ2.out.cell 0).trans D0.out
  have z1 : w2.cell? ⟨b, 1, none⟩ = some (.string T') := (HQ2.out.cell 1).trans D1.out
  have z2 : w2.cell? ⟨b, 2, none⟩ = some (.int .i64 y1) := (HQ2.out.cell 2).trans D2.out
  have z3 : w2.cell? ⟨b, 3, none⟩ = some (.int .i64 y2) := (HQ2.out.cell 3).trans D3.out
  have z4 : w2.cell? ⟨b, 4, none⟩ = some (.string y3) := (HQ2.out.cell 4).trans D4.out
  have z5 : w2.cell? ⟨b, 5, none⟩ = some (.int .i64 0) := (HQ2.out.cell 5).trans D5.out
  by_cases hx : K = K'
  case neg =>
    have hxb : (K == K') = false := by simpa using hx
    have hxb2 : (K' == K) = false := by simpa using (Ne.symm hx)
    have HE := Lib.hid (HX.out.2.1 (at0_ne (fun h => hx (by obtain ⟨h1, h2, h3, h4, h5⟩ := h; assumption))))
    clear hx
    go_quiet (fail)
    rename_i nq
    go_wp2_with fail
    go_ret
    exact ⟨by rw [HE.out]; rfl, HK2.out.drewN nq⟩
  subst hx
  by_cases hx : T = T'
  case neg =>
    have hxb := ba_ne hx
    have hxb2 := ba_ne (Ne.symm hx)
    have hxl := str_ne hx
    have hxl2 := str_ne (Ne.symm hx)
    have hxm : (T.toList == T'.toList) = false := by simpa using hxl
    have hxm2 : (T'.toList == T.toList) = false := by simpa using hxl2
    have HE := Lib.hid (HX.out.2.1 (at0_ne (fun h => hx (by obtain ⟨h1, h2, h3, h4, h5⟩ := h; assumption))))
    clear hx
    go_quiet (fail)
    rename_i nq
    go_wp2_with fail
    go_ret
    exact ⟨by rw [HE.out]; rfl, HK2.out.drewN nq⟩
  subst hx
  by_cases hx : v1 = y1
  case neg =>
    have hxb : (v1 == y1) = false := by simpa using hx
    have hxb2 : (y1 == v1) = false := by simpa using (Ne.symm hx)
    have HE := Lib.hid (HX.out.2.1 (at0_ne (fun h => hx (by obtain ⟨h1, h2, h3, h4, h5⟩ := h; assumption))))
    clear hx
    go_quiet (fail)
    rename_i nq
    go_wp2_with fail
    go_ret
    exact ⟨by rw [HE.out]; rfl, HK2.out.drewN nq⟩
  subst hx
  by_cases hx : v2 = y2
  case neg =>
    have hxb : (v2 == y2) = false := by simpa using hx
    have hxb2 : (y2 == v2) = false := by simpa using (Ne.symm hx)
    have HE := Lib.hid (HX.out.2.1 (at0_ne (fun h => hx (by obtain ⟨h1, h2, h3, h4, h5⟩ := h; assumption))))
    clear hx
    go_quiet (fail)
    rename_i nq
    go_wp2_with fail
    go_ret
    exact ⟨by rw [HE.out]; rfl, HK2.out.drewN nq⟩
  subst hx
  by_cases hx : v3 = y3
  case neg =>
    have hxb := ba_ne hx
    have hxb2 := ba_ne (Ne.symm hx)
    have hxl := str_ne hx
    have hxl2 := str_ne (Ne.symm hx)
    have hxm : (v3.toList == y3.toList) = false := by simpa using hxl
    have hxm2 : (y3.toList == v3.toList) = false := by simpa using hxl2
    have HE := Lib.hid (HX.out.2.1 (at0_ne (fun h => hx (by obtain ⟨h1, h2, h3, h4, h5⟩ := h; assumption))))
    clear hx
    go_quiet (fail)
    rename_i nq
    go_wp2_with fail
    go_ret
    exact ⟨by rw [HE.out]; rfl, HK2.out.drewN nq⟩
  subst hx
  have HE := Lib.hid (HX.out.1 rfl).1
  go_quiet (fail)
  rename_i nq
  go_wp2_with fail
  go_ret
  exact ⟨by rw [HE.out]; rfl, HK2.out.drewN nq⟩

set_option maxRecDepth 100000 in
set_option maxHeartbeats 4000000 in
theorem rCheck_any (t : TokD) (w : World) (hs : t.text.size ≤ maxLen) : Calls Tryd.prog 23 #[tokV t] w fun e w' => e = .returned (.int .i64 (checkV t)) ∧ Kept [] w w' := by
  obtain ⟨K, T, ⟨v1, v2, v3⟩, pl⟩ := t
  obtain ⟨L, hL⟩ : ∃ L, (scanV T).1 = L := ⟨_, rfl⟩
  obtain ⟨p, hp⟩ : ∃ p, (scanV T).2.1 = p := ⟨_, rfl⟩
  obtain ⟨er, her⟩ : ∃ er, (scanV T).2.2 = er := ⟨_, rfl⟩
  have hsc : scanV T = (L, p, er) := by rw [← hL, ← hp, ← her]
  have hlen : L.length ≤ 4096 := by rw [← hL]; exact scanV_len2 T
  obtain ⟨hc1, hc2, hc3⟩ := checkV_of (t := ⟨K, T, (v1, v2, v3), pl⟩) hsc
  have HC1 := Lib.hid hc1
  have HC2 := Lib.hid hc2
  have HC3 := Lib.hid hc3
  have HSC : Hid (∀ W, Kept [] w W → Calls Tryd.prog 9 #[.string T] W (ScanPost W T)) := fun W hk => rScan_any T hs W
  obtain ⟨ans, hans⟩ : ∃ ans, checkV ⟨K, T, (v1, v2, v3), pl⟩ = ans := ⟨_, rfl⟩
  rw [hans] at HC1 HC2 HC3 ⊢
  clear hc1 hc2 hc3 hsc hans
  simp only [tokV]
  have HK0 := Lib.hid ((Kept.refl [] w).alloc (.cells #[.int .i64 K, .string T, .int .i64 v1, .int .i64 v2, .string v3, .int .i64 pl] 40))
  have HB0 := Lib.hid (Blk.new w #[.int .i64 K, .string T, .int .i64 v1, .int .i64 v2, .string v3, .int .i64 pl] 40)
  obtain ⟨⟨t0, t1, t2, t3, t4, t5⟩, ft0, ft1, ft2, ft3, ft4, ft5⟩ := HB0.out.six
  go_enter Tryd.func23, Tryd.ntmps23
  go_wp2_with fail
  refine (HSC.out _ HK0.out).mono ?_
  rintro e w1 ⟨v, rfl, hown, hk⟩
  have HK1 := Lib.hid (HK0.out.trans hk)
  have HB1 := Lib.hid (HB0.out.kept hk (by simp))
  clear t0 t1 t2 t3 t4 t5 ft0 ft1 ft2 ft3 ft4 ft5
  obtain ⟨⟨t0, t1, t2, t3, t4, t5⟩, ft0, ft1, ft2, ft3, ft4, ft5⟩ := HB1.out.six
  rw [hL] at hown
  rw [hp, her]
  obtain ⟨A, c, hAv⟩ := own_len hown
  subst hAv
  have HOWN := Lib.hid hown
  clear hown hk hL hp her
  obtain ⟨n, hn⟩ : ∃ n, L.length = n := ⟨_, rfl⟩
  have HN := Lib.hid hn
  rw [hn] at hlen ⊢
  clear hn
  by_cases he : er = 0
  case neg =>
    have hne : (er == 0) = false := by simpa using he
    have hne2 : (er != 0) = true := by simpa using he
    have HE := Lib.hid (HC1.out he)
    clear he
    go_wp2_with fail
    go_ret
    exact ⟨by rw [HE.out]; rfl, HK1.out⟩
  subst he
  by_cases hn1 : n = 1
  case neg =>
    have hne : ((n : Int) == 1) = false := by simp; omega
    have hne2 : ((n : Int) != 1) = true := by simp; omega
    have HE := Lib.hid (HC2.out (by rw [HN.out]; exact hn1))
    go_wp2_with fail
    go_ret
    exact ⟨by rw [HE.out]; rfl, HK1.out⟩
  subst hn1
  obtain ⟨x, hx⟩ : ∃ x, L = [x] := by
    have := HN.out
    match L, this with
    | [x], _ => exact ⟨x, rfl⟩
  subst hx
  obtain ⟨K', T', ⟨y1, y2, y3⟩, p'⟩ := x
  have HX := Lib.hid (HC3.out _ rfl rfl)
  obtain ⟨b, c', cur, he, hbb, hblk, hcur⟩ := own_blk HOWN.out (by simp)
  injection he with he1 he2 he3
  subst he1 he3
  have HQ1 := Lib.hid hblk
  have hlt := HB0.out.lt
  simp only [World.size_alloc] at hlt hbb
  have d0 : cur[0]? = some (.int .i64 K') := hcur 0 _ rfl
  have d1 : cur[1]? = some (.string T') := hcur 1 _ rfl
  have d2 : cur[2]? = some (.int .i64 y1) := hcur 2 _ rfl
  have d3 : cur[3]? = some (.int .i64 y2) := hcur 3 _ rfl
  have d4 : cur[4]? = some (.string y3) := hcur 4 _ rfl
  have d5 : cur[5]? = some (.int .i64 p') := hcur 5 _ rfl
  have z0 : w1.cell? ⟨b, 0, none⟩ = some (.int .i64 K') := (hblk.cell 0).trans d0
  have z1 : w1.cell? ⟨b, 1, none⟩ = some (.string T') := (hblk.cell 1).trans d1
  have z2 : w1.cell? ⟨b, 2, none⟩ = some (.int .i64 y1) := (hblk.cell 2).trans d2
  have z3 : w1.cell? ⟨b, 3, none⟩ = some (.int .i64 y2) := (hblk.cell 3).trans d3
  have z4 : w1.cell? ⟨b, 4, none⟩ = some (.string y3) := (hblk.cell 4).trans d4
  have z5 : w1.cell? ⟨b, 5, none⟩ = some (.int .i64 p') := (hblk.cell 5).trans d5
  have D0 := Lib.hid d0
  have D1 := Lib.hid d1
  have D2 := Lib.hid d2
  have D3 := Lib.hid d3
  have D4 := Lib.hid d4
  have D5 := Lib.hid d5
  clear d0 d1 d2 d3 d4 d5 hcur he2 hblk
  have hfz : w1.frozen? ⟨b, 5, none⟩ = false := HQ1.out.free 5
  go_upto_region 5 with fail
  obtain ⟨w2, hw2⟩ : ∃ w2, w1.setCell ⟨b, 5, none⟩ (.int .i64 pl) = w2 := ⟨_, rfl⟩
  have HB2 : Hid (Blk w2 w.heap.size #[.int .i64 K, .string T, .int .i64 v1, .int .i64 v2, .string v3, .int .i64 pl] 40) := by show Blk _ _ _ _; rw [← hw2]; exact HB1.out.set_other (by simp; omega) _
  have HQ2 : Hid (Blk w2 b (cur.setIfInBounds 5 (.int .i64 pl)) 40) := by show Blk _ _ _ _; rw [← hw2]; exact HQ1.out.set 5 _
  have HK2 : Hid (Kept [] w w2) := by show Kept _ _ _; rw [← hw2]; exact HK1.out.setCell (.inr (by simp; omega)) _
  rw [hw2]
  clear hw2 t0 t1 t2 t3 t4 t5 ft0 ft1 ft2 ft3 ft4 ft5 z0 z1 z2 z3 z4 z5 hfz
  obtain ⟨⟨t0, t1, t2, t3, t4, t5⟩, _⟩ := HB2.out.six
  have z0 : w2.cell? ⟨b, 0, none⟩ = some (.int .i64 K') := (HQ2.out.cell 0).trans (by rw [Array.getElem?_setIfInBounds_ne (by decide)]; exact D0.out)
  have z1 : w2.cell? ⟨b, 1, none⟩ = some (.string T') := (HQ2.out.cell 1).trans (by rw [Array.getElem?_setIfInBounds_ne (by decide)]; exact D1.out)
  have z2 : w2.cell? ⟨b, 2, none⟩ = some (.int .i64 y1) := (HQ2.out.cell 2).trans (by rw [Array.getElem?_setIfInBounds_ne (by decide)]; exact D2.out)
  have z3 : w2.cell? ⟨b, 3, none⟩ = some (.int .i64 y2) := (HQ2.out.cell 3).trans (by rw [Array.getElem?_setIfInBounds_ne (by decide)]; exact D3.out)
  have z4 : w2.cell? ⟨b, 4, none⟩ = some (.string y3) := (HQ2.out.cell 4).trans (by rw [Array.getElem?_setIfInBounds_ne (by decide)]; exact D4.out)
  have z5 : w2.cell? ⟨b, 5, none⟩ = some (.int .i64 pl) := (HQ2.out.cell 5).trans (by
    have h5 : 5 < cur.size := (Array.getElem?_eq_some_iff.1 D5.out).1
    rw [Array.getElem?_setIfInBounds_self_of_lt h5])
  by_cases hx : K = K'
  case neg =>
    have hxb : (K == K') = false := by simpa using hx
    have hxb2 : (K' == K) = false := by simpa using (Ne.symm hx)
    have HE := Lib.hid (HX.out.2.1 (at0_ne (fun h => hx (by obtain ⟨h1, h2, h3, h4, h5⟩ := h; assumption))))
    clear hx
    go_quiet (fail)
    rename_i nq
    go_wp2_with fail
    go_ret
    exact ⟨by rw [HE.out]; rfl, HK2.out.drewN nq⟩
  subst hx
  by_cases hx : T = T'
  case neg =>
    have hxb := ba_ne hx
    have hxb2 := ba_ne (Ne.symm hx)
    have hxl := str_ne hx
    have hxl2 := str_ne (Ne.symm hx)
    have hxm : (T.toList == T'.toList) = false := by simpa using hxl
    have hxm2 : (T'.toList == T.toList) = false := by simpa using hxl2
    have HE := Lib.hid (HX.out.2.1 (at0_ne (fun h => hx (by obtain ⟨h1, h2, h3, h4, h5⟩ := h; assumption))))
    clear hx
    go_quiet (fail)
    rename_i nq
    go_wp2_with fail
    go_ret
    exact ⟨by rw [HE.out]; rfl, HK2.out.drewN nq⟩
  subst hx
  by_cases hx : v1 = y1
  case neg =>
    have hxb : (v1 == y1) = false := by simpa using hx
    have hxb2 : (y1 == v1) = false := by simpa using (Ne.symm hx)
    have HE := Lib.hid (HX.out.2.1 (at0_ne (fun h => hx (by obtain ⟨h1, h2, h3, h4, h5⟩ := h; assumption))))
    clear hx
    go_quiet (fail)
    rename_i nq
    go_wp2_with fail
    go_ret
    exact ⟨by rw [HE.out]; rfl, HK2.out.drewN nq⟩
  subst hx
  by_cases hx : v2 = y2
  case neg =>
    have hxb : (v2 == y2) = false := by simpa using hx
    have hxb2 : (y2 == v2) = false := by simpa using (Ne.symm hx)
    have HE := Lib.hid (HX.out.2.1 (at0_ne (fun h => hx (by obtain ⟨h1, h2, h3, h4, h5⟩ := h; assumption))))
    clear hx
    go_quiet (fail)
    rename_i nq
    go_wp2_with fail
    go_ret
    exact ⟨by rw [HE.out]; rfl, HK2.out.drewN nq⟩
  subst hx
  by_cases hx : v3 = y3
  case neg =>
    have hxb := ba_ne hx
    have hxb2 := ba_ne (Ne.symm hx)
    have hxl := str_ne hx
    have hxl2 := str_ne (Ne.symm hx)
    have hxm : (v3.toList == y3.toList) = false := by simpa using hxl
    have hxm2 : (y3.toList == v3.toList) = false := by simpa using hxl2
    have HE := Lib.hid (HX.out.2.1 (at0_ne (fun h => hx (by obtain ⟨h1, h2, h3, h4, h5⟩ := h; assumption))))
    clear hx
    go_quiet (fail)
    rename_i nq
    go_wp2_with fail
    go_ret
    exact ⟨by rw [HE.out]; rfl, HK2.out.drewN nq⟩
  subst hx
  have HE := Lib.hid (HX.out.1 rfl).1
  go_quiet (fail)
  rename_i nq
  go_wp2_with fail
  go_ret
  exact ⟨by rw [HE.out]; rfl, HK2.out.drewN nq⟩

end Go.Proofs.YtmkpbffjgpoplaaDoor

/- Words as a text: the program's Join. -/
set_option linter.unusedVariables false
set_option linter.unusedSimpArgs false
set_option linter.unnecessarySimpa false
namespace Go.Proofs.YtmkpbffjgpoplaaDoor
open Go.RowKit Go.Shelf
attribute [local go_sem] Oper.semAt_some

/-- v reads as the words L, from wherever on. -/
def RdA (w : World) (v : Value) (L : List TokD) : Prop := ∃ A c, v = .slice A L.length c ∧ (L ≠ [] → ∃ b off, A = some ⟨b, off, none⟩ ∧ ∀ i t, L[i]? = some t → ∀ j x, (tokC t)[j]? = some x → w.cell? ⟨b, off + i * 6 + j, none⟩ = some x)
theorem RdA.keep {w w' : World} {v : Value} {L : List TokD} (h : RdA w v L) (hk : Kept [] w w') : RdA w' v L := by
  obtain ⟨A, c, rfl, h⟩ := h
  refine ⟨A, c, rfl, fun hn => ?_⟩
  obtain ⟨b, off, rfl, hc⟩ := h hn
  exact ⟨b, off, rfl, fun i t ht j x hx => hk.cell (by simp) (hc i t ht j x hx)⟩

def sumT : List TokD → Nat
  | [] => 0
  | t :: L => t.text.size + sumT L
theorem sumT_app (L M : List TokD) : sumT (L ++ M) = sumT L + sumT M := by
  induction L with
  | nil => simp [sumT]
  | cons t L ih => simp [sumT, ih]; omega
theorem sumT_le {L : List TokD} (h : ∀ t ∈ L, okT t) : sumT L ≤ L.length * 4096 := by
  induction L with
  | nil => simp [sumT]
  | cons t L ih =>
    have h1 := (h t (by simp)).2.1
    have h2 := ih (fun x hx => h x (by simp [hx]))
    rw [sumT, List.length_cons]
    omega
def joinB (L : List TokD) : List UInt8 := Lib.join (L.map fun t => t.text.data.toList) [32]
theorem joinB_cons (t : TokD) (L : List TokD) : joinB (t :: L) = t.text.data.toList ++ Lib.joinTail [32] (L.map fun t => t.text.data.toList) := by unfold joinB; rw [List.map_cons, Lib.join_cons]
theorem tail_len (L : List TokD) : (Lib.joinTail [32] (L.map fun t => t.text.data.toList)).length = sumT L + L.length := by
  induction L with
  | nil => rfl
  | cons t L ih =>
    unfold Lib.joinTail at ih ⊢
    rw [List.map_cons, List.map_cons, List.flatten_cons, List.length_append, ih, sumT, List.length_cons, List.length_append, Array.length_toList]
    show 1 + t.text.size + _ = _
    omega
theorem joinB_len (L : List TokD) : (joinB L).length = sumT L + (L.length - 1) := by
  cases L with
  | nil => rfl
  | cons t L =>
    rw [joinB_cons, List.length_append, tail_len, Array.length_toList, sumT, List.length_cons]
    show t.text.size + _ = _
    omega
open Classical in
/-- The joined text and the fault. -/
noncomputable def joinV (L : List TokD) : ByteArray × Int := if ∀ t ∈ L, okT t then (if 4096 < (sumT L : Int) + ((L.length : Int) - 1) then ({ data := #[] }, 3) else (⟨(joinB L).toArray⟩, 0)) else ({ data := #[] }, 50)
theorem joinV_bad {L : List TokD} {i : Nat} {t : TokD} (hg : L[i]? = some t) (h : ¬ okT t) : joinV L = ({ data := #[] }, 50) := by
  unfold joinV
  rw [if_neg (fun hh => h (hh t (List.mem_of_getElem? hg)))]
theorem joinV_long {L : List TokD} (h : ∀ t ∈ L, okT t) (hl : 4096 < (sumT L : Int) + ((L.length : Int) - 1)) : joinV L = ({ data := #[] }, 3) := by unfold joinV; rw [if_pos h, if_pos hl]
theorem joinV_ok {L : List TokD} (h : ∀ t ∈ L, okT t) (hl : ¬ 4096 < (sumT L : Int) + ((L.length : Int) - 1)) : joinV L = (⟨(joinB L).toArray⟩, 0) := by unfold joinV; rw [if_pos h, if_neg hl]
def JoinPost (w : World) (L : List TokD) (e : Ending) (w' : World) : Prop := e = .returned (.tuple #[.string (joinV L).1, .int .i64 (joinV L).2]) ∧ Kept [] w w'
theorem JoinPost.of {w w' : World} {L : List TokD} {s : ByteArray} {x : Int} (h : joinV L = (s, x)) (hk : Kept [] w w') : JoinPost w L (.returned (.tuple #[.string s, .int .i64 x])) w' := ⟨by rw [h], hk⟩
theorem checkV_ok {t : TokD} (h : okT t) : checkV t = 0 := by unfold checkV; rw [if_pos h]
theorem checkV_no {t : TokD} (h : ¬ okT t) : checkV t = 50 := by unfold checkV; rw [if_neg h]
theorem own_keep {w w' : World} {base : Nat} {e : TypeId} {size : Nat} {v : Value} {n : Nat} {xs : List Value} (h : w.ownsRow base e size v n xs) (hk : Kept [] w w') : w'.ownsRow base e size v n xs := by
  refine ⟨h.1, ?_⟩
  rcases h.2 with h0 | ⟨g, cap, cur, rfl, h1, h2, h3⟩
  · exact .inl h0
  · exact .inr ⟨g, cap, cur, rfl, h1, by rw [hk.block g (Array.getElem?_eq_some_iff.1 h2).1 (by simp)]; exact h2, h3⟩
def cS (L : List TokD) : List Value := L.map fun t => Value.string t.text
theorem infoStr5 : (Tryd.prog.info? 9).map (fun i => (i.zero, i.size, i.bytes)) = some (some (.string { data := #[] }), 1, 16) := by kernel_rfl
/-- The library's Join of the row of texts. -/
theorem join_calls (v : Value) (L : List TokD) (base : Nat) (W : World) (ho : W.ownsRow base 9 1 v L.length (cS L)) (hl : sumT L + (L.length - 1) ≤ 4096) (hm : L.length ≤ 140737488355328) :
    Calls Tryd.prog 32 #[v, .string { data := #[32] }] W fun e w' => e = .returned (.string ⟨(joinB L).toArray⟩) ∧ Kept [] W w' := by
  rcases ho.2 with ⟨rfl, h0⟩ | ⟨g, cap, cur, rfl, hb, hg, hcap, _, _, _⟩
  · have hL : L = [] := List.eq_nil_of_length_eq_zero h0
    subst hL
    refine (Tryd.strings_Join_none none 0 { data := #[32] } W).mono ?_
    rintro e w' ⟨rfl, rfl⟩
    exact ⟨rfl, Kept.refl _ _⟩
  · have h := Tryd.strings_Join g 0 cap (L.map (·.text)) { data := #[32] } W (fun j x hx => by
      have hc := ho.cells (g := g) rfl j (.string x) (by
        unfold cS
        rw [List.getElem?_map] at hx ⊢
        cases hj : L[j]? with
        | none => rw [hj] at hx; cases hx
        | some t => rw [hj] at hx; simp at hx ⊢; exact hx)
      have ha : (⟨g, 0, none⟩ : Addr).add j = ⟨g, 0 + j, none⟩ := by unfold Addr.add; split <;> simp_all
      rwa [ha] at hc) (Array.getElem?_eq_some_iff.1 hg).1 (by rw [List.length_map]; exact hm) (by rw [List.length_map]; exact hcap) (by
      rw [List.map_map]
      have := joinB_len L
      unfold joinB at this
      show (Lib.join (L.map fun t => t.text.data.toList) [32]).length ≤ _
      omega)
    rw [List.length_map, List.map_map] at h
    refine h.mono ?_
    rintro e w' ⟨rfl, hk⟩
    exact ⟨rfl, Kept.of_below hk⟩

set_option maxRecDepth 100000 in
set_option maxHeartbeats 8000000 in
theorem lJoin_any (u : Value) (L : List TokD) (w : World) (hu : RdA w u L) (hm : L.length ≤ 2199023255552) (hv : Vars w) : Calls Tryd.prog 20 #[u] w (JoinPost w L) := by
  obtain ⟨i0, hi0, hz0, hz1, hz2⟩ := info_parts infoStr5
  have HU := Lib.hid hu
  obtain ⟨A, c, rfl, hA⟩ := hu
  have HCK : Hid (∀ t W, Kept [] w W → Calls Tryd.prog 22 #[tokV t] W fun e w' => e = .returned (.int .i64 (checkV t)) ∧ Kept [] W w') := fun t W hk => lCheck_any t W (hv.keep hk)
  obtain ⟨m, hmL⟩ : ∃ m, L.length = m := ⟨_, rfl⟩
  have HM := Lib.hid hmL
  rw [hmL] at hm HU ⊢
  clear hmL hA
  have hw0 : IntKind.i64.wrap ((m : Int) - 1) = (m : Int) - 1 := by unfold IntKind.wrap; simp [IntKind.signed, IntKind.bits]; omega
  have hw0' : wrap64 ((m : Int) - 1) = (m : Int) - 1 := by unfold wrap64; omega
  go_enter Tryd.func20, Tryd.ntmps20
  go_wp2_with fail
  go_loopw [4, 5, 14] (fun vv nn ii wr => ∃ (i : Nat) (x : Int), ii = .int .i64 i ∧ nn = .int .i64 x ∧ i ≤ m ∧ x = (m : Int) - 1 + sumT (L.take i) ∧ (∀ t ∈ L.take i, okT t) ∧ wr.ownsRow w.heap.size 9 1 vv i (cS (L.take i)) ∧ Kept [] w wr) (fun _ _ ii _ => m - (intOf ii).toNat)
  case atStart => exact ⟨0, _, rfl, rfl, Nat.zero_le _, by simp [sumT], by simp, World.ownsRow_nil _ _ _ _, Kept.refl _ _⟩
  case round =>
    obtain ⟨i, x, rfl, rfl, hi, hx, hok, hown, hK⟩ := hrel
    have HK := Lib.hid hK
    have HX := Lib.hid hx
    have HOKS := Lib.hid hok
    obtain ⟨AA, cc, rfl⟩ := own_len hown
    have HOWN := Lib.hid hown
    have hsum := sumT_le hok
    rw [List.length_take] at hsum
    have hsz := hK.size
    have hxb : -1 ≤ x ∧ x ≤ 9007199254740992 + 2199023255552 := by rw [hx]; omega
    clear hok hown hx hsum
    by_cases hlt : i < m
    · obtain ⟨t, hg⟩ : ∃ t, L[i]? = some t := ⟨_, List.getElem?_eq_getElem (by rw [HM.out]; exact hlt)⟩
      have HG := Lib.hid hg
      have htk : L.take (i + 1) = L.take i ++ [t] := by
        obtain ⟨g1, g2⟩ := List.getElem?_eq_some_iff.1 hg
        rw [List.take_succ_eq_append_getElem g1, g2]
      have HTK := Lib.hid htk
      obtain ⟨A', c', he, hcell⟩ := HU.out.keep hK
      obtain ⟨b, off, rfl, hcc⟩ := hcell (by rintro rfl; simp at hg)
      injection he with he1 he2 he3
      subst he1 he3
      obtain ⟨K, T, ⟨v1, v2, v3⟩, pl⟩ := t
      have z0 : wr.cell? ⟨b, off + i * 6, none⟩ = some (.int .i64 K) := hcc i _ hg 0 _ rfl
      have z1 : wr.cell? ⟨b, off + i * 6 + 1, none⟩ = some (.string T) := hcc i _ hg 1 _ rfl
      have z2 : wr.cell? ⟨b, off + i * 6 + 2, none⟩ = some (.int .i64 v1) := hcc i _ hg 2 _ rfl
      have z3 : wr.cell? ⟨b, off + i * 6 + 3, none⟩ = some (.int .i64 v2) := hcc i _ hg 3 _ rfl
      have z4 : wr.cell? ⟨b, off + i * 6 + 4, none⟩ = some (.string v3) := hcc i _ hg 4 _ rfl
      have z5 : wr.cell? ⟨b, off + i * 6 + 5, none⟩ = some (.int .i64 pl) := hcc i _ hg 5 _ rfl
      have HC : Hid (∀ W, Kept [] w W → Calls Tryd.prog 22 #[.agg #[.int .i64 K, .string T, .int .i64 v1, .int .i64 v2, .string v3, .int .i64 pl]] W fun e w' => e = .returned (.int .i64 (checkV ⟨K, T, (v1, v2, v3), pl⟩)) ∧ Kept [] W w') := fun W hk => HCK.out _ W hk
      clear hcc hcell he2 hg htk hK
      go_wp2_with fail
      have hB1 := Blk.new wr #[.int .i64 K, .string T, .int .i64 v1, .int .i64 v2, .string v3, .int .i64 pl] 40
      have hK1 := HK.out.alloc (.cells #[.int .i64 K, .string T, .int .i64 v1, .int .i64 v2, .string v3, .int .i64 pl] 40)
      refine (HC.out _ hK1).mono ?_
      rintro e w2 ⟨rfl, hk2⟩
      have HB2 := Lib.hid (hB1.kept hk2 (by simp))
      have HK2 := Lib.hid (hK1.trans hk2)
      have HO2 : Hid (w2.ownsRow w.heap.size 9 1 (.slice AA i cc) i (cS (L.take i))) := own_keep HOWN.out (((Kept.refl [] wr).alloc (.cells #[.int .i64 K, .string T, .int .i64 v1, .int .i64 v2, .string v3, .int .i64 pl] 40)).trans hk2)
      clear hB1 hK1 hk2 z0 z1 z2 z3 z4 z5
      by_cases hok : okT ⟨K, T, (v1, v2, v3), pl⟩
      · rw [checkV_ok hok]
        obtain ⟨⟨t0, t1, t2, t3, t4, t5⟩, _⟩ := HB2.out.six
        have hT := hok.2.1
        have hlT := len_at T rfl
        have HOK := Lib.hid hok
        have hsz2 := HK2.out.size
        simp only at hT
        clear hok
        go_wp2_with (at_builtin; refine wpList_append_own_at _ rfl _ _ 56 rfl w.heap.size 9 i0 (.string { data := #[] }) 1 16 Tryd.underlying56 hi0 hz0 hz1 hz2 rfl (by decide) _ i (cS (L.take i)) rfl (World.ownsRow.alloc HO2.out _) ⟨w2.heap.size, 0, none⟩ 1 1 [.string T] rfl rfl (cell_one_new _ _ _) (by simp [Value.oneCell']) (by unfold maxLen; omega) (by omega) (by simp; omega) ?_)
        intro v' w5 hown5 hgrow5 _ hat5
        have HK5 : Hid (Kept [] w w5) := (HK2.out.alloc _).grown hgrow5 (fun x hx => .inr (HO2.out.lt _ hx).1)
        have hc1 : w5.cell? ⟨wr.heap.size, 1, none⟩ = some (.string T) := hgrow5.cell ((HB2.out.alloc _).cell 1) (fun e => absurd (HOWN.out.lt _ e.symm).2 (Nat.lt_irrefl _))
        have HO5 : Hid (w5.ownsRow w.heap.size 9 1 v' (i + 1) (cS (L.take (i + 1)))) := by
          show World.ownsRow _ _ _ _ _ _ _
          rw [HTK.out]
          unfold cS at hown5 ⊢
          rw [List.map_append]
          exact hown5
        clear hown5 hgrow5 hat5
        go_wp2_with fail
        go_roundw
        case rel =>
          refine ⟨i + 1, _, by go_num, rfl, by omega, ?_, ?_, HO5.out, HK5.out⟩
          · rw [HTK.out, sumT_app, HX.out]
            simp only [sumT, Nat.add_zero]
            omega
          · rw [HTK.out]
            intro y hy
            rcases List.mem_append.1 hy with hy | hy
            · exact HOKS.out y hy
            · rw [List.mem_singleton] at hy; subst hy; exact HOK.out
        case measure => simp [intOf]; omega
      · have HJ := Lib.hid (joinV_bad HG.out hok)
        rw [checkV_no hok]
        clear hok
        go_wp2_with fail
        go_ret2
        exact JoinPost.of HJ.out HK2.out
    · have hin : i = m := by omega
      subst hin
      have hall : ∀ t ∈ L, okT t := by
        have := HOKS.out
        rw [List.take_of_length_le (by rw [HM.out]; exact Nat.le_refl _)] at this
        exact this
      have hx2 : x = (sumT L : Int) + ((L.length : Int) - 1) := by
        rw [HX.out, List.take_of_length_le (by rw [HM.out]; exact Nat.le_refl _), HM.out]; omega
      have HO := HOWN
      rw [List.take_of_length_le (by rw [HM.out]; exact Nat.le_refl _)] at HO
      by_cases hlong : 4096 < x
      · have hd : decide ((4096 : Int) < x) = true := decide_eq_true hlong
        have HJ := Lib.hid (joinV_long hall (by rw [← hx2]; exact hlong))
        clear hall hx2
        go_wp2_with fail
        go_ret2
        exact JoinPost.of HJ.out HK.out
      · have hd : decide ((4096 : Int) < x) = false := decide_eq_false hlong
        have HJ := Lib.hid (joinV_ok hall (by rw [← hx2]; exact hlong))
        have hs2 := sumT_le hall
        have HJC := Lib.hid (join_calls (.slice AA i cc) L w.heap.size wr (by rw [HM.out]; exact HO.out) (by have := HM.out; rcases Nat.eq_zero_or_pos L.length with h0 | h0 <;> omega) (by rw [HM.out]; omega))
        clear hall hx2 hs2
        go_wp2_with fail
        refine HJC.out.mono ?_
        rintro e w6 ⟨rfl, hk6⟩
        have HK6 := Lib.hid (HK.out.trans hk6)
        clear hk6
        go_wp2_with fail
        go_ret2
        exact JoinPost.of HJ.out HK6.out

end Go.Proofs.YtmkpbffjgpoplaaDoor

/- Words as a text: the document's Join. -/
set_option linter.unusedVariables false
set_option linter.unusedSimpArgs false
set_option linter.unnecessarySimpa false
namespace Go.Proofs.YtmkpbffjgpoplaaDoor
open Go.RowKit Go.Shelf
attribute [local go_sem] Oper.semAt_some

theorem joinTail_snoc (r : List (List UInt8)) (x : List UInt8) : Lib.joinTail [32] (r ++ [x]) = Lib.joinTail [32] r ++ ([32] ++ x) := by unfold Lib.joinTail; simp
theorem joinB_snoc (L : List TokD) (t : TokD) : joinB (L ++ [t]) = joinB L ++ ((if L = [] then [] else [32]) ++ t.text.data.toList) := by
  cases L with
  | nil => rw [List.nil_append, joinB_cons]; simp [Lib.joinTail, joinB, Lib.join_nil]
  | cons a L =>
    rw [List.cons_append, joinB_cons, joinB_cons, List.map_append, List.map_cons, List.map_nil, joinTail_snoc, if_neg (by simp), List.append_assoc]
theorem joinB_snoc_len (L : List TokD) (t : TokD) : (joinB (L ++ [t])).length = (joinB L).length + ((if L = [] then 0 else 1) + t.text.size) := by
  rw [joinB_snoc, List.length_append, List.length_append, show t.text.data.toList.length = t.text.size from Array.length_toList]
  split <;> rfl
def cJ (L : List TokD) : List Value := (joinB L).map fun b => Value.int .u8 b.toNat
theorem cJ_snoc (L : List TokD) (t : TokD) : cJ (L ++ [t]) = cJ L ++ ((if L = [] then [] else [.int .u8 32]) ++ Lib.strCells t.text) := by
  unfold cJ Lib.strCells
  rw [joinB_snoc, List.map_append, List.map_append]
  split <;> rfl
theorem cJ_cB (L : List TokD) : cJ L = cB ((joinB L).map fun b => (b.toNat : Int)) := by unfold cJ cB; rw [List.map_map]; rfl
theorem cJ_str {w : World} {base : Nat} {v : Value} {L : List TokD} (h : w.ownsRow base 5 1 v (joinB L).length (cJ L)) : (convert 59 9 v).run Tryd.prog w = .ok (.string ⟨(joinB L).toArray⟩) w := by
  rw [cJ_cB] at h
  have h2 := own_str (L := (joinB L).map fun b => (b.toNat : Int)) (by rw [List.length_map]; exact h)
  have e : strOfNums ((joinB L).map fun b => (b.toNat : Int)) = ⟨(joinB L).toArray⟩ := by
    unfold strOfNums
    rw [List.map_map]
    have : (fun n : Int => UInt8.ofNat n.toNat) ∘ (fun b : UInt8 => (b.toNat : Int)) = id := by funext b; simp
    rw [this, List.map_id]
  rw [h2, e]
theorem sumT_take (L : List TokD) (i : Nat) : sumT (L.take i) ≤ sumT L := by
  have := sumT_app (L.take i) (L.drop i)
  rw [List.take_append_drop] at this
  omega
theorem sumT_mem {L : List TokD} {t : TokD} (h : t ∈ L) : t.text.size ≤ sumT L := by
  induction L with
  | nil => cases h
  | cons a L ih =>
    rw [sumT]
    rcases List.mem_cons.1 h with rfl | h
    · omega
    · have := ih h; omega

set_option maxRecDepth 100000 in
set_option maxHeartbeats 8000000 in
theorem rJoin_any (u : Value) (L : List TokD) (w : World) (hu : RdA w u L) (hm : L.length ≤ 1048576) (hsT : sumT L ≤ 1048576) : Calls Tryd.prog 21 #[u] w (JoinPost w L) := by
  obtain ⟨i0, hi0, hz0, hz1, hz2⟩ := info_parts infoU8
  have HU := Lib.hid hu
  obtain ⟨A, c, rfl, hA⟩ := hu
  have HCK : Hid (∀ t W, t ∈ L → Calls Tryd.prog 23 #[tokV t] W fun e w' => e = .returned (.int .i64 (checkV t)) ∧ Kept [] W w') := fun t W ht => rCheck_any t W (by have := sumT_mem ht; unfold maxLen; omega)
  obtain ⟨m, hmL⟩ : ∃ m, L.length = m := ⟨_, rfl⟩
  have HM := Lib.hid hmL
  rw [hmL] at hm HU ⊢
  clear hmL hA
  go_enter Tryd.func21, Tryd.ntmps21
  go_wp2_with fail
  go_loopw [4, 5, 6] (fun vv lgv ii wr => ∃ (i : Nat) (lg : Bool), ii = .int .i64 i ∧ lgv = .bool lg ∧ i ≤ m ∧ lg = decide (4096 < (joinB (L.take i)).length) ∧ (∀ t ∈ L.take i, okT t) ∧ wr.ownsRow w.heap.size 5 1 vv (joinB (L.take i)).length (cJ (L.take i)) ∧ Kept [] w wr) (fun _ _ ii _ => m - (intOf ii).toNat)
  case atStart => exact ⟨0, false, rfl, rfl, Nat.zero_le _, rfl, by simp, World.ownsRow_nil _ _ _ _, Kept.refl _ _⟩
  case round =>
    obtain ⟨i, lg, rfl, rfl, hi, hlg, hok, hown, hK⟩ := hrel
    have HK := Lib.hid hK
    have HOKS := Lib.hid hok
    obtain ⟨NI, hNI⟩ : ∃ NI, (joinB (L.take i)).length = NI := ⟨_, rfl⟩
    have hNb := joinB_len (L.take i)
    have hsb := sumT_take L i
    rw [List.length_take] at hNb
    rw [hNI] at hlg hown hNb
    have HNI := Lib.hid hNI
    have HLG := Lib.hid hlg
    obtain ⟨AA, cc, rfl⟩ := own_len hown
    have HOWN := Lib.hid hown
    have hsz := hK.size
    have hNb2 : NI ≤ 2097152 := by omega
    clear hok hown hNI hNb hsb hlg
    by_cases hlt : i < m
    · obtain ⟨t, hg⟩ : ∃ t, L[i]? = some t := ⟨_, List.getElem?_eq_getElem (by rw [HM.out]; exact hlt)⟩
      have HG := Lib.hid hg
      have htk : L.take (i + 1) = L.take i ++ [t] := by
        obtain ⟨g1, g2⟩ := List.getElem?_eq_some_iff.1 hg
        rw [List.take_succ_eq_append_getElem g1, g2]
      have HTK := Lib.hid htk
      have hTm := sumT_mem (List.mem_of_getElem? hg)
      obtain ⟨A', c', he, hcell⟩ := HU.out
      obtain ⟨b, off, rfl, hcc0⟩ := hcell (by rintro rfl; simp at hg)
      have hcw := hcc0 i _ hg
      have hcc : ∀ i t, L[i]? = some t → ∀ j x, (tokC t)[j]? = some x → wr.cell? ⟨b, off + i * 6 + j, none⟩ = some x := fun i t ht j x hx => hK.cell (by simp) (hcc0 i t ht j x hx)
      injection he with he1 he2 he3
      subst he1 he3
      obtain ⟨K, T, ⟨v1, v2, v3⟩, pl⟩ := t
      simp only at hTm
      have z0 : wr.cell? ⟨b, off + i * 6, none⟩ = some (.int .i64 K) := hcc i _ hg 0 _ rfl
      have z1 : wr.cell? ⟨b, off + i * 6 + 1, none⟩ = some (.string T) := hcc i _ hg 1 _ rfl
      have z2 : wr.cell? ⟨b, off + i * 6 + 2, none⟩ = some (.int .i64 v1) := hcc i _ hg 2 _ rfl
      have z3 : wr.cell? ⟨b, off + i * 6 + 3, none⟩ = some (.int .i64 v2) := hcc i _ hg 3 _ rfl
      have z4 : wr.cell? ⟨b, off + i * 6 + 4, none⟩ = some (.string v3) := hcc i _ hg 4 _ rfl
      have z5 : wr.cell? ⟨b, off + i * 6 + 5, none⟩ = some (.int .i64 pl) := hcc i _ hg 5 _ rfl
      have Z1 := Lib.hid z1
      have HC : Hid (∀ W, Calls Tryd.prog 23 #[.agg #[.int .i64 K, .string T, .int .i64 v1, .int .i64 v2, .string v3, .int .i64 pl]] W fun e w' => e = .returned (.int .i64 (checkV ⟨K, T, (v1, v2, v3), pl⟩)) ∧ Kept [] W w') := fun W => HCK.out _ W (List.mem_of_getElem? hg)
      have HEMB := Lib.hid (show L.take i = [] ↔ i = 0 from by
        rw [List.take_eq_nil_iff]
        constructor
        · rintro (h | h)
          · exact h
          · rw [h] at hg; simp at hg
        · exact fun h => .inl h)
      have HBN : Hid ((Value.slice AA NI cc).ownBlock = some b → False) := fun hb => by
        have h1 := (HOWN.out.lt _ hb).1
        have h2 := World.block_lt_of_cell? w _ (hcw 1 _ rfl)
        simp at h2
        omega
      clear hcc hcc0 hcell he2 hg htk hK hcw
      go_wp2_with fail
      refine (HC.out _).mono ?_
      rintro e w2 ⟨rfl, hk2⟩
      have HK2 := Lib.hid (HK.out.trans hk2)
      have HO2 : Hid (w2.ownsRow w.heap.size 5 1 (.slice AA NI cc) NI (cJ (L.take i))) := own_keep HOWN.out hk2
      have z1' := hk2.cell (by simp) Z1.out
      clear hk2 z0 z1 z2 z3 z4 z5
      by_cases hok : okT ⟨K, T, (v1, v2, v3), pl⟩
      · rw [checkV_ok hok]
        have hlT := len_at T rfl
        have HOK2 : Hid (∀ y ∈ L.take (i + 1), okT y) := by
          show ∀ y ∈ L.take (i + 1), okT y
          rw [HTK.out]
          intro y hy
          rcases List.mem_append.1 hy with hy | hy
          · exact HOKS.out y hy
          · rw [List.mem_singleton] at hy; subst hy; exact hok
        have hsz2 := HK2.out.size
        clear hok
        by_cases h0 : i = 0
        · have hd0 : decide ((0 : Int) < (i : Int)) = false := decide_eq_false (by omega)
          have hd0n : decide (0 < i) = false := decide_eq_false (by omega)
          have HEM : Hid ((L.take i = []) = True) := by show _ = _; exact eq_true (HEMB.out.2 h0)
          clear h0
          go_wp2_with (at_builtin; refine Lib.wpList_append_own_string _ rfl _ _ 59 9 rfl w.heap.size 5 i0 Tryd.underlying59 Tryd.underlying9 hi0 hz0 hz1 hz2 _ NI _ rfl HO2.out T rfl (by unfold maxLen; omega) (by omega) (by omega) ?_)
          intro v' w5 hown5 hgrow5 _
          have HK5 : Hid (Kept [] w w5) := HK2.out.grown hgrow5 (fun x hx => .inr (HO2.out.lt _ hx).1)
          obtain ⟨N2, hN2⟩ : ∃ N2, (joinB (L.take (i + 1))).length = N2 := ⟨_, rfl⟩
          have HO5 : Hid (w5.ownsRow w.heap.size 5 1 v' N2 (cJ (L.take (i + 1)))) := by
            show World.ownsRow _ _ _ _ _ _ _
            rw [← hN2, HTK.out, cJ_snoc, joinB_snoc_len, HNI.out]
            simp only [HEM.out, if_true, if_false, List.nil_append, Nat.zero_add, List.cons_append]
            first | exact hown5 | (rw [← Nat.add_assoc]; exact hown5)
          have hN3 : NI ≤ N2 ∧ N2 ≤ NI + 1 + T.size := by
            rw [← hN2, HTK.out, joinB_snoc_len, HNI.out]
            show NI ≤ NI + (_ + T.size) ∧ NI + (_ + T.size) ≤ _
            split <;> omega
          obtain ⟨A5, c5, rfl⟩ := own_len HO5.out
          have HN2 := Lib.hid hN2
          clear hown5 hgrow5 hN2
          cases lg with
          | true =>
            have hbig : 4096 < N2 := by have := of_decide_eq_true HLG.out.symm; omega
            go_wp2_with fail
            go_roundw
            case rel => exact ⟨i + 1, true, by go_num, rfl, by omega, by rw [HN2.out]; exact (decide_eq_true hbig).symm, HOK2.out, by rw [HN2.out]; exact HO5.out, HK5.out⟩
            case measure => simp [intOf]; omega
          | false =>
            by_cases hbig : 4096 < N2
            · have hd2 : decide ((4096 : Int) < (N2 : Int)) = true := decide_eq_true (by omega)
              go_wp2_with fail
              go_roundw
              case rel => exact ⟨i + 1, true, by go_num, rfl, by omega, by rw [HN2.out]; exact (decide_eq_true hbig).symm, HOK2.out, by rw [HN2.out]; exact HO5.out, HK5.out⟩
              case measure => simp [intOf]; omega
            · have hd2 : decide ((4096 : Int) < (N2 : Int)) = false := decide_eq_false (by omega)
              go_wp2_with fail
              go_roundw
              case rel => exact ⟨i + 1, false, by go_num, rfl, by omega, by rw [HN2.out]; exact (decide_eq_false hbig).symm, HOK2.out, by rw [HN2.out]; exact HO5.out, HK5.out⟩
              case measure => simp [intOf]; omega
        · have hd0 : decide ((0 : Int) < (i : Int)) = true := decide_eq_true (by omega)
          have hd0n : decide (0 < i) = true := decide_eq_true (by omega)
          have HEM : Hid ((L.take i = []) = False) := by show _ = _; exact eq_false (fun h => h0 (HEMB.out.1 h))
          clear h0
          go_wp2_with (at_builtin; refine wpList_append_own_at _ rfl _ _ 59 rfl w.heap.size 5 i0 (.int .u8 0) 1 1 Tryd.underlying59 hi0 hz0 hz1 hz2 rfl (by decide) _ NI (cJ (L.take i)) rfl (World.ownsRow.alloc HO2.out _) ⟨w2.heap.size, 0, none⟩ 1 1 [.int .u8 32] rfl rfl (cell_one_new _ _ _) (by simp [Value.oneCell']) (by unfold maxLen; omega) (by omega) (by simp; omega) ?_)
          intro v4 w4 hown4 hgrow4 _ _
          have HK4 : Hid (Kept [] w w4) := (HK2.out.alloc _).grown hgrow4 (fun x hx => .inr (HO2.out.lt _ hx).1)
          have z14 : w4.cell? ⟨b, off + i * 6 + 1, none⟩ = some (.string T) := hgrow4.cell (((Kept.refl [] w2).alloc _).cell (by simp) z1') (fun e => by
            have h1 := HBN.out e.symm
            exact h1)
          obtain ⟨A4, c4, rfl⟩ := own_len hown4
          have HO4 := Lib.hid hown4
          have hsz4 := HK4.out.size
          clear hown4 hgrow4 z1'
          go_wp2_with (at_builtin; refine Lib.wpList_append_own_string _ rfl _ _ 59 9 rfl w.heap.size 5 i0 Tryd.underlying59 Tryd.underlying9 hi0 hz0 hz1 hz2 _ (NI+1) _ rfl HO4.out T rfl (by unfold maxLen; omega) (by omega) (by omega) ?_)
          intro v' w5 hown5 hgrow5 _
          have HK5 : Hid (Kept [] w w5) := HK4.out.grown hgrow5 (fun x hx => .inr (HO4.out.lt _ hx).1)
          obtain ⟨N2, hN2⟩ : ∃ N2, (joinB (L.take (i + 1))).length = N2 := ⟨_, rfl⟩
          have HO5 : Hid (w5.ownsRow w.heap.size 5 1 v' N2 (cJ (L.take (i + 1)))) := by
            show World.ownsRow _ _ _ _ _ _ _
            rw [← hN2, HTK.out, cJ_snoc, joinB_snoc_len, HNI.out]
            simp only [HEM.out, if_true, if_false, List.nil_append, Nat.zero_add, List.cons_append]
            first | exact hown5 | (rw [← Nat.add_assoc]; exact hown5)
          have hN3 : NI ≤ N2 ∧ N2 ≤ NI + 1 + T.size := by
            rw [← hN2, HTK.out, joinB_snoc_len, HNI.out]
            show NI ≤ NI + (_ + T.size) ∧ NI + (_ + T.size) ≤ _
            split <;> omega
          obtain ⟨A5, c5, rfl⟩ := own_len HO5.out
          have HN2 := Lib.hid hN2
          clear hown5 hgrow5 hN2
          cases lg with
          | true =>
            have hbig : 4096 < N2 := by have := of_decide_eq_true HLG.out.symm; omega
            go_wp2_with fail
            go_roundw
            case rel => exact ⟨i + 1, true, by go_num, rfl, by omega, by rw [HN2.out]; exact (decide_eq_true hbig).symm, HOK2.out, by rw [HN2.out]; exact HO5.out, HK5.out⟩
            case measure => simp [intOf]; omega
          | false =>
            by_cases hbig : 4096 < N2
            · have hd2 : decide ((4096 : Int) < (N2 : Int)) = true := decide_eq_true (by omega)
              go_wp2_with fail
              go_roundw
              case rel => exact ⟨i + 1, true, by go_num, rfl, by omega, by rw [HN2.out]; exact (decide_eq_true hbig).symm, HOK2.out, by rw [HN2.out]; exact HO5.out, HK5.out⟩
              case measure => simp [intOf]; omega
            · have hd2 : decide ((4096 : Int) < (N2 : Int)) = false := decide_eq_false (by omega)
              go_wp2_with fail
              go_roundw
              case rel => exact ⟨i + 1, false, by go_num, rfl, by omega, by rw [HN2.out]; exact (decide_eq_false hbig).symm, HOK2.out, by rw [HN2.out]; exact HO5.out, HK5.out⟩
              case measure => simp [intOf]; omega
      · have HJ := Lib.hid (joinV_bad HG.out hok)
        rw [checkV_no hok]
        clear hok
        go_wp2_with fail
        go_ret2
        exact JoinPost.of HJ.out HK2.out
    · have hin : L.length ≤ i := by rw [HM.out]; omega
      have hall : ∀ t ∈ L, okT t := by
        have := HOKS.out
        rw [List.take_of_length_le hin] at this
        exact this
      have hlg := HLG.out
      have hNI := HNI.out
      have HO := HOWN
      rw [List.take_of_length_le hin] at hNI HO
      have hjl := joinB_len L
      rw [hNI] at hjl
      have hs2 := sumT_le hall
      have hiff : 4096 < NI ↔ 4096 < (sumT L : Int) + ((L.length : Int) - 1) := by omega
      have HS := Lib.hid (cJ_str (by rw [hNI]; exact HO.out))
      cases lg with
      | true =>
        have HJ := Lib.hid (joinV_long hall (hiff.1 (of_decide_eq_true hlg.symm)))
        clear hall hlg hNI hjl hs2 hiff hin
        go_wp2_with fail
        go_ret2
        exact JoinPost.of HJ.out HK.out
      | false =>
        have HJ := Lib.hid (joinV_ok hall (mt hiff.2 (of_decide_eq_false hlg.symm)))
        have hcs := HS.out
        clear hall hlg hNI hjl hs2 hiff hin
        go_wp2_with fail
        go_ret2
        exact JoinPost.of HJ.out HK.out

end Go.Proofs.YtmkpbffjgpoplaaDoor

/- Readers of words that come in. -/
set_option linter.unusedVariables false
set_option linter.unusedSimpArgs false
set_option linter.unnecessarySimpa false
namespace Go.Proofs.YtmkpbffjgpoplaaDoor
open Go.RowKit Go.Shelf

def valR : Rk ValD := (Rk.int .i64).pair ((Rk.int .i64).pair Rk.str)
theorem intR_of : (Rk.int .i64).Of Tryd.prog 3 := Rk.of_int Tryd.underlying3
theorem int64R_of : (Rk.int .i64).Of Tryd.prog 2 := Rk.of_int Tryd.underlying2
theorem strR_of : Rk.str.Of Tryd.prog 9 := Rk.of_str Tryd.underlying9
theorem valR_of : valR.Of Tryd.prog 38 :=
  Rk.of_struct Tryd.underlying38 (Rk.fields_cons intR_of rfl (by kernel_rfl) (Rk.fields_cons int64R_of rfl (by kernel_rfl) (Rk.fields_one strR_of rfl (by kernel_rfl)))) (by kernel_rfl)
abbrev TokA := Int × ByteArray × ValD × Int
def tokR : Rk TokA := (Rk.int .i64).pair (Rk.str.pair (valR.pair (Rk.int .i64)))
theorem tokR_of : tokR.Of Tryd.prog 40 :=
  Rk.of_struct Tryd.underlying40 (Rk.fields_cons intR_of rfl (by kernel_rfl) (Rk.fields_cons strR_of rfl (by kernel_rfl) (Rk.fields_cons valR_of rfl (by kernel_rfl) (Rk.fields_one intR_of rfl (by kernel_rfl))))) (by kernel_rfl)
def toTok (x : TokA) : TokD := ⟨x.1, x.2.1, x.2.2.1, x.2.2.2⟩
theorem tokR_cells {w : World} {x : TokA} {cs : List Value} (h : tokR.K w x cs) : cs = tokC (toTok x) ∧ x.2.1.size ≤ maxLen := by
  obtain ⟨_, _, rfl, ⟨rfl, _⟩, _, _, rfl, ⟨rfl, h1⟩, _, _, rfl, ⟨_, _, rfl, ⟨rfl, _⟩, _, _, rfl, ⟨rfl, _⟩, ⟨rfl, hz⟩⟩, ⟨rfl, _⟩⟩ := h
  exact ⟨rfl, h1⟩
theorem RdA.of_rk {w : World} {v : Value} {x : List TokA} (h : (Rk.slice tokR).K w x [v]) : RdA w v (x.map toTok) := by
  obtain ⟨A, c, he, h1, h2, _, hE⟩ := h
  simp only [List.cons.injEq, and_true] at he
  subst he
  refine ⟨A, c, by rw [List.length_map], fun hn => ?_⟩
  obtain ⟨b, off, rfl, hx⟩ := hE (by rintro rfl; exact hn rfl)
  refine ⟨b, off, rfl, fun i t ht j y hy => ?_⟩
  rw [List.getElem?_map] at ht
  cases hxi : x[i]? with
  | none => rw [hxi] at ht; cases ht
  | some z =>
    rw [hxi] at ht
    simp at ht
    subst ht
    obtain ⟨cs, hK, hc⟩ := hx i z hxi
    obtain ⟨rfl, _⟩ := tokR_cells hK
    have hj : j < 6 := by
      rcases Nat.lt_or_ge j 6 with h0 | h0
      · exact h0
      · rw [List.getElem?_eq_none (by show 6 ≤ j; exact h0)] at hy; cases hy
    have := hc j (by show j < 6; exact hj)
    rw [show tokR.sz = 6 from rfl] at this
    rw [this, hy]

end Go.Proofs.YtmkpbffjgpoplaaDoor

/- Which words may be, and words as a text: the law's walk. -/
set_option linter.unusedVariables false
set_option linter.unusedSimpArgs false
set_option linter.unnecessarySimpa false
namespace Go.Proofs.YtmkpbffjgpoplaaDoor
open Go.RowKit Go.Shelf
attribute [local go_sem] Oper.semAt_some

set_option maxRecDepth 100000 in
set_option maxHeartbeats 8000000 in
theorem lawJoins_any (u : Value) (L : List TokD) (w : World) (hu : RdA w u L) (hm : L.length ≤ 1048576) (hsT : sumT L ≤ 1048576) (hv : Vars w) : Calls Tryd.prog 6 #[u] w fun e w' => e = .returned (.bool true) ∧ Kept [] w w' := by
  have HLJ := Lib.hid (lJoin_any u L w hu (by omega) hv)
  have HRJ : Hid (∀ W, Kept [] w W → Calls Tryd.prog 21 #[u] W (JoinPost W L)) := fun W hk => rJoin_any u L W (hu.keep hk) hm hsT
  have HU := Lib.hid hu
  obtain ⟨A, c, rfl, hA⟩ := hu
  have HCL : Hid (∀ t W, Kept [] w W → Calls Tryd.prog 22 #[tokV t] W fun e w' => e = .returned (.int .i64 (checkV t)) ∧ Kept [] W w') := fun t W hk => lCheck_any t W (hv.keep hk)
  have HCR : Hid (∀ t W, t ∈ L → Calls Tryd.prog 23 #[tokV t] W fun e w' => e = .returned (.int .i64 (checkV t)) ∧ Kept [] W w') := fun t W ht => rCheck_any t W (by have := sumT_mem ht; unfold maxLen; omega)
  have HLV : Hid (∀ W, Kept [] w W → Calls Tryd.prog 10 #[] W fun e w' => e = .returned (.bool true) ∧ Kept [] W w') := fun W hk => live_any W (hv.keep hk)
  obtain ⟨m, hmL⟩ : ∃ m, L.length = m := ⟨_, rfl⟩
  have HM := Lib.hid hmL
  rw [hmL] at hm HU HLJ HRJ ⊢
  obtain ⟨J, hJ⟩ : ∃ J, (joinV L).1 = J := ⟨_, rfl⟩
  obtain ⟨er, her⟩ : ∃ er, (joinV L).2 = er := ⟨_, rfl⟩
  have HJ := Lib.hid hJ
  have HER := Lib.hid her
  clear hmL hA hJ her
  go_enter Tryd.func6, Tryd.ntmps6
  go_wp2_with fail
  refine HLJ.out.mono ?_
  rintro e w1 ⟨rfl, hk1⟩
  have HK1 := Lib.hid hk1
  clear hk1
  rw [HJ.out, HER.out]
  go_wp2_with fail
  refine (HRJ.out _ HK1.out).mono ?_
  rintro e w2 ⟨rfl, hk2⟩
  have HK2 := Lib.hid (HK1.out.trans hk2)
  clear hk2
  rw [HJ.out, HER.out]
  go_wp2_with fail
  go_loopw [21] (fun ii wr => ∃ (i : Nat), ii = .int .i64 i ∧ i ≤ m ∧ Kept [] w wr) (fun ii _ => m - (intOf ii).toNat)
  case atStart => exact ⟨0, rfl, Nat.zero_le _, HK2.out⟩
  case round =>
    obtain ⟨i, rfl, hi, hK⟩ := hrel
    have HK := Lib.hid hK
    by_cases hlt : i < m
    · obtain ⟨t, hg⟩ : ∃ t, L[i]? = some t := ⟨_, List.getElem?_eq_getElem (by rw [HM.out]; exact hlt)⟩
      obtain ⟨A', c', he, hcell⟩ := HU.out.keep hK
      obtain ⟨b, off, rfl, hcc⟩ := hcell (by rintro rfl; simp at hg)
      injection he with he1 he2 he3
      subst he1 he3
      obtain ⟨K, T, ⟨v1, v2, v3⟩, pl⟩ := t
      have z0 : wr.cell? ⟨b, off + i * 6, none⟩ = some (.int .i64 K) := hcc i _ hg 0 _ rfl
      have z1 : wr.cell? ⟨b, off + i * 6 + 1, none⟩ = some (.string T) := hcc i _ hg 1 _ rfl
      have z2 : wr.cell? ⟨b, off + i * 6 + 2, none⟩ = some (.int .i64 v1) := hcc i _ hg 2 _ rfl
      have z3 : wr.cell? ⟨b, off + i * 6 + 3, none⟩ = some (.int .i64 v2) := hcc i _ hg 3 _ rfl
      have z4 : wr.cell? ⟨b, off + i * 6 + 4, none⟩ = some (.string v3) := hcc i _ hg 4 _ rfl
      have z5 : wr.cell? ⟨b, off + i * 6 + 5, none⟩ = some (.int .i64 pl) := hcc i _ hg 5 _ rfl
      obtain ⟨ck, hck⟩ : ∃ ck, checkV ⟨K, T, (v1, v2, v3), pl⟩ = ck := ⟨_, rfl⟩
      have HC1 : Hid (∀ W, Kept [] w W → Calls Tryd.prog 22 #[.agg #[.int .i64 K, .string T, .int .i64 v1, .int .i64 v2, .string v3, .int .i64 pl]] W fun e w' => e = .returned (.int .i64 ck) ∧ Kept [] W w') := fun W hk => by rw [← hck]; exact HCL.out _ W hk
      have HC2 : Hid (∀ W, Calls Tryd.prog 23 #[.agg #[.int .i64 K, .string T, .int .i64 v1, .int .i64 v2, .string v3, .int .i64 pl]] W fun e w' => e = .returned (.int .i64 ck) ∧ Kept [] W w') := fun W => by rw [← hck]; exact HCR.out _ W (List.mem_of_getElem? hg)
      clear hcc hcell he2 hg hK hck
      go_upto_region 6 with fail
      obtain ⟨w4, hw4⟩ : ∃ w4, wr.alloc (.cells #[.int .i64 K, .string T, .int .i64 v1, .int .i64 v2, .string v3, .int .i64 pl] 40) = w4 := ⟨_, rfl⟩
      have HB4 : Hid (Blk w4 wr.heap.size #[.int .i64 K, .string T, .int .i64 v1, .int .i64 v2, .string v3, .int .i64 pl] 40) := by show Blk _ _ _ _; rw [← hw4]; exact Blk.new wr _ _
      have HK4 : Hid (Kept [] w w4) := by show Kept _ _ _; rw [← hw4]; exact HK.out.alloc _
      rw [hw4]
      clear hw4 z0 z1 z2 z3 z4 z5
      have x0 : ∀ q : SW (Kept [] w4), q.to.cell? ⟨wr.heap.size, 0, none⟩ = some (.int .i64 K) := fun q => q.ok.cell (by simp) HB4.out.six.1.1
      have x1 : ∀ q : SW (Kept [] w4), q.to.cell? ⟨wr.heap.size, 1, none⟩ = some (.string T) := fun q => q.ok.cell (by simp) HB4.out.six.1.2.1
      have x2 : ∀ q : SW (Kept [] w4), q.to.cell? ⟨wr.heap.size, 2, none⟩ = some (.int .i64 v1) := fun q => q.ok.cell (by simp) HB4.out.six.1.2.2.1
      have x3 : ∀ q : SW (Kept [] w4), q.to.cell? ⟨wr.heap.size, 3, none⟩ = some (.int .i64 v2) := fun q => q.ok.cell (by simp) HB4.out.six.1.2.2.2.1
      have x4 : ∀ q : SW (Kept [] w4), q.to.cell? ⟨wr.heap.size, 4, none⟩ = some (.string v3) := fun q => q.ok.cell (by simp) HB4.out.six.1.2.2.2.2.1
      have x5 : ∀ q : SW (Kept [] w4), q.to.cell? ⟨wr.heap.size, 5, none⟩ = some (.int .i64 pl) := fun q => q.ok.cell (by simp) HB4.out.six.1.2.2.2.2.2
      refine wp_region_sw (Kept [] w4) (stays_kept w4) (Kept.refl _ _) (by kernel_rfl) (by kernel_rfl) (fun hne => ?_)
      repeat (go_big_quiet_step (first
        | (go_at_call 22; exact SW.calls_of (stays_kept w4) (fun W hW => HC1.out W (HK4.out.trans hW)))
        | (go_at_call 23; exact SW.calls_of (stays_kept w4) (fun W _ => HC2.out W))))
      refine wpQuiet_nil ?_
      intro w5 hs5
      have HK5 := Lib.hid (HK4.out.trans hs5)
      clear hs5 x0 x1 x2 x3 x4 x5
      go_wp2_with fail
      go_roundw
      case rel => exact ⟨i + 1, by go_num, by omega, HK5.out⟩
      case measure => simp [intOf]; omega
    · go_wp2_with fail
      refine (HLV.out _ HK.out).mono ?_
      rintro e w6 ⟨rfl, hk6⟩
      have HK6 := Lib.hid (HK.out.trans hk6)
      clear hk6 hK
      go_wp2_with fail
      go_ret
      exact ⟨rfl, HK6.out⟩

end Go.Proofs.YtmkpbffjgpoplaaDoor

/- LexJoins: what the bound gives; the row's walk. -/
set_option linter.unusedVariables false
set_option linter.unusedSimpArgs false
namespace Go.Proofs.YtmkpbffjgpoplaaDoor
open Go.RowKit Go.Shelf Go.Deep Go.ChangeShapes

/-- The row's own reading of a type gives this reader's, and what is weighed is below the reading's bulk. -/
def Rk.OfB {α : Type} (d : Rk α) (wt : α → Nat) (P : Program) (t : TypeId) : Prop :=
  ∀ {H : Type} {enc : TypeId × Value → H} {w : World} {base : Nat} {spare : Nat → Bool} {held : Bool} {fuel : Nat} {cs : List Value} {x : DataW H × List MemPlace},
    DataW.trod enc P w base spare held fuel t cs = some x → ∃ a, d.K w a cs ∧ wt a + 1 ≤ Rows.uptoBulk x.1
theorem bulk_one {H : Type} (d : DataW H) : 1 ≤ Rows.uptoBulk d := by
  cases d with
  | lit l => cases l <;> simp [Rows.uptoBulk]
  | nil => simp [Rows.uptoBulk]
  | ptr d => simp [Rows.uptoBulk]
  | slice elems spare => simp [Rows.uptoBulk]
  | agg parts => simp [Rows.uptoBulk]
  | iface t d => simp [Rows.uptoBulk]
  | map entries => simp [Rows.uptoBulk]
  | held h => simp [Rows.uptoBulk]
theorem bulk_part {H : Type} {d : DataW H} {l : List (DataW H)} (h : d ∈ l) : Rows.uptoBulk d ≤ Rows.uptoBulkAll l := by
  induction l with
  | nil => cases h
  | cons x r ih =>
    simp only [Rows.uptoBulkAll]
    cases List.mem_cons.1 h with
    | inl e => subst e; omega
    | inr e => have := ih e; omega
theorem Rk.OfB.of {α : Type} {d : Rk α} {P : Program} {t : TypeId} (h : d.Of P t) : d.OfB (fun _ => 0) P t := by
  intro H enc w base spare held fuel cs x hx
  obtain ⟨a, ha⟩ := h hx
  exact ⟨a, ha, by simpa using bulk_one x.1⟩
theorem bulk_range {α H : Type} (wt : α → Nat) (f : Nat → α) (D : Nat → DataW H) : ∀ (l : List Nat), (∀ i ∈ l, wt (f i) + 1 ≤ Rows.uptoBulk (D i)) → ((l.map f).map (fun a => wt a + 1)).sum ≤ Rows.uptoBulkAll (l.map D)
  | [], _ => by simp [Rows.uptoBulkAll]
  | i :: l, h => by
    have h1 := h i (by simp)
    have h2 := bulk_range wt f D l (fun j hj => h j (by simp [hj]))
    simp only [List.map_cons, List.sum_cons, Rows.uptoBulkAll]
    omega

theorem Rk.OfB.slice {α : Type} {d : Rk α} {wt : α → Nat} {P : Program} {t e : TypeId} (ht : P.underlying t = some (.slice e)) (hd : d.OfB wt P e) (hs : P.cellsOf e = d.sz) (hp : 0 < d.sz) : (Rk.slice d).OfB (fun l => (l.map (fun a => wt a + 1)).sum) P t := by
  intro H enc w base spare held fuel cs x h
  rcases open_slice ht h with ⟨rfl, rfl⟩ | ⟨a, len, cap, m, n, D, Pl, rfl, hb, hl, hm, hmm, rfl, hx⟩
  · exact ⟨[], ⟨none, 0, rfl, Nat.le_refl _, by simp, fun _ => ⟨rfl, rfl⟩, fun hn => absurd rfl hn⟩, by simpa using bulk_one DataW.nil⟩
  · have hlm : len ≤ m := by rw [hmm]; split <;> omega
    have key : ∀ i, i < len → ∃ y : α, (∃ cs', w.cells? base (a.add (i * d.sz)) d.sz = some cs' ∧ d.K w y cs') ∧ wt y + 1 ≤ Rows.uptoBulk (D i) := fun i hi => by
      obtain ⟨cs', h1, h2⟩ := hx i (by omega)
      rw [hs] at h1
      obtain ⟨y, hy, hw⟩ := hd h2
      exact ⟨y, ⟨cs', h1, hy⟩, hw⟩
    haveI : Inhabited α := ⟨d.dflt⟩
    obtain ⟨f, hf'⟩ := choose_lt key
    have hf : ∀ i, i < len → ∃ cs', w.cells? base (a.add (i * d.sz)) d.sz = some cs' ∧ d.K w (f i) cs' := fun i hi => (hf' i hi).1
    refine ⟨(List.range len).map f, ⟨some a, cap, by simp, by simpa using hl, hm, (fun e => by cases e), fun hne => ?_⟩, ?_⟩
    · have hpos : 0 < len := by
        rcases Nat.eq_zero_or_pos len with h0 | h0
        · subst h0; simp at hne
        · exact h0
      obtain ⟨b, off, sp⟩ := a
      have hcell : ∀ i, i < len → ∀ cs', w.cells? base ((⟨b, off, sp⟩ : Addr).add (i * d.sz)) d.sz = some cs' → ∀ j, j < d.sz → w.cell? (((⟨b, off, sp⟩ : Addr).add (i * d.sz)).add j) = cs'[j]? := by
        intro i _ cs' h1 j hj
        obtain ⟨_, h2, h3⟩ := World.cells?_some h1
        have hj' : j < cs'.length := by omega
        exact h3 j hj
      have hsp : sp = none := by
        obtain ⟨cs', h1, hK⟩ := hf 0 hpos
        have h2 := hcell 0 hpos cs' h1 0 hp
        rw [List.getElem?_eq_getElem (by rw [d.len hK]; exact hp)] at h2
        simpa [Addr.add] using World.cell?_spot h2
      subst hsp
      refine ⟨b, off, rfl, fun i x hx' => ?_⟩
      have hi : i < len := by
        rcases Nat.lt_or_ge i len with h0 | h0
        · exact h0
        · rw [List.getElem?_eq_none (by simpa using h0)] at hx'; cases hx'
      obtain ⟨cs', h1, hK⟩ := hf i hi
      have hxe : x = f i := by
        rw [List.getElem?_eq_getElem (by simpa using hi)] at hx'
        simpa using hx'.symm
      subst hxe
      refine ⟨cs', hK, fun j hj => ?_⟩
      rw [← hcell i hi cs' h1 j hj, add_add]
      congr 1
      unfold Addr.add
      split
      · rename_i h0; simp; try omega
      · simp [Nat.add_assoc]
    · have := bulk_range wt f D (List.range len) (fun i hi => (hf' i (by simpa using hi)).2)
      simp only [Rows.uptoBulk]
      omega

/-- Words' weight: the letters of their texts, and how many they are. -/
def wordsW (l : List TokA) : Nat := (l.map (fun a => a.2.1.size + 1)).sum
theorem wordsW_eq : ∀ l : List TokA, wordsW l = sumT (l.map toTok) + l.length
  | [] => rfl
  | x :: l => by
    have := wordsW_eq l
    unfold wordsW at this ⊢
    rw [List.map_cons, List.map_cons, List.sum_cons, this, sumT, List.length_cons]
    show x.2.1.size + 1 + _ = x.2.1.size + _ + _
    omega
set_option maxRecDepth 100000 in
theorem tokR_ofB : tokR.OfB (fun a => a.2.1.size) Tryd.prog 40 := by
  intro H enc w base spare held fuel cs x h
  obtain ⟨y0, y1, y2, y3, n, rfl, hl, h0, h1, h2, h3⟩ := Go.Joins.trod_struct4 Tryd.underlying40 h
  obtain ⟨x, hx⟩ := tokR_of h
  refine ⟨x, hx, ?_⟩
  obtain ⟨rfl, _⟩ := tokR_cells hx
  have e1 : Tryd.prog.cellsOf 9 = 1 := by kernel_rfl
  simp [e1, tokC, toTok] at h1
  obtain ⟨s', hs, hx2, _⟩ := DataW.trod_string Tryd.underlying9 h1
  simp [Value.cells] at hs
  subst hs
  have hq := bulk_part (d := y1.1) (l := [y0.1, y1.1, y2.1, y3.1]) (by simp)
  show x.2.1.size + 1 ≤ Rows.uptoBulkAll [y0.1, y1.1, y2.1, y3.1] + 1
  have hz : Rows.uptoBulk y1.1 = x.2.1.data.size + 1 := by rw [hx2]; simp [Rows.uptoBulk]
  rw [hz] at hq
  exact Nat.succ_le_succ (Nat.le_of_succ_le hq)
theorem wordsR_ofB {H : Type} {enc : TypeId × Value → H} {w : World} {base : Nat} {spare : Nat → Bool} {held : Bool} {fuel : Nat} {cs : List Value} {x : DataW H × List MemPlace}
    (h : DataW.trod enc Tryd.prog w base spare held fuel 22 cs = some x) : ∃ a, (Rk.slice tokR).K w a cs ∧ wordsW a + 1 ≤ Rows.uptoBulk x.1 :=
  (Rk.OfB.slice (d := tokR) Tryd.underlying22 tokR_ofB (by kernel_rfl) (by decide)) h
theorem joins_row (w : World) (hL : laidMetH Tryd.prog Rows.lexJoinsUptoRow.laid w) (A : Option Addr) (n cap : Nat) (x : List TokA) (wx : (Rk.slice tokR).K w x [.slice A n cap]) (bx : wordsW x + 1 ≤ 1048576) :
    Calls Tryd.prog 6 #[.slice A n cap] w fun e w' => e = .returned (.bool true) ∧ Below w.heap.size w w' := by
  rw [wordsW_eq] at bx
  exact (lawJoins_any _ (x.map toTok) w (RdA.of_rk wx) (by rw [List.length_map]; omega) (by omega) (vars_of_laid hL)).mono fun e w' ⟨he, hk⟩ => ⟨he, hk.below⟩

end Go.Proofs.YtmkpbffjgpoplaaDoor

/- Texts put together: VL, E27, E28, E29, E31, E32, LE. -/
import Derived.Test.YtmkpbffjgpoplaaDoorX8
import Derived.Test.YtmkpbffjgpoplaaDoorRows
import Derived.LaidLaws
import Derived.Lib.LaidTab
import Derived.LaidHandle
import Derived.LaidMore
import Derived.MakeChecks
import Derived.Test.YtmkpbffjgpoplaaDoorE12
import Derived.Test.YtmkpbffjgpoplaaDoorE25
import Derived.Test.YtmkpbffjgpoplaaDoorE26
import Derived.Deep.DeepCutAuto
import Derived.Test.YtmkpbffjgpoplaaDoorReader
/- What the rows' list of variables gives. -/
set_option linter.unusedVariables false
set_option linter.unusedSimpArgs false
namespace Go.Proofs.YtmkpbffjgpoplaaDoor
open Go.RowKit Go.Shelf

theorem pow_data : (Rows.laid_internal_strconv_uint64pow10 : DataW Unit) = Lib.tabData .u64 Lib.pow10Tab := by kernel_rfl
theorem vars_of_laid {W : World} (h : laidMetH Tryd.prog [("math/bits.deBruijn32tab", Rows.laid_math_bits_deBruijn32tab), ("math/bits.deBruijn64tab", Rows.laid_math_bits_deBruijn64tab), ("internal/strconv.uint64pow10", Rows.laid_internal_strconv_uint64pow10), ("strconv.ErrRange", Rows.laid_strconv_ErrRange), ("strconv.ErrSyntax", Rows.laid_strconv_ErrSyntax)] W) : Vars W := by
  rw [MakeChecks.laidMetH_plain _ _ _ (by kernel_rfl)] at h
  obtain ⟨ps, ⟨g0, t0, cs0, f0, p0, q0, hg0, ht0, hv0, hd0, ⟨g1, t1, cs1, f1, p1, q1, hg1, ht1, hv1, hd1, ⟨g2, t2, cs2, f2, p2, q2, hg2, ht2, hv2, hd2, ⟨g3, t3, cs3, f3, p3, q3, hg3, ht3, hv3, hd3, ⟨g4, t4, cs4, f4, p4, q4, hg4, ht4, hv4, hd4, _, _⟩, _⟩, _⟩, _⟩, _⟩, _, _⟩ := h
  have e2 : g2 = 3 := Option.some.inj (hg2.symm.trans globTab)
  have e3 : g3 = 2 := Option.some.inj (hg3.symm.trans (by kernel_rfl))
  have e4 : g4 = 1 := Option.some.inj (hg4.symm.trans (by kernel_rfl))
  subst e2 e3 e4
  have u2 : t2 = 116 := Option.some.inj (ht2.symm.trans (by kernel_rfl))
  have u3 : t3 = 72 := Option.some.inj (ht3.symm.trans (by kernel_rfl))
  have u4 : t4 = 72 := Option.some.inj (ht4.symm.trans (by kernel_rfl))
  subst u2 u3 u4
  rw [pow_data] at hd2
  have c2 := Lib.cells_of_tab (n := 20) Tryd.underlying116 Tryd.underlying92 (by kernel_rfl) (by kernel_rfl) hd2
  obtain ⟨_, u3, v3, c3, _, _⟩ := iface_of_trod Tryd.underlying72 hd3
  obtain ⟨_, u4, v4, c4, _, _⟩ := iface_of_trod Tryd.underlying72 hd4
  refine ⟨?_, ⟨.iface u4 v4, ?_, .inr ⟨_, _, rfl⟩⟩, ⟨.iface u3 v3, ?_, .inr ⟨_, _, rfl⟩⟩⟩
  · show World.var? _ _ _ = _
    rw [hv2, ← c2]
  · have := World.var?_cell hg4 hv4 0
    rw [Array.eq_one_of_toList c4] at this
    simpa using this
  · have := World.var?_cell hg3 hv3 0
    rw [Array.eq_one_of_toList c3] at this
    simpa using this


end Go.Proofs.YtmkpbffjgpoplaaDoor

/- A word stands by itself as it stands in a text: the plain laws. -/
set_option linter.unusedVariables false
set_option linter.unusedSimpArgs false
set_option linter.unnecessarySimpa false
namespace Go.Proofs.YtmkpbffjgpoplaaDoor
open Go.RowKit Go.Shelf

def clsB (l : Bool) (c : Int) : Bool := digitV c || (l && letterV c)
theorem runGo_build (s : ByteArray) (l : Bool) (e : Nat) : ∀ (r k : Nat), k ≤ e → e ≤ k + r → (∀ i, k ≤ i → i < e → clsB l (byt s i) = true) → (e = k + r ∨ clsB l (byt s e) = false) → runGo s l r k = e
  | 0, k, h1, h2, _, _ => by rw [runGo]; omega
  | r + 1, k, h1, h2, h3, h4 => by
    rw [runGo]
    by_cases hk : k = e
    · subst hk
      rw [if_neg]
      rcases h4 with h4 | h4
      · omega
      · unfold clsB at h4; rw [h4]; simp
    · have := h3 k (Nat.le_refl _) (by omega)
      unfold clsB at this
      rw [if_pos this]
      exact runGo_build s l e r (k + 1) (by omega) (by omega) (fun i a b => h3 i (by omega) b) (by rcases h4 with h4 | h4; exact .inl (by omega); exact .inr h4)
theorem runGo_cls (s : ByteArray) (l : Bool) : ∀ (r k i : Nat), k ≤ i → i < runGo s l r k → clsB l (byt s i) = true
  | 0, k, i, h1, h2 => by rw [runGo] at h2; omega
  | r + 1, k, i, h1, h2 => by
    rw [runGo] at h2
    split at h2
    · rename_i hc
      by_cases hk : i = k
      · subst hk; exact hc
      · exact runGo_cls s l r (k + 1) i (by omega) h2
    · omega
theorem closGo_pre (s x : ByteArray) (e : Nat) (hag : ∀ i, i < e → byt x i = byt s i) : ∀ (r k : Nat), closGo s r k = some e → ∀ r', e ≤ k + r' → closGo x r' k = some e
  | 0, k, h, _, _ => by simp [closGo] at h
  | 1, k, h, r', hr => by
    rw [closGo] at h
    split at h
    · rename_i hc
      injection h with h
      have hb : byt x k = 34 := by rw [hag k (by omega)]; exact hc
      match r', hr with
      | 0, hr => omega
      | 1, _ => rw [closGo, if_pos hb, h]
      | n + 2, _ => rw [closGo, if_neg (by omega), if_pos hb, h]
    · cases h
  | r + 2, k, h, r', hr => by
    have hbd := closGo_bd s (r + 2) k e h
    have hb := hag k (by omega)
    rw [closGo] at h
    split at h
    · rename_i hc
      have hbd2 := closGo_bd s r (k + 2) e h
      match r', hr with
      | 0, hr => omega
      | 1, hr => omega
      | n + 2, hr =>
        rw [closGo, if_pos (by rw [hb]; exact hc)]
        exact closGo_pre s x e hag r (k + 2) h n (by omega)
    · rename_i hc
      split at h
      · rename_i hc2
        injection h with h
        match r', hr with
        | 0, hr => omega
        | 1, _ => rw [closGo, if_pos (by rw [hb]; exact hc2), h]
        | n + 2, _ => rw [closGo, if_neg (by rw [hb]; exact hc), if_pos (by rw [hb]; exact hc2), h]
      · rename_i hc2
        have hbd2 := closGo_bd s (r + 1) (k + 1) e h
        match r', hr with
        | 0, hr => omega
        | 1, hr => omega
        | n + 2, hr =>
          rw [closGo, if_neg (by rw [hb]; exact hc), if_neg (by rw [hb]; exact hc2)]
          exact closGo_pre s x e hag (r + 1) (k + 1) h (n + 1) (by omega)

/-- The first word of a text is the first word of any text that begins so, if it ends there or a blank follows. -/
theorem wordO_agree (s x : ByteArray) (t : TokD) (hag : ∀ i, i < t.text.size → byt x i = byt s i) (hse : 0 < s.size) (hxe : t.text.size ≤ x.size) (hext : ∀ a b, a ≤ b → b ≤ t.text.size → x.extract a b = s.extract a b) (ho : wordO s 0 = some t) (hend : t.text.size = x.size ∨ byt x t.text.size = 32) : wordO x 0 = some t := by
  have ht := wordO_text hse ho
  have h0 := hag 0 (by omega)
  have hec : ∀ l, t.text.size = x.size ∨ clsB l (byt x t.text.size) = false := fun l => by
    rcases hend with h | h
    · exact .inl h
    · refine .inr ?_
      rw [h]
      cases l <;> decide
  have key : ∀ (l : Bool) (k : Nat), k ≤ t.text.size → (s.extract 0 (runV s l k)).size = t.text.size → runV s l k ≤ s.size → runV x l k = runV s l k ∧ runV s l k = t.text.size := by
    intro l k hk hz hle
    rw [size_extract s 0 _ (by omega) hle, Nat.sub_zero] at hz
    refine ⟨?_, hz⟩
    rw [hz]
    unfold runV at hz ⊢
    refine runGo_build x l _ _ _ hk (by omega) (fun i h1 h2 => ?_) ?_
    · rw [hag i h2]
      exact runGo_cls s l (s.size - k) k i h1 (by omega)
    · rcases hec l with h | h
      · exact .inl (by omega)
      · exact .inr h
  have hbase := ho
  unfold wordO at ho ⊢
  rw [h0]
  by_cases c1 : letterV (byt s 0) = true
  · rw [if_pos c1] at ho ⊢
    split at ho
    · rename_i hn
      injection ho with ho
      have hb := runV_bd s true (k := 0) (by omega)
      obtain ⟨e1, e2⟩ := key true 0 (by omega) (by rw [← ho]) hb.2
      have e3 : x.extract 0 (runV x true 0) = s.extract 0 (runV s true 0) := by rw [e1, e2]; exact hext _ _ (by omega) (Nat.le_refl _)
      rw [e3, if_pos hn, ho]
    · cases ho
  · rw [if_neg c1] at ho ⊢
    by_cases c2 : digitV (byt s 0) = true ∨ (byt s 0 = 45 ∧ 0 + 1 < s.size ∧ digitV (byt s (0 + 1)) = true)
    · rw [if_pos c2] at ho
      split at ho
      · rename_i hn
        injection ho with ho
        have hb := runV_bd s false (k := 0 + 1) (by omega)
        obtain ⟨e1, e2⟩ := key false (0 + 1) (by omega) (by rw [← ho]) hb.2
        have e3 : x.extract 0 (runV x false (0 + 1)) = s.extract 0 (runV s false (0 + 1)) := by rw [e1, e2]; exact hext _ _ (by omega) (Nat.le_refl _)
        have c2' : digitV (byt s 0) = true ∨ (byt s 0 = 45 ∧ 0 + 1 < x.size ∧ digitV (byt x (0 + 1)) = true) := by
          rcases c2 with c | ⟨a, b, c⟩
          · exact .inl c
          · have : 2 ≤ t.text.size := by
              rw [← e2]
              unfold runV
              rw [show s.size - (0 + 1) = (s.size - 2) + 1 by omega, runGo, if_pos (by rw [c]; simp)]
              exact (runGo_bd s false _ _).1
            exact .inr ⟨a, by omega, by rw [hag _ (by omega)]; exact c⟩
        rw [if_pos c2', e3, if_pos hn, ho]
      · cases ho
    · rw [if_neg c2] at ho
      have ne45 : byt s 0 = 45 → False := fun h45 => by
        rw [if_neg (by omega)] at ho
        rw [if_neg (fun h => by have := h.2; rw [h45] at this; simp [sym2] at this), if_neg (by rw [h45]; decide)] at ho
        cases ho
      have c2' : ¬ (digitV (byt s 0) = true ∨ (byt s 0 = 45 ∧ 0 + 1 < x.size ∧ digitV (byt x (0 + 1)) = true)) := by
        rintro (h | ⟨a, _⟩)
        · exact c2 (.inl h)
        · exact ne45 a
      rw [if_neg c2']
      by_cases c3 : byt s 0 = 34
      · rw [if_pos c3] at ho ⊢
        split at ho
        · cases ho
        · rename_i e he
          have hbd := closGo_bd _ _ _ _ he
          split at ho
          · rename_i hn
            injection ho with ho
            have hz : e = t.text.size := by
              rw [← ho]
              show e = (s.extract 0 e).size
              rw [size_extract s 0 _ (by omega) (by omega)]; omega
            have := closGo_pre s x e (fun i hi => hag i (by omega)) _ _ he (x.size - (0 + 1)) (by omega)
            rw [this]
            simp only
            rw [hext 0 e (by omega) (by omega), if_pos hn, ho]
          · cases ho
      · rw [if_neg c3] at ho ⊢
        by_cases c4 : 0 + 1 < s.size ∧ sym2 (byt s 0) (byt s (0 + 1)) = true
        · rw [if_pos c4] at ho
          injection ho with ho
          have hz : t.text.size = 2 := by
            rw [← ho]
            show (s.extract 0 (0 + 2)).size = 2
            rw [size_extract s 0 _ (by omega) (by omega)]
          rw [if_pos ⟨by omega, by rw [hag _ (by omega)]; exact c4.2⟩, hext 0 (0 + 2) (by omega) (by omega), ho]
        · rw [if_neg c4] at ho
          split at ho
          · rename_i c5
            injection ho with ho
            have hz : t.text.size = 1 := by
              rw [← ho]
              show (s.extract 0 (0 + 1)).size = 1
              rw [size_extract s 0 _ (by omega) (by omega)]
            have c4' : ¬ (0 + 1 < x.size ∧ sym2 (byt s 0) (byt x (0 + 1)) = true) := by
              rintro ⟨a, b⟩
              rcases hend with h | h
              · omega
              · rw [hz] at h
                rw [show (0 : Nat) + 1 = 1 from rfl, h] at b
                simp [sym2] at b
            rw [if_neg c4', if_pos c5, hext 0 (0 + 1) (by omega) (by omega), ho]
          · cases ho

/-- Where a word stands no blank stands. -/
theorem word_not_blank {s : ByteArray} {k : Nat} {t : TokD} (ho : wordO s k = some t) : blkB (byt s k) = false ∧ byt s k ≠ 35 := by
  have bad : ∀ c, byt s k = c → (c = 32 ∨ c = 9 ∨ c = 10 ∨ c = 13 ∨ c = 35) → False := by
    intro c hc h
    unfold wordO at ho
    rw [hc] at ho
    rw [if_neg (by rcases h with rfl | rfl | rfl | rfl | rfl <;> decide), if_neg (by rintro (h1 | ⟨h1, _⟩); rcases h with rfl | rfl | rfl | rfl | rfl <;> revert h1 <;> decide; omega), if_neg (by omega), if_neg (by rintro ⟨_, h1⟩; unfold sym2 at h1; rcases h with rfl | rfl | rfl | rfl | rfl <;> simp at h1), if_neg (by rcases h with rfl | rfl | rfl | rfl | rfl <;> decide)] at ho
    cases ho
  refine ⟨?_, fun h => bad _ h (by omega)⟩
  cases hb : blkB (byt s k) with
  | false => rfl
  | true =>
    unfold blkB at hb
    simp at hb
    exact (bad _ rfl (by omega)).elim
theorem blankV_at {s : ByteArray} {k : Nat} {t : TokD} (hk : k < s.size) (ho : wordO s k = some t) : blankV s k = k := by
  obtain ⟨h1, h2⟩ := word_not_blank ho
  unfold blankV
  rw [show s.size - k = (s.size - k - 1) + 1 by omega, blankGo, if_neg (by rw [h1]; decide), if_neg h2]
theorem blankV_end (s : ByteArray) : blankV s s.size = s.size := by unfold blankV; rw [Nat.sub_self, blankGo]

/-- What a word is by itself. -/
def okT (t : TokD) : Prop := 0 < t.text.size ∧ t.text.size ≤ 4096 ∧ wordO t.text 0 = some (t.at0 0)
theorem scan_one {t : TokD} (h : okT t) : scanV t.text = ([t.at0 0], 0, 0) := by
  obtain ⟨h1, h2, h3⟩ := h
  have hb := blankV_at h1 h3
  have e := wordsV_step (s := t.text) (k := 0) (Nat.zero_le _) (by rw [hb]; exact h1) (by rw [hb]; exact h3)
  have e2 : blankV t.text 0 + (t.at0 0).text.size = t.text.size := by rw [hb]; exact Nat.zero_add _
  rw [e2, wordsV_none (Nat.le_refl _) (fun h => absurd h (by rw [blankV_end]; omega))] at e
  refine scanV_ok rfl (by omega) e ?_
  rw [blankV_end]; omega
theorem scan_parts {s : ByteArray} {L : List TokD} {p : Nat} (h : scanV s = (L, p, 0)) : s.size ≤ 4096 ∧ wordsV s 0 = (L, s.size) ∧ p = 0 := by
  unfold scanV at h
  split at h
  · injection h with _ h; injection h with _ h; simp at h
  · rename_i hs
    split at h
    · injection h with _ h; injection h with _ h; simp at h
    · rename_i h2
      obtain ⟨k, hk, _, hb, _⟩ := words_last s (by omega)
      have := (blankV_bd s hk).2
      injection h with h3 h4
      injection h4 with h4 _
      refine ⟨by omega, ?_, h4.symm⟩
      rw [← h3]
      have : (wordsV s 0).2 = s.size := by omega
      rw [← this]
theorem ok_of_scan {t x : TokD} {p : Nat} (h : scanV t.text = ([x], p, 0)) (hx : x.at0 0 = t.at0 0) : okT t ∧ x.place = 0 := by
  obtain ⟨h1, h2, _⟩ := scan_parts h
  have hb := blankV_bd t.text (k := 0) (Nat.zero_le _)
  have htx : x.text = t.text := by have := congrArg TokD.text hx; exact this
  by_cases hlt : blankV t.text 0 < t.text.size
  · cases ho : wordO t.text (blankV t.text 0) with
    | none =>
      rw [wordsV_none (Nat.zero_le _) (fun _ => ho)] at h2
      injection h2 with h2 _
      cases h2
    | some y =>
      rw [wordsV_step (Nat.zero_le _) hlt ho] at h2
      injection h2 with h2 _
      injection h2 with h2 _
      subst h2
      have ht := wordO_text hlt ho
      rw [htx] at ht
      have hz : blankV t.text 0 = 0 := by omega
      rw [hz] at ho
      have hp : y.place = 0 := by rw [ht.1, hz]; rfl
      refine ⟨⟨by omega, h1, ?_⟩, hp⟩
      rw [ho, ← hx]
      congr 1
      unfold TokD.at0
      rw [← hp]
  · rw [wordsV_none (Nat.zero_le _) (fun h => absurd h hlt)] at h2
    injection h2 with h2 _
    cases h2
open Classical in
/-- What Check says. -/
noncomputable def checkV (t : TokD) : Int := if okT t then 0 else 50

/-- A word of a text may be by itself. -/
theorem word_ok {s : ByteArray} {k : Nat} {t : TokD} (hk : k < s.size) (hs : s.size ≤ 4096) (ho : wordO s k = some t) : okT t := by
  have ht := wordO_text hk ho
  refine ⟨by omega, by omega, ?_⟩
  rw [wordO_from s hk] at ho
  have hzf := size_from s (k := k) (by omega)
  cases hf : wordO (s.extract k s.size) 0 with
  | none => rw [hf] at ho; cases ho
  | some y =>
    rw [hf] at ho
    injection ho with ho
    have htx : y.text = t.text := by rw [← ho]; rfl
    have hy := wordO_text (s := s.extract k s.size) (k := 0) (by omega) hf
    have hyz : y = t.at0 0 := by
      rw [← ho]
      unfold TokD.at0
      have : y.place = 0 := hy.1
      rw [← this]
    have hx : ∀ a b, a ≤ b → b ≤ y.text.size → y.text.extract a b = (s.extract k s.size).extract a b := fun a b hab hb => by
      have e := hy.2.2.2
      rw [Nat.zero_add] at e
      have hsub : ∀ (X : ByteArray) (n : Nat), b ≤ n → (X.extract 0 n).extract a b = X.extract a b := fun X n hn => by
        apply ByteArray.ext
        rw [ByteArray.data_extract, ByteArray.data_extract, ByteArray.data_extract, Array.extract_extract, Nat.zero_add, Nat.zero_add, Nat.min_eq_left hn]
      conv => lhs; rw [e]
      exact hsub _ _ hb
    rw [← htx, ← hyz]
    refine wordO_agree (s.extract k s.size) y.text y (fun i hi => ?_) (by omega) (Nat.le_refl _) hx hf (.inl rfl)
    have e := hy.2.2.2
    rw [Nat.zero_add] at e
    conv => lhs; rw [e]
    have := byt_extract (s.extract k s.size) 0 y.text.size i (by omega) (by omega)
    rw [Nat.zero_add] at this
    exact this
theorem words_ok (s : ByteArray) (hs : s.size ≤ 4096) : ∀ (f : Nat) (k : Nat), k ≤ s.size → s.size + 1 - k ≤ f → ∀ t ∈ (wordsV s k).1, okT t
  | 0, k, hk, hf, t, ht => by omega
  | f + 1, k, hk, hf, t, ht => by
    have hbd := blankV_bd s hk
    by_cases hlt : blankV s k < s.size
    · cases ho : wordO s (blankV s k) with
      | none => rw [wordsV_none hk (fun _ => ho)] at ht; cases ht
      | some y =>
        rw [wordsV_step hk hlt ho] at ht
        have hy := wordO_text hlt ho
        rcases List.mem_cons.1 ht with rfl | ht
        · exact word_ok hlt hs ho
        · exact words_ok s hs f _ (by omega) (by omega) t ht
    · rw [wordsV_none hk (fun h => absurd h hlt)] at ht; cases ht
theorem scan_ok {s : ByteArray} {L : List TokD} {p : Nat} (h : scanV s = (L, p, 0)) : ∀ t ∈ L, okT t := by
  obtain ⟨h1, h2, _⟩ := scan_parts h
  have := words_ok s h1 _ 0 (Nat.zero_le _) (Nat.le_refl _)
  rw [h2] at this
  exact this

end Go.Proofs.YtmkpbffjgpoplaaDoor

/- Which words may be: both Checks. -/
set_option linter.unusedVariables false
set_option linter.unusedSimpArgs false
set_option linter.unnecessarySimpa false
namespace Go.Proofs.YtmkpbffjgpoplaaDoor
open Go.RowKit Go.Shelf
attribute [local go_sem] Oper.semAt_some

theorem checkV_of {t : TokD} {L : List TokD} {p : Nat} {e : Int} (h : scanV t.text = (L, p, e)) : (e ≠ 0 → checkV t = 50) ∧ (L.length ≠ 1 → checkV t = 50) ∧ (∀ x, L = [x] → e = 0 → (x.at0 0 = t.at0 0 → checkV t = 0 ∧ x.place = 0) ∧ (x.at0 0 ≠ t.at0 0 → checkV t = 50) ∧ (x.place ≠ 0 → checkV t = 50)) := by
  have bad : ¬ okT t → checkV t = 50 := fun h => by unfold checkV; rw [if_neg h]
  have key : okT t → L = [t.at0 0] ∧ e = 0 := fun hk => by
    have := (scan_one hk).symm.trans h
    injection this with h1 h2
    injection h2 with h2 h3
    exact ⟨h1.symm, h3.symm⟩
  refine ⟨fun h1 => bad fun hk => h1 (key hk).2, fun h1 => bad fun hk => h1 (by rw [(key hk).1]; rfl), fun x hx he => ⟨fun h1 => ?_, fun h1 => bad fun hk => ?_, fun h1 => bad fun hk => ?_⟩⟩
  · subst hx he
    have := ok_of_scan h h1
    exact ⟨by unfold checkV; rw [if_pos this.1], this.2⟩
  · have := (key hk).1
    rw [hx] at this
    injection this with this _
    exact h1 (by rw [this]; rfl)
  · have := (key hk).1
    rw [hx] at this
    injection this with this _
    exact h1 (by rw [this]; rfl)
theorem at0_ne {K K' : Int} {T T' : ByteArray} {v1 v2 y1 y2 : Int} {v3 y3 : ByteArray} {p p' : Int} (h : ¬ (K = K' ∧ T = T' ∧ v1 = y1 ∧ v2 = y2 ∧ v3 = y3)) : (⟨K', T', (y1, y2, y3), p'⟩ : TokD).at0 0 ≠ (⟨K, T, (v1, v2, v3), p⟩ : TokD).at0 0 := by
  intro e
  unfold TokD.at0 at e
  injection e with e1 e2 e3 e4
  injection e3 with e5 e6
  injection e6 with e7 e8
  exact h ⟨e1.symm, e2.symm, e5.symm, e7.symm, e8.symm⟩
theorem scanV_len2 (s : ByteArray) : (scanV s).1.length ≤ 4096 := by
  unfold scanV
  split
  · simp
  · rename_i h
    split
    · simp
    · obtain ⟨k, hk, _, _, hl⟩ := words_last s (by omega)
      simp only
      omega
theorem own_blk {W : World} {base : Nat} {e : TypeId} {v : Value} {L : List TokD} (h : W.ownsRow base e 6 v L.length (cT L)) (hn : L ≠ []) : ∃ (g c : Nat) (cur : Array Value), v = .slice (some ⟨g, 0, none⟩) L.length c ∧ base ≤ g ∧ Blk W g cur e ∧ ∀ (j : Nat) (x : Value), (cT L)[j]? = some x → cur[j]? = some x := by
  rcases h.2 with ⟨_, h0⟩ | ⟨g, cap, cur, he, hb, hg, _, _, _, ht⟩
  · exact absurd (List.eq_nil_of_length_eq_zero h0) hn
  · refine ⟨g, cap, cur, he, hb, hg, fun j x hx => ?_⟩
    have h2 := h.1
    have hj : j < (cT L).length := by
      rcases Nat.lt_or_ge j (cT L).length with h1 | h1
      · exact h1
      · rw [List.getElem?_eq_none h1] at hx; cases hx
    rw [← ht, List.getElem?_take_of_lt (by omega)] at hx
    simpa using hx

set_option maxRecDepth 100000 in
set_option maxHeartbeats 4000000 in
theorem lCheck_any (t : TokD) (w : World) (hv : Vars w) : Calls Tryd.prog 22 #[tokV t] w fun e w' => e = .returned (.int .i64 (checkV t)) ∧ Kept [] w w' := by
  obtain ⟨K, T, ⟨v1, v2, v3⟩, pl⟩ := t
  obtain ⟨L, hL⟩ : ∃ L, (scanV T).1 = L := ⟨_, rfl⟩
  obtain ⟨p, hp⟩ : ∃ p, (scanV T).2.1 = p := ⟨_, rfl⟩
  obtain ⟨er, her⟩ : ∃ er, (scanV T).2.2 = er := ⟨_, rfl⟩
  have hsc : scanV T = (L, p, er) := by rw [← hL, ← hp, ← her]
  have hlen : L.length ≤ 4096 := by rw [← hL]; exact scanV_len2 T
  obtain ⟨hc1, hc2, hc3⟩ := checkV_of (t := ⟨K, T, (v1, v2, v3), pl⟩) hsc
  have HC1 := Lib.hid hc1
  have HC2 := Lib.hid hc2
  have HC3 := Lib.hid hc3
  have HSC : Hid (∀ W, Kept [] w W → Calls Tryd.prog 8 #[.string T] W (ScanPost W T)) := fun W hk => lScan_any T W (hv.keep hk)
  obtain ⟨ans, hans⟩ : ∃ ans, checkV ⟨K, T, (v1, v2, v3), pl⟩ = ans := ⟨_, rfl⟩
  rw [hans] at HC1 HC2 HC3 ⊢
  clear hc1 hc2 hc3 hsc hans
  simp only [tokV]
  have HK0 := Lib.hid ((Kept.refl [] w).alloc (.cells #[.int .i64 K, .string T, .int .i64 v1, .int .i64 v2, .string v3, .int .i64 pl] 40))
  have HB0 := Lib.hid (Blk.new w #[.int .i64 K, .string T, .int .i64 v1, .int .i64 v2, .string v3, .int .i64 pl] 40)
  obtain ⟨⟨t0, t1, t2, t3, t4, t5⟩, ft0, ft1, ft2, ft3, ft4, ft5⟩ := HB0.out.six
  go_enter Tryd.func22, Tryd.ntmps22
  go_wp2_with fail
  refine (HSC.out _ HK0.out).mono ?_
  rintro e w1 ⟨v, rfl, hown, hk⟩
  have HK1 := Lib.hid (HK0.out.trans hk)
  have HB1 := Lib.hid (HB0.out.kept hk (by simp))
  clear t0 t1 t2 t3 t4 t5 ft0 ft1 ft2 ft3 ft4 ft5
  obtain ⟨⟨t0, t1, t2, t3, t4, t5⟩, ft0, ft1, ft2, ft3, ft4, ft5⟩ := HB1.out.six
  rw [hL] at hown
  rw [hp, her]
  obtain ⟨A, c, hAv⟩ := own_len hown
  subst hAv
  have HOWN := Lib.hid hown
  clear hown hk hL hp her
  obtain ⟨n, hn⟩ : ∃ n, L.length = n := ⟨_, rfl⟩
  have HN := Lib.hid hn
  rw [hn] at hlen ⊢
  clear hn
  by_cases he : er = 0
  case neg =>
    have hne : (er == 0) = false := by simpa using he
    have hne2 : (er != 0) = true := by simpa using he
    have HE := Lib.hid (HC1.out he)
    clear he
    go_wp2_with fail
    go_ret
    exact ⟨by rw [HE.out]; rfl, HK1.out⟩
  subst he
  by_cases hn1 : n = 1
  case neg =>
    have hne : ((n : Int) == 1) = false := by simp; omega
    have hne2 : ((n : Int) != 1) = true := by simp; omega
    have HE := Lib.hid (HC2.out (by rw [HN.out]; exact hn1))
    go_wp2_with fail
    go_ret
    exact ⟨by rw [HE.out]; rfl, HK1.out⟩
  subst hn1
  obtain ⟨x, hx⟩ : ∃ x, L = [x] := by
    have := HN.out
    match L, this with
    | [x], _ => exact ⟨x, rfl⟩
  subst hx
  obtain ⟨K', T', ⟨y1, y2, y3⟩, p'⟩ := x
  have HX := Lib.hid (HC3.out _ rfl rfl)
  obtain ⟨b, c', cur, he, hbb, hblk, hcur⟩ := own_blk HOWN.out (by simp)
  injection he with he1 he2 he3
  subst he1 he3
  have HQ1 := Lib.hid hblk
  have hlt := HB0.out.lt
  simp only [World.size_alloc] at hlt hbb
  have d0 : cur[0]? = some (.int .i64 K') := hcur 0 _ rfl
  have d1 : cur[1]? = some (.string T') := hcur 1 _ rfl
  have d2 : cur[2]? = some (.int .i64 y1) := hcur 2 _ rfl
  have d3 : cur[3]? = some (.int .i64 y2) := hcur 3 _ rfl
  have d4 : cur[4]? = some (.string y3) := hcur 4 _ rfl
  have d5 : cur[5]? = some (.int .i64 p') := hcur 5 _ rfl
  have z0 : w1.cell? ⟨b, 0, none⟩ = some (.int .i64 K') := (hblk.cell 0).trans d0
  have z1 : w1.cell? ⟨b, 1, none⟩ = some (.string T') := (hblk.cell 1).trans d1
  have z2 : w1.cell? ⟨b, 2, none⟩ = some (.int .i64 y1) := (hblk.cell 2).trans d2
  have z3 : w1.cell? ⟨b, 3, none⟩ = some (.int .i64 y2) := (hblk.cell 3).trans d3
  have z4 : w1.cell? ⟨b, 4, none⟩ = some (.string y3) := (hblk.cell 4).trans d4
  have z5 : w1.cell? ⟨b, 5, none⟩ = some (.int .i64 p') := (hblk.cell 5).trans d5
  have D0 := Lib.hid d0
  have D1 := Lib.hid d1
  have D2 := Lib.hid d2
  have D3 := Lib.hid d3
  have D4 := Lib.hid d4
  have D5 := Lib.hid d5
  clear d0 d1 d2 d3 d4 d5 hcur he2 hblk
  by_cases hpp : p' = 0
  case neg =>
    have hne : (p' == 0) = false := by simpa using hpp
    have hne2 : (p' != 0) = true := by simpa using hpp
    have HE := Lib.hid (HX.out.2.2 hpp)
    go_wp2_with fail
    go_ret
    exact ⟨by rw [HE.out]; rfl, HK1.out⟩
  subst hpp
  go_upto_region 5 with fail
  obtain ⟨w2, hw2⟩ : ∃ w2, w1.setCell ⟨w.heap.size, 5, none⟩ (.int .i64 0) = w2 := ⟨_, rfl⟩
  have HB2 : Hid (Blk w2 w.heap.size #[.int .i64 K, .string T, .int .i64 v1, .int .i64 v2, .string v3, .int .i64 0] 40) := by show Blk _ _ _ _; rw [← hw2]; exact HB1.out.set 5 _
  have HQ2 : Hid (Blk w2 b cur 40) := by show Blk _ _ _ _; rw [← hw2]; exact HQ1.out.set_other (by simp; omega) _
  have HK2 : Hid (Kept [] w w2) := by show Kept _ _ _; rw [← hw2]; exact HK1.out.setCell (.inr (by simp)) _
  rw [hw2]
  clear hw2 t0 t1 t2 t3 t4 t5 ft0 ft1 ft2 ft3 ft4 ft5 z0 z1 z2 z3 z4 z5
  obtain ⟨⟨t0, t1, t2, t3, t4, t5⟩, _⟩ := HB2.out.six
  have z0 : w2.cell? ⟨b, 0, none⟩ = some (.int .i64 K') := (HQ2.out.cell 0).trans D0.out
  have z1 : w2.cell? ⟨b, 1, none⟩ = some (.string T') := (HQ2.out.cell 1).trans D1.out
  have z2 : w2.cell? ⟨b, 2, none⟩ = some (.int .i64 y1) := (HQ2.out.cell 2).trans D2.out
  have z3 : w2.cell? ⟨b, 3, none⟩ = some (.int .i64 y2) := (HQ2.out.cell 3).trans D3.out
  have z4 : w2.cell? ⟨b, 4, none⟩ = some (.string y3) := (HQ2.out.cell 4).trans D4.out
  have z5 : w2.cell? ⟨b, 5, none⟩ = some (.int .i64 0) := (HQ2.out.cell 5).trans D5.out
  by_cases hx : K = K'
  case neg =>
    have hxb : (K == K') = false := by simpa using hx
    have hxb2 : (K' == K) = false := by simpa using (Ne.symm hx)
    have HE := Lib.hid (HX.out.2.1 (at0_ne (fun h => hx (by obtain ⟨h1, h2, h3, h4, h5⟩ := h; assumption))))
    clear hx
    go_quiet (fail)
    rename_i nq
    go_wp2_with fail
    go_ret
    exact ⟨by rw [HE.out]; rfl, HK2.out.drewN nq⟩
  subst hx
  by_cases hx : T = T'
  case neg =>
    have hxb := ba_ne hx
    have hxb2 := ba_ne (Ne.symm hx)
    have hxl := str_ne hx
    have hxl2 := str_ne (Ne.symm hx)
    have hxm : (T.toList == T'.toList) = false := by simpa using hxl
    have hxm2 : (T'.toList == T.toList) = false := by simpa using hxl2
    have HE := Lib.hid (HX.out.2.1 (at0_ne (fun h => hx (by obtain ⟨h1, h2, h3, h4, h5⟩ := h; assumption))))
    clear hx
    go_quiet (fail)
    rename_i nq
    go_wp2_with fail
    go_ret
    exact ⟨by rw [HE.out]; rfl, HK2.out.drewN nq⟩
  subst hx
  by_cases hx : v1 = y1
  case neg =>
    have hxb : (v1 == y1) = false := by simpa using hx
    have hxb2 : (y1 == v1) = false := by simpa using (Ne.symm hx)
    have HE := Lib.hid (HX.out.2.1 (at0_ne (fun h => hx (by obtain ⟨h1, h2, h3, h4, h5⟩ := h; assumption))))
    clear hx
    go_quiet (fail)
    rename_i nq
    go_wp2_with fail
    go_ret
    exact ⟨by rw [HE.out]; rfl, HK2.out.drewN nq⟩
  subst hx
  by_cases hx : v2 = y2
  case neg =>
    have hxb : (v2 == y2) = false := by simpa using hx
    have hxb2 : (y2 == v2) = false := by simpa using (Ne.symm hx)
    have HE := Lib.hid (HX.out.2.1 (at0_ne (fun h => hx (by obtain ⟨h1, h2, h3, h4, h5⟩ := h; assumption))))
    clear hx
    go_quiet (fail)
    rename_i nq
    go_wp2_with fail
    go_ret
    exact ⟨by rw [HE.out]; rfl, HK2.out.drewN nq⟩
  subst hx
  by_cases hx : v3 = y3
  case neg =>
    have hxb := ba_ne hx
    have hxb2 := ba_ne (Ne.symm hx)
    have hxl := str_ne hx
    have hxl2 := str_ne (Ne.symm hx)
    have hxm : (v3.toList == y3.toList) = false := by simpa using hxl
    have hxm2 : (y3.toList == v3.toList) = false := by simpa using hxl2
    have HE := Lib.hid (HX.out.2.1 (at0_ne (fun h => hx (by obtain ⟨h1, h2, h3, h4, h5⟩ := h; assumption))))
    clear hx
    go_quiet (fail)
    rename_i nq
    go_wp2_with fail
    go_ret
    exact ⟨by rw [HE.out]; rfl, HK2.out.drewN nq⟩
  subst hx
  have HE := Lib.hid (HX.out.1 rfl).1
  go_quiet (fail)
  rename_i nq
  go_wp2_with fail
  go_ret
  exact ⟨by rw [HE.out]; rfl, HK2.out.drewN nq⟩

set_option maxRecDepth 100000 in
set_option maxHeartbeats 4000000 in
theorem rCheck_any (t : TokD) (w : World) (hs : t.text.size ≤ maxLen) : Calls Tryd.prog 23 #[tokV t] w fun e w' => e = .returned (.int .i64 (checkV t)) ∧ Kept [] w w' := by
  obtain ⟨K, T, ⟨v1, v2, v3⟩, pl⟩ := t
  obtain ⟨L, hL⟩ : ∃ L, (scanV T).1 = L := ⟨_, rfl⟩
  obtain ⟨p, hp⟩ : ∃ p, (scanV T).2.1 = p := ⟨_, rfl⟩
  obtain ⟨er, her⟩ : ∃ er, (scanV T).2.2 = er := ⟨_, rfl⟩
  have hsc : scanV T = (L, p, er) := by rw [← hL, ← hp, ← her]
  have hlen : L.length ≤ 4096 := by rw [← hL]; exact scanV_len2 T
  obtain ⟨hc1, hc2, hc3⟩ := checkV_of (t := ⟨K, T, (v1, v2, v3), pl⟩) hsc
  have HC1 := Lib.hid hc1
  have HC2 := Lib.hid hc2
  have HC3 := Lib.hid hc3
  have HSC : Hid (∀ W, Kept [] w W → Calls Tryd.prog 9 #[.string T] W (ScanPost W T)) := fun W hk => rScan_any T hs W
  obtain ⟨ans, hans⟩ : ∃ ans, checkV ⟨K, T, (v1, v2, v3), pl⟩ = ans := ⟨_, rfl⟩
  rw [hans] at HC1 HC2 HC3 ⊢
  clear hc1 hc2 hc3 hsc hans
  simp only [tokV]
  have HK0 := Lib.hid ((Kept.refl [] w).alloc (.cells #[.int .i64 K, .string T, .int .i64 v1, .int .i64 v2, .string v3, .int .i64 pl] 40))
  have HB0 := Lib.hid (Blk.new w #[.int .i64 K, .string T, .int .i64 v1, .int .i64 v2, .string v3, .int .i64 pl] 40)
  obtain ⟨⟨t0, t1, t2, t3, t4, t5⟩, ft0, ft1, ft2, ft3, ft4, ft5⟩ := HB0.out.six
  go_enter Tryd.func23, Tryd.ntmps23
  go_wp2_with fail
  refine (HSC.out _ HK0.out).mono ?_
  rintro e w1 ⟨v, rfl, hown, hk⟩
  have HK1 := Lib.hid (HK0.out.trans hk)
  have HB1 := Lib.hid (HB0.out.kept hk (by simp))
  clear t0 t1 t2 t3 t4 t5 ft0 ft1 ft2 ft3 ft4 ft5
  obtain ⟨⟨t0, t1, t2, t3, t4, t5⟩, ft0, ft1, ft2, ft3, ft4, ft5⟩ := HB1.out.six
  rw [hL] at hown
  rw [hp, her]
  obtain ⟨A, c, hAv⟩ := own_len hown
  subst hAv
  have HOWN := Lib.hid hown
  clear hown hk hL hp her
  obtain ⟨n, hn⟩ : ∃ n, L.length = n := ⟨_, rfl⟩
  have HN := Lib.hid hn
  rw [hn] at hlen ⊢
  clear hn
  by_cases he : er = 0
  case neg =>
    have hne : (er == 0) = false := by simpa using he
    have hne2 : (er != 0) = true := by simpa using he
    have HE := Lib.hid (HC1.out he)
    clear he
    go_wp2_with fail
    go_ret
    exact ⟨by rw [HE.out]; rfl, HK1.out⟩
  subst he
  by_cases hn1 : n = 1
  case neg =>
    have hne : ((n : Int) == 1) = false := by simp; omega
    have hne2 : ((n : Int) != 1) = true := by simp; omega
    have HE := Lib.hid (HC2.out (by rw [HN.out]; exact hn1))
    go_wp2_with fail
    go_ret
    exact ⟨by rw [HE.out]; rfl, HK1.out⟩
  subst hn1
  obtain ⟨x, hx⟩ : ∃ x, L = [x] := by
    have := HN.out
    match L, this with
    | [x], _ => exact ⟨x, rfl⟩
  subst hx
  obtain ⟨K', T', ⟨y1, y2, y3⟩, p'⟩ := x
  have HX := Lib.hid (HC3.out _ rfl rfl)
  obtain ⟨b, c', cur, he, hbb, hblk, hcur⟩ := own_blk HOWN.out (by simp)
  injection he with he1 he2 he3
  subst he1 he3
  have HQ1 := Lib.hid hblk
  have hlt := HB0.out.lt
  simp only [World.size_alloc] at hlt hbb
  have d0 : cur[0]? = some (.int .i64 K') := hcur 0 _ rfl
  have d1 : cur[1]? = some (.string T') := hcur 1 _ rfl
  have d2 : cur[2]? = some (.int .i64 y1) := hcur 2 _ rfl
  have d3 : cur[3]? = some (.int .i64 y2) := hcur 3 _ rfl
  have d4 : cur[4]? = some (.string y3) := hcur 4 _ rfl
  have d5 : cur[5]? = some (.int .i64 p') := hcur 5 _ rfl
  have z0 : w1.cell? ⟨b, 0, none⟩ = some (.int .i64 K') := (hblk.cell 0).trans d0
  have z1 : w1.cell? ⟨b, 1, none⟩ = some (.string T') := (hblk.cell 1).trans d1
  have z2 : w1.cell? ⟨b, 2, none⟩ = some (.int .i64 y1) := (hblk.cell 2).trans d2
  have z3 : w1.cell? ⟨b, 3, none⟩ = some (.int .i64 y2) := (hblk.cell 3).trans d3
  have z4 : w1.cell? ⟨b, 4, none⟩ = some (.string y3) := (hblk.cell 4).trans d4
  have z5 : w1.cell? ⟨b, 5, none⟩ = some (.int .i64 p') := (hblk.cell 5).trans d5
  have D0 := Lib.hid d0
  have D1 := Lib.hid d1
  have D2 := Lib.hid d2
  have D3 := Lib.hid d3
  have D4 := Lib.hid d4
  have D5 := Lib.hid d5
  clear d0 d1 d2 d3 d4 d5 hcur he2 hblk
  have hfz : w1.frozen? ⟨b, 5, none⟩ = false := HQ1.out.free 5
  go_upto_region 5 with fail
  obtain ⟨w2, hw2⟩ : ∃ w2, w1.setCell ⟨b, 5, none⟩ (.int .i64 pl) = w2 := ⟨_, rfl⟩
  have HB2 : Hid (Blk w2 w.heap.size #[.int .i64 K, .string T, .int .i64 v1, .int .i64 v2, .string v3, .int .i64 pl] 40) := by show Blk _ _ _ _; rw [← hw2]; exact HB1.out.set_other (by simp; omega) _
  have HQ2 : Hid (Blk w2 b (cur.setIfInBounds 5 (.int .i64 pl)) 40) := by show Blk _ _ _ _; rw [← hw2]; exact HQ1.out.set 5 _
  have HK2 : Hid (Kept [] w w2) := by show Kept _ _ _; rw [← hw2]; exact HK1.out.setCell (.inr (by simp; omega)) _
  rw [hw2]
  clear hw2 t0 t1 t2 t3 t4 t5 ft0 ft1 ft2 ft3 ft4 ft5 z0 z1 z2 z3 z4 z5 hfz
  obtain ⟨⟨t0, t1, t2, t3, t4, t5⟩, _⟩ := HB2.out.six
  have z0 : w2.cell? ⟨b, 0, none⟩ = some (.int .i64 K') := (HQ2.out.cell 0).trans (by rw [Array.getElem?_setIfInBounds_ne (by decide)]; exact D0.out)
  have z1 : w2.cell? ⟨b, 1, none⟩ = some (.string T') := (HQ2.out.cell 1).trans (by rw [Array.getElem?_setIfInBounds_ne (by decide)]; exact D1.out)
  have z2 : w2.cell? ⟨b, 2, none⟩ = some (.int .i64 y1) := (HQ2.out.cell 2).trans (by rw [Array.getElem?_setIfInBounds_ne (by decide)]; exact D2.out)
  have z3 : w2.cell? ⟨b, 3, none⟩ = some (.int .i64 y2) := (HQ2.out.cell 3).trans (by rw [Array.getElem?_setIfInBounds_ne (by decide)]; exact D3.out)
  have z4 : w2.cell? ⟨b, 4, none⟩ = some (.string y3) := (HQ2.out.cell 4).trans (by rw [Array.getElem?_setIfInBounds_ne (by decide)]; exact D4.out)
  have z5 : w2.cell? ⟨b, 5, none⟩ = some (.int .i64 pl) := (HQ2.out.cell 5).trans (by
    have h5 : 5 < cur.size := (Array.getElem?_eq_some_iff.1 D5.out).1
    rw [Array.getElem?_setIfInBounds_self_of_lt h5])
  by_cases hx : K = K'
  case neg =>
    have hxb : (K == K') = false := by simpa using hx
    have hxb2 : (K' == K) = false := by simpa using (Ne.symm hx)
    have HE := Lib.hid (HX.out.2.1 (at0_ne (fun h => hx (by obtain ⟨h1, h2, h3, h4, h5⟩ := h; assumption))))
    clear hx
    go_quiet (fail)
    rename_i nq
    go_wp2_with fail
    go_ret
    exact ⟨by rw [HE.out]; rfl, HK2.out.drewN nq⟩
  subst hx
  by_cases hx : T = T'
  case neg =>
    have hxb := ba_ne hx
    have hxb2 := ba_ne (Ne.symm hx)
    have hxl := str_ne hx
    have hxl2 := str_ne (Ne.symm hx)
    have hxm : (T.toList == T'.toList) = false := by simpa using hxl
    have hxm2 : (T'.toList == T.toList) = false := by simpa using hxl2
    have HE := Lib.hid (HX.out.2.1 (at0_ne (fun h => hx (by obtain ⟨h1, h2, h3, h4, h5⟩ := h; assumption))))
    clear hx
    go_quiet (fail)
    rename_i nq
    go_wp2_with fail
    go_ret
    exact ⟨by rw [HE.out]; rfl, HK2.out.drewN nq⟩
  subst hx
  by_cases hx : v1 = y1
  case neg =>
    have hxb : (v1 == y1) = false := by simpa using hx
    have hxb2 : (y1 == v1) = false := by simpa using (Ne.symm hx)
    have HE := Lib.hid (HX.out.2.1 (at0_ne (fun h => hx (by obtain ⟨h1, h2, h3, h4, h5⟩ := h; assumption))))
    clear hx
    go_quiet (fail)
    rename_i nq
    go_wp2_with fail
    go_ret
    exact ⟨by rw [HE.out]; rfl, HK2.out.drewN nq⟩
  subst hx
  by_cases hx : v2 = y2
  case neg =>
    have hxb : (v2 == y2) = false := by simpa using hx
    have hxb2 : (y2 == v2) = false := by simpa using (Ne.symm hx)
    have HE := Lib.hid (HX.out.2.1 (at0_ne (fun h => hx (by obtain ⟨h1, h2, h3, h4, h5⟩ := h; assumption))))
    clear hx
    go_quiet (fail)
    rename_i nq
    go_wp2_with fail
    go_ret
    exact ⟨by rw [HE.out]; rfl, HK2.out.drewN nq⟩
  subst hx
  by_cases hx : v3 = y3
  case neg =>
    have hxb := ba_ne hx
    have hxb2 := ba_ne (Ne.symm hx)
    have hxl := str_ne hx
    have hxl2 := str_ne (Ne.symm hx)
    have hxm : (v3.toList == y3.toList) = false := by simpa using hxl
    have hxm2 : (y3.toList == v3.toList) = false := by simpa using hxl2
    have HE := Lib.hid (HX.out.2.1 (at0_ne (fun h => hx (by obtain ⟨h1, h2, h3, h4, h5⟩ := h; assumption))))
    clear hx
    go_quiet (fail)
    rename_i nq
    go_wp2_with fail
    go_ret
    exact ⟨by rw [HE.out]; rfl, HK2.out.drewN nq⟩
  subst hx
  have HE := Lib.hid (HX.out.1 rfl).1
  go_quiet (fail)
  rename_i nq
  go_wp2_with fail
  go_ret
  exact ⟨by rw [HE.out]; rfl, HK2.out.drewN nq⟩

end Go.Proofs.YtmkpbffjgpoplaaDoor

/- Words as a text: the program's Join. -/
set_option linter.unusedVariables false
set_option linter.unusedSimpArgs false
set_option linter.unnecessarySimpa false
namespace Go.Proofs.YtmkpbffjgpoplaaDoor
open Go.RowKit Go.Shelf
attribute [local go_sem] Oper.semAt_some

/-- v reads as the words L, from wherever on. -/
def RdA (w : World) (v : Value) (L : List TokD) : Prop := ∃ A c, v = .slice A L.length c ∧ (L ≠ [] → ∃ b off, A = some ⟨b, off, none⟩ ∧ ∀ i t, L[i]? = some t → ∀ j x, (tokC t)[j]? = some x → w.cell? ⟨b, off + i * 6 + j, none⟩ = some x)
theorem RdA.keep {w w' : World} {v : Value} {L : List TokD} (h : RdA w v L) (hk : Kept [] w w') : RdA w' v L := by
  obtain ⟨A, c, rfl, h⟩ := h
  refine ⟨A, c, rfl, fun hn => ?_⟩
  obtain ⟨b, off, rfl, hc⟩ := h hn
  exact ⟨b, off, rfl, fun i t ht j x hx => hk.cell (by simp) (hc i t ht j x hx)⟩

def sumT : List TokD → Nat
  | [] => 0
  | t :: L => t.text.size + sumT L
theorem sumT_app (L M : List TokD) : sumT (L ++ M) = sumT L + sumT M := by
  induction L with
  | nil => simp [sumT]
  | cons t L ih => simp [sumT, ih]; omega
theorem sumT_le {L : List TokD} (h : ∀ t ∈ L, okT t) : sumT L ≤ L.length * 4096 := by
  induction L with
  | nil => simp [sumT]
  | cons t L ih =>
    have h1 := (h t (by simp)).2.1
    have h2 := ih (fun x hx => h x (by simp [hx]))
    rw [sumT, List.length_cons]
    omega
def joinB (L : List TokD) : List UInt8 := Lib.join (L.map fun t => t.text.data.toList) [32]
theorem joinB_cons (t : TokD) (L : List TokD) : joinB (t :: L) = t.text.data.toList ++ Lib.joinTail [32] (L.map fun t => t.text.data.toList) := by unfold joinB; rw [List.map_cons, Lib.join_cons]
theorem tail_len (L : List TokD) : (Lib.joinTail [32] (L.map fun t => t.text.data.toList)).length = sumT L + L.length := by
  induction L with
  | nil => rfl
  | cons t L ih =>
    unfold Lib.joinTail at ih ⊢
    rw [List.map_cons, List.map_cons, List.flatten_cons, List.length_append, ih, sumT, List.length_cons, List.length_append, Array.length_toList]
    show 1 + t.text.size + _ = _
    omega
theorem joinB_len (L : List TokD) : (joinB L).length = sumT L + (L.length - 1) := by
  cases L with
  | nil => rfl
  | cons t L =>
    rw [joinB_cons, List.length_append, tail_len, Array.length_toList, sumT, List.length_cons]
    show t.text.size + _ = _
    omega
open Classical in
/-- The joined text and the fault. -/
noncomputable def joinV (L : List TokD) : ByteArray × Int := if ∀ t ∈ L, okT t then (if 4096 < (sumT L : Int) + ((L.length : Int) - 1) then ({ data := #[] }, 3) else (⟨(joinB L).toArray⟩, 0)) else ({ data := #[] }, 50)
theorem joinV_bad {L : List TokD} {i : Nat} {t : TokD} (hg : L[i]? = some t) (h : ¬ okT t) : joinV L = ({ data := #[] }, 50) := by
  unfold joinV
  rw [if_neg (fun hh => h (hh t (List.mem_of_getElem? hg)))]
theorem joinV_long {L : List TokD} (h : ∀ t ∈ L, okT t) (hl : 4096 < (sumT L : Int) + ((L.length : Int) - 1)) : joinV L = ({ data := #[] }, 3) := by unfold joinV; rw [if_pos h, if_pos hl]
theorem joinV_ok {L : List TokD} (h : ∀ t ∈ L, okT t) (hl : ¬ 4096 < (sumT L : Int) + ((L.length : Int) - 1)) : joinV L = (⟨(joinB L).toArray⟩, 0) := by unfold joinV; rw [if_pos h, if_neg hl]
def JoinPost (w : World) (L : List TokD) (e : Ending) (w' : World) : Prop := e = .returned (.tuple #[.string (joinV L).1, .int .i64 (joinV L).2]) ∧ Kept [] w w'
theorem JoinPost.of {w w' : World} {L : List TokD} {s : ByteArray} {x : Int} (h : joinV L = (s, x)) (hk : Kept [] w w') : JoinPost w L (.returned (.tuple #[.string s, .int .i64 x])) w' := ⟨by rw [h], hk⟩
theorem checkV_ok {t : TokD} (h : okT t) : checkV t = 0 := by unfold checkV; rw [if_pos h]
theorem checkV_no {t : TokD} (h : ¬ okT t) : checkV t = 50 := by unfold checkV; rw [if_neg h]
theorem own_keep {w w' : World} {base : Nat} {e : TypeId} {size : Nat} {v : Value} {n : Nat} {xs : List Value} (h : w.ownsRow base e size v n xs) (hk : Kept [] w w') : w'.ownsRow base e size v n xs := by
  refine ⟨h.1, ?_⟩
  rcases h.2 with h0 | ⟨g, cap, cur, rfl, h1, h2, h3⟩
  · exact .inl h0
  · exact .inr ⟨g, cap, cur, rfl, h1, by rw [hk.block g (Array.getElem?_eq_some_iff.1 h2).1 (by simp)]; exact h2, h3⟩
def cS (L : List TokD) : List Value := L.map fun t => Value.string t.text
theorem infoStr5 : (Tryd.prog.info? 9).map (fun i => (i.zero, i.size, i.bytes)) = some (some (.string { data := #[] }), 1, 16) := by kernel_rfl
/-- The library's Join of the row of texts. -/
theorem join_calls (v : Value) (L : List TokD) (base : Nat) (W : World) (ho : W.ownsRow base 9 1 v L.length (cS L)) (hl : sumT L + (L.length - 1) ≤ 4096) (hm : L.length ≤ 140737488355328) :
    Calls Tryd.prog 32 #[v, .string { data := #[32] }] W fun e w' => e = .returned (.string ⟨(joinB L).toArray⟩) ∧ Kept [] W w' := by
  rcases ho.2 with ⟨rfl, h0⟩ | ⟨g, cap, cur, rfl, hb, hg, hcap, _, _, _⟩
  · have hL : L = [] := List.eq_nil_of_length_eq_zero h0
    subst hL
    refine (Tryd.strings_Join_none none 0 { data := #[32] } W).mono ?_
    rintro e w' ⟨rfl, rfl⟩
    exact ⟨rfl, Kept.refl _ _⟩
  · have h := Tryd.strings_Join g 0 cap (L.map (·.text)) { data := #[32] } W (fun j x hx => by
      have hc := ho.cells (g := g) rfl j (.string x) (by
        unfold cS
        rw [List.getElem?_map] at hx ⊢
        cases hj : L[j]? with
        | none => rw [hj] at hx; cases hx
        | some t => rw [hj] at hx; simp at hx ⊢; exact hx)
      have ha : (⟨g, 0, none⟩ : Addr).add j = ⟨g, 0 + j, none⟩ := by unfold Addr.add; split <;> simp_all
      rwa [ha] at hc) (Array.getElem?_eq_some_iff.1 hg).1 (by rw [List.length_map]; exact hm) (by rw [List.length_map]; exact hcap) (by
      rw [List.map_map]
      have := joinB_len L
      unfold joinB at this
      show (Lib.join (L.map fun t => t.text.data.toList) [32]).length ≤ _
      omega)
    rw [List.length_map, List.map_map] at h
    refine h.mono ?_
    rintro e w' ⟨rfl, hk⟩
    exact ⟨rfl, Kept.of_below hk⟩

set_option maxRecDepth 100000 in
set_option maxHeartbeats 8000000 in
theorem lJoin_any (u : Value) (L : List TokD) (w : World) (hu : RdA w u L) (hm : L.length ≤ 2199023255552) (hv : Vars w) : Calls Tryd.prog 20 #[u] w (JoinPost w L) := by
  obtain ⟨i0, hi0, hz0, hz1, hz2⟩ := info_parts infoStr5
  have HU := Lib.hid hu
  obtain ⟨A, c, rfl, hA⟩ := hu
  have HCK : Hid (∀ t W, Kept [] w W → Calls Tryd.prog 22 #[tokV t] W fun e w' => e = .returned (.int .i64 (checkV t)) ∧ Kept [] W w') := fun t W hk => lCheck_any t W (hv.keep hk)
  obtain ⟨m, hmL⟩ : ∃ m, L.length = m := ⟨_, rfl⟩
  have HM := Lib.hid hmL
  rw [hmL] at hm HU ⊢
  clear hmL hA
  have hw0 : IntKind.i64.wrap ((m : Int) - 1) = (m : Int) - 1 := by unfold IntKind.wrap; simp [IntKind.signed, IntKind.bits]; omega
  have hw0' : wrap64 ((m : Int) - 1) = (m : Int) - 1 := by unfold wrap64; omega
  go_enter Tryd.func20, Tryd.ntmps20
  go_wp2_with fail
  go_loopw [4, 5, 14] (fun vv nn ii wr => ∃ (i : Nat) (x : Int), ii = .int .i64 i ∧ nn = .int .i64 x ∧ i ≤ m ∧ x = (m : Int) - 1 + sumT (L.take i) ∧ (∀ t ∈ L.take i, okT t) ∧ wr.ownsRow w.heap.size 9 1 vv i (cS (L.take i)) ∧ Kept [] w wr) (fun _ _ ii _ => m - (intOf ii).toNat)
  case atStart => exact ⟨0, _, rfl, rfl, Nat.zero_le _, by simp [sumT], by simp, World.ownsRow_nil _ _ _ _, Kept.refl _ _⟩
  case round =>
    obtain ⟨i, x, rfl, rfl, hi, hx, hok, hown, hK⟩ := hrel
    have HK := Lib.hid hK
    have HX := Lib.hid hx
    have HOKS := Lib.hid hok
    obtain ⟨AA, cc, rfl⟩ := own_len hown
    have HOWN := Lib.hid hown
    have hsum := sumT_le hok
    rw [List.length_take] at hsum
    have hsz := hK.size
    have hxb : -1 ≤ x ∧ x ≤ 9007199254740992 + 2199023255552 := by rw [hx]; omega
    clear hok hown hx hsum
    by_cases hlt : i < m
    · obtain ⟨t, hg⟩ : ∃ t, L[i]? = some t := ⟨_, List.getElem?_eq_getElem (by rw [HM.out]; exact hlt)⟩
      have HG := Lib.hid hg
      have htk : L.take (i + 1) = L.take i ++ [t] := by
        obtain ⟨g1, g2⟩ := List.getElem?_eq_some_iff.1 hg
        rw [List.take_succ_eq_append_getElem g1, g2]
      have HTK := Lib.hid htk
      obtain ⟨A', c', he, hcell⟩ := HU.out.keep hK
      obtain ⟨b, off, rfl, hcc⟩ := hcell (by rintro rfl; simp at hg)
      injection he with he1 he2 he3
      subst he1 he3
      obtain ⟨K, T, ⟨v1, v2, v3⟩, pl⟩ := t
      have z0 : wr.cell? ⟨b, off + i * 6, none⟩ = some (.int .i64 K) := hcc i _ hg 0 _ rfl
      have z1 : wr.cell? ⟨b, off + i * 6 + 1, none⟩ = some (.string T) := hcc i _ hg 1 _ rfl
      have z2 : wr.cell? ⟨b, off + i * 6 + 2, none⟩ = some (.int .i64 v1) := hcc i _ hg 2 _ rfl
      have z3 : wr.cell? ⟨b, off + i * 6 + 3, none⟩ = some (.int .i64 v2) := hcc i _ hg 3 _ rfl
      have z4 : wr.cell? ⟨b, off + i * 6 + 4, none⟩ = some (.string v3) := hcc i _ hg 4 _ rfl
      have z5 : wr.cell? ⟨b, off + i * 6 + 5, none⟩ = some (.int .i64 pl) := hcc i _ hg 5 _ rfl
      have HC : Hid (∀ W, Kept [] w W → Calls Tryd.prog 22 #[.agg #[.int .i64 K, .string T, .int .i64 v1, .int .i64 v2, .string v3, .int .i64 pl]] W fun e w' => e = .returned (.int .i64 (checkV ⟨K, T, (v1, v2, v3), pl⟩)) ∧ Kept [] W w') := fun W hk => HCK.out _ W hk
      clear hcc hcell he2 hg htk hK
      go_wp2_with fail
      have hB1 := Blk.new wr #[.int .i64 K, .string T, .int .i64 v1, .int .i64 v2, .string v3, .int .i64 pl] 40
      have hK1 := HK.out.alloc (.cells #[.int .i64 K, .string T, .int .i64 v1, .int .i64 v2, .string v3, .int .i64 pl] 40)
      refine (HC.out _ hK1).mono ?_
      rintro e w2 ⟨rfl, hk2⟩
      have HB2 := Lib.hid (hB1.kept hk2 (by simp))
      have HK2 := Lib.hid (hK1.trans hk2)
      have HO2 : Hid (w2.ownsRow w.heap.size 9 1 (.slice AA i cc) i (cS (L.take i))) := own_keep HOWN.out (((Kept.refl [] wr).alloc (.cells #[.int .i64 K, .string T, .int .i64 v1, .int .i64 v2, .string v3, .int .i64 pl] 40)).trans hk2)
      clear hB1 hK1 hk2 z0 z1 z2 z3 z4 z5
      by_cases hok : okT ⟨K, T, (v1, v2, v3), pl⟩
      · rw [checkV_ok hok]
        obtain ⟨⟨t0, t1, t2, t3, t4, t5⟩, _⟩ := HB2.out.six
        have hT := hok.2.1
        have hlT := len_at T rfl
        have HOK := Lib.hid hok
        have hsz2 := HK2.out.size
        simp only at hT
        clear hok
        go_wp2_with (at_builtin; refine wpList_append_own_at _ rfl _ _ 56 rfl w.heap.size 9 i0 (.string { data := #[] }) 1 16 Tryd.underlying56 hi0 hz0 hz1 hz2 rfl (by decide) _ i (cS (L.take i)) rfl (World.ownsRow.alloc HO2.out _) ⟨w2.heap.size, 0, none⟩ 1 1 [.string T] rfl rfl (cell_one_new _ _ _) (by simp [Value.oneCell']) (by unfold maxLen; omega) (by omega) (by simp; omega) ?_)
        intro v' w5 hown5 hgrow5 _ hat5
        have HK5 : Hid (Kept [] w w5) := (HK2.out.alloc _).grown hgrow5 (fun x hx => .inr (HO2.out.lt _ hx).1)
        have hc1 : w5.cell? ⟨wr.heap.size, 1, none⟩ = some (.string T) := hgrow5.cell ((HB2.out.alloc _).cell 1) (fun e => absurd (HOWN.out.lt _ e.symm).2 (Nat.lt_irrefl _))
        have HO5 : Hid (w5.ownsRow w.heap.size 9 1 v' (i + 1) (cS (L.take (i + 1)))) := by
          show World.ownsRow _ _ _ _ _ _ _
          rw [HTK.out]
          unfold cS at hown5 ⊢
          rw [List.map_append]
          exact hown5
        clear hown5 hgrow5 hat5
        go_wp2_with fail
        go_roundw
        case rel =>
          refine ⟨i + 1, _, by go_num, rfl, by omega, ?_, ?_, HO5.out, HK5.out⟩
          · rw [HTK.out, sumT_app, HX.out]
            simp only [sumT, Nat.add_zero]
            omega
          · rw [HTK.out]
            intro y hy
            rcases List.mem_append.1 hy with hy | hy
            · exact HOKS.out y hy
            · rw [List.mem_singleton] at hy; subst hy; exact HOK.out
        case measure => simp [intOf]; omega
      · have HJ := Lib.hid (joinV_bad HG.out hok)
        rw [checkV_no hok]
        clear hok
        go_wp2_with fail
        go_ret2
        exact JoinPost.of HJ.out HK2.out
    · have hin : i = m := by omega
      subst hin
      have hall : ∀ t ∈ L, okT t := by
        have := HOKS.out
        rw [List.take_of_length_le (by rw [HM.out]; exact Nat.le_refl _)] at this
        exact this
      have hx2 : x = (sumT L : Int) + ((L.length : Int) - 1) := by
        rw [HX.out, List.take_of_length_le (by rw [HM.out]; exact Nat.le_refl _), HM.out]; omega
      have HO := HOWN
      rw [List.take_of_length_le (by rw [HM.out]; exact Nat.le_refl _)] at HO
      by_cases hlong : 4096 < x
      · have hd : decide ((4096 : Int) < x) = true := decide_eq_true hlong
        have HJ := Lib.hid (joinV_long hall (by rw [← hx2]; exact hlong))
        clear hall hx2
        go_wp2_with fail
        go_ret2
        exact JoinPost.of HJ.out HK.out
      · have hd : decide ((4096 : Int) < x) = false := decide_eq_false hlong
        have HJ := Lib.hid (joinV_ok hall (by rw [← hx2]; exact hlong))
        have hs2 := sumT_le hall
        have HJC := Lib.hid (join_calls (.slice AA i cc) L w.heap.size wr (by rw [HM.out]; exact HO.out) (by have := HM.out; rcases Nat.eq_zero_or_pos L.length with h0 | h0 <;> omega) (by rw [HM.out]; omega))
        clear hall hx2 hs2
        go_wp2_with fail
        refine HJC.out.mono ?_
        rintro e w6 ⟨rfl, hk6⟩
        have HK6 := Lib.hid (HK.out.trans hk6)
        clear hk6
        go_wp2_with fail
        go_ret2
        exact JoinPost.of HJ.out HK6.out

end Go.Proofs.YtmkpbffjgpoplaaDoor

/- Readers of words that come in. -/
set_option linter.unusedVariables false
set_option linter.unusedSimpArgs false
set_option linter.unnecessarySimpa false
namespace Go.Proofs.YtmkpbffjgpoplaaDoor
open Go.RowKit Go.Shelf

def valR : Rk ValD := (Rk.int .i64).pair ((Rk.int .i64).pair Rk.str)
theorem intR_of : (Rk.int .i64).Of Tryd.prog 3 := Rk.of_int Tryd.underlying3
theorem int64R_of : (Rk.int .i64).Of Tryd.prog 2 := Rk.of_int Tryd.underlying2
theorem strR_of : Rk.str.Of Tryd.prog 9 := Rk.of_str Tryd.underlying9
theorem valR_of : valR.Of Tryd.prog 38 :=
  Rk.of_struct Tryd.underlying38 (Rk.fields_cons intR_of rfl (by kernel_rfl) (Rk.fields_cons int64R_of rfl (by kernel_rfl) (Rk.fields_one strR_of rfl (by kernel_rfl)))) (by kernel_rfl)
abbrev TokA := Int × ByteArray × ValD × Int
def tokR : Rk TokA := (Rk.int .i64).pair (Rk.str.pair (valR.pair (Rk.int .i64)))
theorem tokR_of : tokR.Of Tryd.prog 40 :=
  Rk.of_struct Tryd.underlying40 (Rk.fields_cons intR_of rfl (by kernel_rfl) (Rk.fields_cons strR_of rfl (by kernel_rfl) (Rk.fields_cons valR_of rfl (by kernel_rfl) (Rk.fields_one intR_of rfl (by kernel_rfl))))) (by kernel_rfl)
def toTok (x : TokA) : TokD := ⟨x.1, x.2.1, x.2.2.1, x.2.2.2⟩
theorem tokR_cells {w : World} {x : TokA} {cs : List Value} (h : tokR.K w x cs) : cs = tokC (toTok x) ∧ x.2.1.size ≤ maxLen := by
  obtain ⟨_, _, rfl, ⟨rfl, _⟩, _, _, rfl, ⟨rfl, h1⟩, _, _, rfl, ⟨_, _, rfl, ⟨rfl, _⟩, _, _, rfl, ⟨rfl, _⟩, ⟨rfl, hz⟩⟩, ⟨rfl, _⟩⟩ := h
  exact ⟨rfl, h1⟩
theorem RdA.of_rk {w : World} {v : Value} {x : List TokA} (h : (Rk.slice tokR).K w x [v]) : RdA w v (x.map toTok) := by
  obtain ⟨A, c, he, h1, h2, _, hE⟩ := h
  simp only [List.cons.injEq, and_true] at he
  subst he
  refine ⟨A, c, by rw [List.length_map], fun hn => ?_⟩
  obtain ⟨b, off, rfl, hx⟩ := hE (by rintro rfl; exact hn rfl)
  refine ⟨b, off, rfl, fun i t ht j y hy => ?_⟩
  rw [List.getElem?_map] at ht
  cases hxi : x[i]? with
  | none => rw [hxi] at ht; cases ht
  | some z =>
    rw [hxi] at ht
    simp at ht
    subst ht
    obtain ⟨cs, hK, hc⟩ := hx i z hxi
    obtain ⟨rfl, _⟩ := tokR_cells hK
    have hj : j < 6 := by
      rcases Nat.lt_or_ge j 6 with h0 | h0
      · exact h0
      · rw [List.getElem?_eq_none (by show 6 ≤ j; exact h0)] at hy; cases hy
    have := hc j (by show j < 6; exact hj)
    rw [show tokR.sz = 6 from rfl] at this
    rw [this, hy]

end Go.Proofs.YtmkpbffjgpoplaaDoor

/- Words that were joined are scanned as they were: the plain law. -/
set_option linter.unusedVariables false
set_option linter.unusedSimpArgs false
set_option linter.unnecessarySimpa false
namespace Go.Proofs.YtmkpbffjgpoplaaDoor
open Go.RowKit Go.Shelf

theorem getD_l {A B : List UInt8} {i : Nat} (h : i < A.length) : (A ++ B).getD i 0 = A.getD i 0 := by
  rw [List.getD_eq_getElem?_getD, List.getD_eq_getElem?_getD, List.getElem?_append_left h]
theorem getD_r {A B : List UInt8} {i : Nat} (h : A.length ≤ i) : (A ++ B).getD i 0 = B.getD (i - A.length) 0 := by
  rw [List.getD_eq_getElem?_getD, List.getD_eq_getElem?_getD, List.getElem?_append_right h]
theorem byt_list (s : ByteArray) (i : Nat) : byt s i = ((s.data.toList.getD i 0).toNat : Int) := rfl
theorem wordsV_blank {s : ByteArray} {k k' : Nat} (hk : k ≤ s.size) (hk' : k' ≤ s.size) (h : blankV s k = blankV s k') : wordsV s k = wordsV s k' := by
  by_cases hlt : blankV s k < s.size
  · cases ho : wordO s (blankV s k) with
    | none => rw [wordsV_none hk (fun _ => ho), wordsV_none hk' (fun _ => h ▸ ho), h]
    | some t => rw [wordsV_step hk hlt ho, wordsV_step hk' (h ▸ hlt) (h ▸ ho), h]
  · rw [wordsV_none hk (fun hh => absurd hh hlt), wordsV_none hk' (fun hh => absurd (h.symm ▸ hh) hlt), h]
theorem blankV_skip {s : ByteArray} {k : Nat} (hk : k < s.size) (hb : byt s k = 32) : blankV s k = blankV s (k + 1) := by
  unfold blankV
  rw [show s.size - k = (s.size - (k + 1)) + 1 by omega, blankGo, if_pos (by rw [hb]; rfl)]
/-- A text that begins with a word, by its letters. -/
theorem word_at {S : ByteArray} {P R : List UInt8} {t : TokD} (ht : okT t) (hS : S.data.toList = P ++ (t.text.data.toList ++ R)) (hR : R = [] ∨ ∃ R', R = 32 :: R') : wordO S P.length = some (t.at0 (P.length : Nat)) ∧ P.length + t.text.size ≤ S.size := by
  have hsz : S.size = P.length + (t.text.size + R.length) := by
    have := congrArg List.length hS
    rw [Array.length_toList, List.length_append, List.length_append, Array.length_toList] at this
    exact this
  have hlt : P.length < S.size := by have := ht.1; omega
  refine ⟨?_, by omega⟩
  have hx : (S.extract P.length S.size).data.toList = t.text.data.toList ++ R := by
    rw [ByteArray.data_extract, Array.toList_extract, hS]
    rw [List.extract_eq_take_drop, List.drop_left]
    apply List.take_of_length_le
    rw [List.length_append, Array.length_toList]
    show t.text.size + _ ≤ _
    omega
  have hxz : (S.extract P.length S.size).size = t.text.size + R.length := by
    rw [size_from S (by omega)]; omega
  have hf := wordO_from S hlt
  generalize S.extract P.length S.size = x at hx hxz hf
  have hb : ∀ i, i < t.text.size → byt x i = byt t.text i := fun i hi => by
    rw [byt_list, byt_list, hx, getD_l (by rw [Array.length_toList]; exact hi)]
  have he : ∀ a b, a ≤ b → b ≤ t.text.size → x.extract a b = t.text.extract a b := fun a b hab hbs => by
    apply ByteArray.ext
    apply Array.ext'
    rw [ByteArray.data_extract, ByteArray.data_extract, Array.toList_extract, Array.toList_extract, hx, List.extract_eq_take_drop, List.extract_eq_take_drop]
    rw [List.drop_append_of_le_length (by rw [Array.length_toList]; show a ≤ t.text.size; omega), List.take_append_of_le_length]
    rw [List.length_drop, Array.length_toList]
    show b - a ≤ t.text.size - a
    omega
  have := wordO_agree t.text x (t.at0 0) hb ht.1 (by show t.text.size ≤ _; omega) he ht.2.2 (by
    show t.text.size = x.size ∨ byt x t.text.size = 32
    rcases hR with rfl | ⟨R', rfl⟩
    · left; simp at hxz; omega
    · right
      rw [byt_list, hx, getD_r (by rw [Array.length_toList]; exact Nat.le_refl _)]
      have e : t.text.size - t.text.data.toList.length = 0 := by rw [Array.length_toList]; show t.text.size - t.text.size = 0; omega
      rw [e]
      rfl)
  rw [hf, this]
  rfl
theorem tail_two (t : TokD) (M : List TokD) : Lib.joinTail [32] ((t :: M).map fun t => t.text.data.toList) = 32 :: joinB (t :: M) := by
  rw [joinB_cons]
  unfold Lib.joinTail
  simp
theorem back_words (S : ByteArray) : ∀ (M : List TokD) (P : List UInt8), M ≠ [] → (∀ t ∈ M, okT t) → S.data.toList = P ++ joinB M → ∃ M', wordsV S P.length = (M', S.size) ∧ M'.map (·.at0 0) = M.map (·.at0 0)
  | [], _, h, _, _ => absurd rfl h
  | [t], P, _, hok, hS => by
    have ht := hok t (by simp)
    rw [joinB_cons] at hS
    obtain ⟨ho, hle⟩ := word_at (R := []) ht hS (.inl rfl)
    have hsz : S.size = P.length + t.text.size := by
      have := congrArg List.length hS
      rw [Array.length_toList, List.length_append, List.length_append, Array.length_toList] at this
      exact this
    have hlt : P.length < S.size := by have := ht.1; omega
    have hbl := blankV_at hlt ho
    have e := wordsV_step (s := S) (k := P.length) (by omega) (by rw [hbl]; exact hlt) (by rw [hbl]; exact ho)
    have e2 : blankV S P.length + (t.at0 (P.length : Nat)).text.size = S.size := by rw [hbl, hsz]; rfl
    rw [e2, wordsV_none (Nat.le_refl _) (fun h => absurd h (by rw [blankV_end]; omega)), blankV_end] at e
    exact ⟨_, e, rfl⟩
  | t :: t2 :: M, P, _, hok, hS => by
    have ht := hok t (by simp)
    rw [joinB_cons, tail_two] at hS
    obtain ⟨ho, hle⟩ := word_at (R := 32 :: joinB (t2 :: M)) ht hS (.inr ⟨_, rfl⟩)
    have hsz : S.size = P.length + (t.text.size + ((joinB (t2 :: M)).length + 1)) := by
      have := congrArg List.length hS
      rw [Array.length_toList, List.length_append, List.length_append, Array.length_toList, List.length_cons] at this
      exact this
    have hlt : P.length < S.size := by omega
    have hbl := blankV_at hlt ho
    have hS2 : S.data.toList = (P ++ t.text.data.toList ++ [32]) ++ joinB (t2 :: M) := by rw [hS]; simp
    have hpl : (P ++ t.text.data.toList ++ [32]).length = P.length + t.text.size + 1 := by
      rw [List.length_append, List.length_append, Array.length_toList]; rfl
    obtain ⟨M', h1, h2⟩ := back_words S (t2 :: M) _ (by simp) (fun x hx => hok x (by simp [hx])) hS2
    rw [hpl] at h1
    have hby : byt S (P.length + t.text.size) = 32 := by
      rw [byt_list, hS, getD_r (by omega), Nat.add_sub_cancel_left, getD_r (by rw [Array.length_toList]; exact Nat.le_refl _)]
      have e : t.text.size - t.text.data.toList.length = 0 := by rw [Array.length_toList]; show t.text.size - t.text.size = 0; omega
      rw [e]
      rfl
    have hsk := blankV_skip (s := S) (k := P.length + t.text.size) (by omega) hby
    have e := wordsV_step (s := S) (k := P.length) (by omega) (by rw [hbl]; exact hlt) (by rw [hbl]; exact ho)
    have e2 : blankV S P.length + (t.at0 (P.length : Nat)).text.size = P.length + t.text.size := by rw [hbl]; rfl
    rw [e2, wordsV_blank (by omega) (by omega) hsk, h1] at e
    exact ⟨_, e, by rw [List.map_cons, h2, List.map_cons]; rfl⟩
theorem scan_join {L : List TokD} (h : ∀ t ∈ L, okT t) (hl : sumT L + (L.length - 1) ≤ 4096) : ∃ L', scanV ⟨(joinB L).toArray⟩ = (L', 0, 0) ∧ L'.map (·.at0 0) = L.map (·.at0 0) := by
  have hz : (⟨(joinB L).toArray⟩ : ByteArray).size ≤ 4096 := by
    have := joinB_len L
    show (joinB L).toArray.size ≤ _
    rw [List.size_toArray]; omega
  by_cases hL : L = []
  · subst hL
    refine ⟨[], ?_, rfl⟩
    have e := wordsV_none (s := ⟨(joinB []).toArray⟩) (k := 0) (Nat.zero_le _) (fun h => absurd h (by decide))
    exact scanV_ok rfl (by omega) e (by decide)
  · obtain ⟨M', h1, h2⟩ := back_words ⟨(joinB L).toArray⟩ L [] hL h (by simp)
    exact ⟨M', scanV_ok rfl (by omega) h1 (by omega), h2⟩

end Go.Proofs.YtmkpbffjgpoplaaDoor

/- Words that were joined are scanned as they were: the law's walk. -/
set_option linter.unusedVariables false
set_option linter.unusedSimpArgs false
set_option linter.unnecessarySimpa false
namespace Go.Proofs.YtmkpbffjgpoplaaDoor
open Go.RowKit Go.Shelf
attribute [local go_sem] Oper.semAt_some

theorem joinV_zero {L : List TokD} (h : (joinV L).2 = 0) : (∀ t ∈ L, okT t) ∧ ¬ 4096 < (sumT L : Int) + ((L.length : Int) - 1) ∧ (joinV L).1 = ⟨(joinB L).toArray⟩ := by
  unfold joinV at h ⊢
  split at h
  · rename_i h1
    split at h
    · simp at h
    · rename_i h2
      rw [if_pos h1, if_neg h2]
      exact ⟨h1, h2, rfl⟩
  · simp at h
theorem map_at {L L' : List TokD} (h : L'.map (·.at0 0) = L.map (·.at0 0)) {i : Nat} {t t' : TokD} (h1 : L[i]? = some t) (h2 : L'[i]? = some t') : t'.at0 0 = t.at0 0 := by
  have := congrArg (fun l : List TokD => l[i]?) h
  simp only [List.getElem?_map, h1, h2, Option.map_some] at this
  exact Option.some.inj this
/-- The words from the i-th on stand in the row still. -/
def RowI (base : Nat) (A : Option Addr) (m : Nat) (L : List TokD) (i : Nat) (W : World) : Prop := i < m → ∃ g cur, A = some ⟨g, 0, none⟩ ∧ base ≤ g ∧ Blk W g cur 40 ∧ ∀ i', i ≤ i' → ∀ t, L[i']? = some t → ∀ (j : Nat) (x : Value), (tokC t)[j]? = some x → cur[i' * 6 + j]? = some x

set_option maxRecDepth 100000 in
set_option maxHeartbeats 8000000 in
theorem lawBack5_any (u : Value) (L : List TokD) (s : ByteArray) (w : World) (hu : RdA w u L) (hm : L.length ≤ 2199023255552) (hv : Vars w) : Calls Tryd.prog 7 #[u, .string s] w fun e w' => e = .returned (.bool true) ∧ Kept [] w w' := by
  have HLJ := Lib.hid (lJoin_any u L w hu hm hv)
  have HU := Lib.hid hu
  obtain ⟨A, c, rfl, hA⟩ := hu
  have HCL : Hid (∀ t W, Kept [] w W → Calls Tryd.prog 22 #[tokV t] W fun e w' => e = .returned (.int .i64 (checkV t)) ∧ Kept [] W w') := fun t W hk => lCheck_any t W (hv.keep hk)
  have HLV : Hid (∀ W, Kept [] w W → Calls Tryd.prog 10 #[] W fun e w' => e = .returned (.bool true) ∧ Kept [] W w') := fun W hk => live_any W (hv.keep hk)
  have HSC : Hid (∀ W, Kept [] w W → Calls Tryd.prog 8 #[.string s] W (ScanPost W s)) := fun W hk => lScan_any s W (hv.keep hk)
  obtain ⟨L2, hL2⟩ : ∃ L2, (scanV s).1 = L2 := ⟨_, rfl⟩
  obtain ⟨p2, hp2⟩ : ∃ p, (scanV s).2.1 = p := ⟨_, rfl⟩
  obtain ⟨e2, he2⟩ : ∃ er, (scanV s).2.2 = er := ⟨_, rfl⟩
  obtain ⟨n2, hn2⟩ : ∃ n, L2.length = n := ⟨_, rfl⟩
  have HSV : Hid (scanV s = (L2, p2, e2)) := by show _ = _; rw [← hL2, ← hp2, ← he2]
  have HLE2 : Hid (L2.length ≤ 4096) := by show _ ≤ _; rw [← hL2]; exact scanV_len2 s
  have HL2 := Lib.hid hL2
  have HP2 := Lib.hid hp2
  have HE2 := Lib.hid he2
  have HN2 := Lib.hid hn2
  have hn24 : n2 ≤ 4096 := by rw [← hn2]; exact HLE2.out
  obtain ⟨m, hmL⟩ : ∃ m, L.length = m := ⟨_, rfl⟩
  have HM := Lib.hid hmL
  rw [hmL] at hm HU HLJ ⊢
  obtain ⟨J, hJ⟩ : ∃ J, (joinV L).1 = J := ⟨_, rfl⟩
  obtain ⟨er, her⟩ : ∃ er, (joinV L).2 = er := ⟨_, rfl⟩
  have HJ := Lib.hid hJ
  have HER := Lib.hid her
  have HSJ : Hid (∀ W, Kept [] w W → Calls Tryd.prog 8 #[.string J] W (ScanPost W J)) := fun W hk => lScan_any J W (hv.keep hk)
  clear hmL hA hJ her hL2 hp2 he2 hn2
  go_enter Tryd.func7, Tryd.ntmps7
  go_wp2_with fail
  refine HLJ.out.mono ?_
  rintro e w1 ⟨rfl, hk1⟩
  have HK1 := Lib.hid hk1
  clear hk1
  rw [HJ.out, HER.out]
  by_cases he : er = 0
  case neg =>
    have hne : (er == 0) = false := by simpa using he
    have hne2 : (er != 0) = true := by simpa using he
    clear he
    go_wp2_with fail
    refine (HSC.out _ HK1.out).mono ?_
    rintro e w6 ⟨v6, rfl, hown6, hk6⟩
    have HK6 := Lib.hid (HK1.out.trans hk6)
    rw [HL2.out] at hown6
    rw [HP2.out, HE2.out]
    have HR6 := Lib.hid (RdT.of_own hown6 (by have := HLE2.out; omega))
    obtain ⟨A6, c6, hAv⟩ := own_len hown6
    subst hAv
    clear hown6 hk6
    rw [HN2.out] at HR6 ⊢
    by_cases he2 : e2 = 0
    case neg =>
      have hne : (e2 == 0) = false := by simpa using he2
      have hne2 : (e2 != 0) = true := by simpa using he2
      clear he2
      go_wp2_with fail
      refine (HLV.out _ HK6.out).mono ?_
      rintro e wf ⟨rfl, hkf⟩
      have HKF := Lib.hid (HK6.out.trans hkf)
      clear hkf
      go_wp2_with fail
      go_ret
      exact ⟨rfl, HKF.out⟩
    subst he2
    have HOKS := Lib.hid (scan_ok HSV.out)
    go_wp2_with fail
    go_loopw [72] (fun ii wr => ∃ (i : Nat), ii = .int .i64 i ∧ i ≤ n2 ∧ Kept [] w6 wr) (fun ii _ => n2 - (intOf ii).toNat)
    case atStart => exact ⟨0, rfl, Nat.zero_le _, Kept.refl _ _⟩
    case round =>
      obtain ⟨i, rfl, hi, hK⟩ := hrel
      have HK := Lib.hid hK
      by_cases hlt : i < n2
      · obtain ⟨t, hg⟩ : ∃ t, L2[i]? = some t := ⟨_, List.getElem?_eq_getElem (by rw [HN2.out]; exact hlt)⟩
        have hck := checkV_ok (HOKS.out t (List.mem_of_getElem? hg))
        obtain ⟨A', c', he, _, hcell⟩ := HR6.out.keep hK
        obtain ⟨b, rfl, hcc⟩ := hcell (by rintro rfl; simp at hg)
        injection he with he1 he2 he3
        subst he1 he3
        obtain ⟨K, T, ⟨v1, v2, v3⟩, pl⟩ := t
        have z0 : wr.cell? ⟨b, i * 6, none⟩ = some (.int .i64 K) := hcc i _ hg 0 _ rfl
        have z1 : wr.cell? ⟨b, i * 6 + 1, none⟩ = some (.string T) := hcc i _ hg 1 _ rfl
        have z2 : wr.cell? ⟨b, i * 6 + 2, none⟩ = some (.int .i64 v1) := hcc i _ hg 2 _ rfl
        have z3 : wr.cell? ⟨b, i * 6 + 3, none⟩ = some (.int .i64 v2) := hcc i _ hg 3 _ rfl
        have z4 : wr.cell? ⟨b, i * 6 + 4, none⟩ = some (.string v3) := hcc i _ hg 4 _ rfl
        have z5 : wr.cell? ⟨b, i * 6 + 5, none⟩ = some (.int .i64 pl) := hcc i _ hg 5 _ rfl
        have HC1 : Hid (∀ W, Kept [] w W → Calls Tryd.prog 22 #[.agg #[.int .i64 K, .string T, .int .i64 v1, .int .i64 v2, .string v3, .int .i64 pl]] W fun e w' => e = .returned (.int .i64 0) ∧ Kept [] W w') := fun W hk => by rw [← hck]; exact HCL.out _ W hk
        clear hcc hcell he2 hg hK hck
        go_wp2_with fail
        have hka := HK.out.alloc (.cells #[.int .i64 K, .string T, .int .i64 v1, .int .i64 v2, .string v3, .int .i64 pl] 40)
        refine (HC1.out _ (HK6.out.trans hka)).mono ?_
        rintro e w7 ⟨rfl, hk7⟩
        have HK7 := Lib.hid (hka.trans hk7)
        clear hka hk7 z0 z1 z2 z3 z4 z5
        go_wp2_with fail
        go_roundw
        case rel => exact ⟨i + 1, by go_num, by omega, HK7.out⟩
        case measure => simp [intOf]; omega
      · have HKX := Lib.hid (HK6.out.trans hK)
        clear hK
        go_wp2_with fail
        refine (HLV.out _ HKX.out).mono ?_
        rintro e wf ⟨rfl, hkf⟩
        have HKF := Lib.hid (HKX.out.trans hkf)
        clear hkf
        go_wp2_with fail
        go_ret
        exact ⟨rfl, HKF.out⟩
  subst he
  obtain ⟨hall, hnl, hJ2⟩ := joinV_zero HER.out
  rw [HJ.out] at hJ2
  have hs2 := sumT_le hall
  obtain ⟨L', hsc, hmap⟩ := scan_join hall (by rcases Nat.eq_zero_or_pos L.length with h0 | h0 <;> omega)
  rw [← hJ2] at hsc
  have hlen : L'.length = m := by
    have := congrArg List.length hmap
    rw [List.length_map, List.length_map, HM.out] at this
    exact this
  have HS := Lib.hid hsc
  have HLN := Lib.hid hlen
  have HMAP := Lib.hid hmap
  clear hall hnl hJ2 hs2 hsc hlen hmap
  go_wp2_with fail
  refine (HSJ.out _ HK1.out).mono ?_
  rintro e w2 ⟨v2, rfl, hown2, hk2⟩
  rw [HS.out] at hown2 ⊢
  have HK2 := Lib.hid (HK1.out.trans hk2)
  obtain ⟨A2, c2, hAv⟩ := own_len hown2
  subst hAv
  have HROW : Hid (RowI w.heap.size A2 m L' 0 w2) := by
    intro h0
    obtain ⟨g, c', cur, he, hb, hq, hc⟩ := own_blk hown2 (by
      intro e
      have h9 : L' = [] := e
      have h8 := HLN.out
      rw [h9] at h8
      simp at h8
      omega)
    injection he with he1 he2 he3
    refine ⟨g, cur, he1, ?_, hq, fun i' _ t ht j x hx => hc _ _ (cT_get _ _ _ ht _ _ hx)⟩
    have := HK1.out.size
    omega
  simp only [show L'.length = m from HLN.out]
  clear hown2 hk2
  go_wp2_with fail
  go_loopw [40] (fun ii wr => ∃ (i : Nat), ii = .int .i64 i ∧ i ≤ m ∧ RowI w.heap.size A2 m L' i wr ∧ Kept [] w wr) (fun ii _ => m - (intOf ii).toNat)
  case atStart => exact ⟨0, rfl, Nat.zero_le _, HROW.out, HK2.out⟩
  case round =>
    obtain ⟨i, rfl, hi, hrow, hK⟩ := hrel
    have HK := Lib.hid hK
    by_cases hlt : i < m
    · obtain ⟨t, hg⟩ : ∃ t, L[i]? = some t := ⟨_, List.getElem?_eq_getElem (by rw [HM.out]; exact hlt)⟩
      obtain ⟨t', hg'⟩ : ∃ t, L'[i]? = some t := ⟨_, List.getElem?_eq_getElem (by rw [HLN.out]; exact hlt)⟩
      have hsame := map_at HMAP.out hg hg'
      obtain ⟨g, cur, hA2, hbg, hq, hcur⟩ := hrow hlt
      subst hA2
      obtain ⟨A', c', he, hcell⟩ := HU.out
      obtain ⟨b, off, rfl, hcc0⟩ := hcell (by rintro rfl; simp at hg)
      injection he with he1 he2 he3
      subst he1 he3
      obtain ⟨K, T, ⟨v1, v2, v3⟩, pl⟩ := t
      obtain ⟨K', T', ⟨y1, y2, y3⟩, pl'⟩ := t'
      have hbl := World.block_lt_of_cell? w _ (hcc0 i _ hg 0 _ rfl)
      simp only at hbl
      unfold TokD.at0 at hsame
      injection hsame with e1 e2 e3 e4
      injection e3 with e5 e6
      injection e6 with e7 e8
      subst e1 e2 e5 e7 e8
      have hcc : ∀ (j : Nat) (x : Value), (tokC ⟨K', T', (y1, y2, y3), pl⟩)[j]? = some x → wr.cell? ⟨b, off + i * 6 + j, none⟩ = some x := fun j x hx => hK.cell (by simp) (hcc0 i _ hg j x hx)
      have z5 : wr.cell? ⟨b, off + i * 6 + 5, none⟩ = some (.int .i64 pl) := hcc 5 _ rfl
      have d5 := hcur i (Nat.le_refl _) _ hg' 5 _ rfl
      have q5 : wr.cell? ⟨g, i * 6 + 5, none⟩ = some (.int .i64 pl') := (hq.cell _).trans d5
      have qf : wr.frozen? ⟨g, i * 6 + 5, none⟩ = false := hq.free _
      have HQ := Lib.hid hq
      have HCUR := Lib.hid hcur
      have HCC := Lib.hid hcc
      have HG' := Lib.hid hg'
      have h5 : i * 6 + 5 < cur.size := (Array.getElem?_eq_some_iff.1 d5).1
      clear hcc hcc0 hcell he2 hg hg' hq hcur d5 e4 hK hrow
      go_upto_region 10 with fail
      obtain ⟨w5, hw5⟩ : ∃ w5, wr.setCell ⟨g, i * 6 + 5, none⟩ (.int .i64 pl) = w5 := ⟨_, rfl⟩
      have HQ5 : Hid (Blk w5 g (cur.setIfInBounds (i * 6 + 5) (.int .i64 pl)) 40) := by show Blk _ _ _ _; rw [← hw5]; exact HQ.out.set (i * 6 + 5) _
      have HK5 : Hid (Kept [] w w5) := by show Kept _ _ _; rw [← hw5]; exact HK.out.setCell (.inr (by simp; omega)) _
      have hoth : ∀ j x, wr.cell? ⟨b, off + i * 6 + j, none⟩ = some x → w5.cell? ⟨b, off + i * 6 + j, none⟩ = some x := fun j x hx => by
        rw [← hw5]
        exact ((Kept.refl [g] wr).setCell (p := ⟨g, i * 6 + 5, none⟩) (.inl (by simp)) _).cell (by simp; omega) hx
      rw [hw5]
      clear hw5 z5 q5 qf
      have z0 : w5.cell? ⟨b, off + i * 6, none⟩ = some (.int .i64 K') := hoth 0 _ (HCC.out 0 _ rfl)
      have z1 : w5.cell? ⟨b, off + i * 6 + 1, none⟩ = some (.string T') := hoth 1 _ (HCC.out 1 _ rfl)
      have z2 : w5.cell? ⟨b, off + i * 6 + 2, none⟩ = some (.int .i64 y1) := hoth 2 _ (HCC.out 2 _ rfl)
      have z3 : w5.cell? ⟨b, off + i * 6 + 3, none⟩ = some (.int .i64 y2) := hoth 3 _ (HCC.out 3 _ rfl)
      have z4 : w5.cell? ⟨b, off + i * 6 + 4, none⟩ = some (.string y3) := hoth 4 _ (HCC.out 4 _ rfl)
      have z5 : w5.cell? ⟨b, off + i * 6 + 5, none⟩ = some (.int .i64 pl) := hoth 5 _ (HCC.out 5 _ rfl)
      have hne : ∀ j x, j < 5 → cur[i * 6 + j]? = some x → w5.cell? ⟨g, i * 6 + j, none⟩ = some x := fun j x hj hx => (HQ5.out.cell _).trans (by rw [Array.getElem?_setIfInBounds_ne (by omega)]; exact hx)
      have q0 : w5.cell? ⟨g, i * 6, none⟩ = some (.int .i64 K') := hne 0 _ (by omega) (HCUR.out i (Nat.le_refl _) _ HG'.out 0 _ rfl)
      have q1 : w5.cell? ⟨g, i * 6 + 1, none⟩ = some (.string T') := hne 1 _ (by omega) (HCUR.out i (Nat.le_refl _) _ HG'.out 1 _ rfl)
      have q2 : w5.cell? ⟨g, i * 6 + 2, none⟩ = some (.int .i64 y1) := hne 2 _ (by omega) (HCUR.out i (Nat.le_refl _) _ HG'.out 2 _ rfl)
      have q3 : w5.cell? ⟨g, i * 6 + 3, none⟩ = some (.int .i64 y2) := hne 3 _ (by omega) (HCUR.out i (Nat.le_refl _) _ HG'.out 3 _ rfl)
      have q4 : w5.cell? ⟨g, i * 6 + 4, none⟩ = some (.string y3) := hne 4 _ (by omega) (HCUR.out i (Nat.le_refl _) _ HG'.out 4 _ rfl)
      have q5 : w5.cell? ⟨g, i * 6 + 5, none⟩ = some (.int .i64 pl) := (HQ5.out.cell _).trans (by rw [Array.getElem?_setIfInBounds_self_of_lt h5])
      have HROW5 : Hid (RowI w.heap.size (some ⟨g, 0, none⟩) m L' (i + 1) w5) := fun _ => ⟨g, _, rfl, hbg, HQ5.out, fun i' hi' t ht j x hx => by
        have hj : j < 6 := by
          rcases Nat.lt_or_ge j 6 with h0 | h0
          · exact h0
          · rw [List.getElem?_eq_none (by show 6 ≤ j; exact h0)] at hx; cases hx
        rw [Array.getElem?_setIfInBounds_ne (by omega)]
        exact HCUR.out i' (by omega) t ht j x hx⟩
      clear hoth hne
      go_quiet (fail)
      rename_i nq
      have HK6 := Lib.hid (HK5.out.drewN nq)
      have HROW6 : Hid (RowI w.heap.size (some ⟨g, 0, none⟩) m L' (i + 1) (w5.drewN nq)) := HROW5.out
      clear z0 z1 z2 z3 z4 z5 q0 q1 q2 q3 q4 q5
      go_wp2_with fail
      go_roundw
      case rel => exact ⟨i + 1, by go_num, by omega, HROW6.out, HK6.out⟩
      case measure => simp [intOf]; omega
    · clear hrow hK
      go_wp2_with fail
      refine (HSC.out _ HK.out).mono ?_
      rintro e w6 ⟨v6, rfl, hown6, hk6⟩
      have HK6 := Lib.hid (HK.out.trans hk6)
      rw [HL2.out] at hown6
      rw [HP2.out, HE2.out]
      have HR6 := Lib.hid (RdT.of_own hown6 (by have := HLE2.out; omega))
      obtain ⟨A6, c6, hAv⟩ := own_len hown6
      subst hAv
      clear hown6 hk6
      rw [HN2.out] at HR6 ⊢
      by_cases he2 : e2 = 0
      case neg =>
        have hne : (e2 == 0) = false := by simpa using he2
        have hne2 : (e2 != 0) = true := by simpa using he2
        clear he2
        go_wp2_with fail
        refine (HLV.out _ HK6.out).mono ?_
        rintro e wf ⟨rfl, hkf⟩
        have HKF := Lib.hid (HK6.out.trans hkf)
        clear hkf
        go_wp2_with fail
        go_ret
        exact ⟨rfl, HKF.out⟩
      subst he2
      have HOKS := Lib.hid (scan_ok HSV.out)
      go_wp2_with fail
      go_loopw [72] (fun ii wr => ∃ (i : Nat), ii = .int .i64 i ∧ i ≤ n2 ∧ Kept [] w6 wr) (fun ii _ => n2 - (intOf ii).toNat)
      case atStart => exact ⟨0, rfl, Nat.zero_le _, Kept.refl _ _⟩
      case round =>
        obtain ⟨i, rfl, hi, hK⟩ := hrel
        have HK := Lib.hid hK
        by_cases hlt : i < n2
        · obtain ⟨t, hg⟩ : ∃ t, L2[i]? = some t := ⟨_, List.getElem?_eq_getElem (by rw [HN2.out]; exact hlt)⟩
          have hck := checkV_ok (HOKS.out t (List.mem_of_getElem? hg))
          obtain ⟨A', c', he, _, hcell⟩ := HR6.out.keep hK
          obtain ⟨b, rfl, hcc⟩ := hcell (by rintro rfl; simp at hg)
          injection he with he1 he2 he3
          subst he1 he3
          obtain ⟨K, T, ⟨v1, v2, v3⟩, pl⟩ := t
          have z0 : wr.cell? ⟨b, i * 6, none⟩ = some (.int .i64 K) := hcc i _ hg 0 _ rfl
          have z1 : wr.cell? ⟨b, i * 6 + 1, none⟩ = some (.string T) := hcc i _ hg 1 _ rfl
          have z2 : wr.cell? ⟨b, i * 6 + 2, none⟩ = some (.int .i64 v1) := hcc i _ hg 2 _ rfl
          have z3 : wr.cell? ⟨b, i * 6 + 3, none⟩ = some (.int .i64 v2) := hcc i _ hg 3 _ rfl
          have z4 : wr.cell? ⟨b, i * 6 + 4, none⟩ = some (.string v3) := hcc i _ hg 4 _ rfl
          have z5 : wr.cell? ⟨b, i * 6 + 5, none⟩ = some (.int .i64 pl) := hcc i _ hg 5 _ rfl
          have HC1 : Hid (∀ W, Kept [] w W → Calls Tryd.prog 22 #[.agg #[.int .i64 K, .string T, .int .i64 v1, .int .i64 v2, .string v3, .int .i64 pl]] W fun e w' => e = .returned (.int .i64 0) ∧ Kept [] W w') := fun W hk => by rw [← hck]; exact HCL.out _ W hk
          clear hcc hcell he2 hg hK hck
          go_wp2_with fail
          have hka := HK.out.alloc (.cells #[.int .i64 K, .string T, .int .i64 v1, .int .i64 v2, .string v3, .int .i64 pl] 40)
          refine (HC1.out _ (HK6.out.trans hka)).mono ?_
          rintro e w7 ⟨rfl, hk7⟩
          have HK7 := Lib.hid (hka.trans hk7)
          clear hka hk7 z0 z1 z2 z3 z4 z5
          go_wp2_with fail
          go_roundw
          case rel => exact ⟨i + 1, by go_num, by omega, HK7.out⟩
          case measure => simp [intOf]; omega
        · have HKX := Lib.hid (HK6.out.trans hK)
          clear hK
          go_wp2_with fail
          refine (HLV.out _ HKX.out).mono ?_
          rintro e wf ⟨rfl, hkf⟩
          have HKF := Lib.hid (HKX.out.trans hkf)
          clear hkf
          go_wp2_with fail
          go_ret
          exact ⟨rfl, HKF.out⟩

theorem back5_row (w : World) (hL : laidMetH Tryd.prog Rows.lexBackRow.laid w) (A : Option Addr) (n cap : Nat) (x : List TokA) (wx : (Rk.slice tokR).K w x [.slice A n cap]) (yx : n * 64 ≤ 140737488351232) (s : ByteArray) (hs : s.size ≤ 140737488351232) :
    Calls Tryd.prog 7 #[.slice A n cap, .string s] w fun e w' => e = .returned (.bool true) ∧ Below w.heap.size w w' := by
  have hr := RdA.of_rk wx
  have hn : n = (x.map toTok).length := by
    obtain ⟨A', c', he, _⟩ := hr
    injection he with _ h2 _
  exact (lawBack5_any _ (x.map toTok) s w hr (by omega) (vars_of_laid hL)).mono fun e w' ⟨he, hk⟩ => ⟨he, hk.below⟩

end Go.Proofs.YtmkpbffjgpoplaaDoor

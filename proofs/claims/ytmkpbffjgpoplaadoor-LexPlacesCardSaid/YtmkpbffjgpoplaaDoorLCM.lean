/- Texts put together: E27, E28, LC. -/
import Derived.Test.YtmkpbffjgpoplaaDoorE12
import Derived.Test.YtmkpbffjgpoplaaDoorE25
import Derived.Test.YtmkpbffjgpoplaaDoorE26
import Derived.Deep.DeepCutAuto
import Derived.Test.YtmkpbffjgpoplaaDoorVL
/- A word stands by itself as it stands in a text: the plain laws. -/
set_option linter.unusedVariables false
set_option linter.unusedSimpArgs false
set_option linter.unnecessarySimpa false
namespace Go.Proofs.YtmkpbffjgpoplaaDoor
open Go.RowKit Go.Shelf

def clsB (l : Bool) (c : Int) : Bool := digitV c || (l && letterV c)
theorem runGo_build (s : ByteArray) (l : Bool) (e : Nat) : ∀ (r k : Nat), k ≤ e → e ≤ k + r → (∀ i, k ≤ i → i < e → clsB l (byt s i) = true) → (e = k + r ∨ clsB l (byt s e) = false) → runGo s l r k = e
  | 0, k, h1, h2, _, _ => by rw [runGo]; omega
  | r + 1, k, h1, h2, h3, h4 => by
    rw [runGo]
    by_cases hk : k = e
    · subst hk
      rw [if_neg]
      rcases h4 with h4 | h4
      · omega
      · unfold clsB at h4; rw [h4]; simp
    · have := h3 k (Nat.le_refl _) (by omega)
      unfold clsB at this
      rw [if_pos this]
      exact runGo_build s l e r (k + 1) (by omega) (by omega) (fun i a b => h3 i (by omega) b) (by rcases h4 with h4 | h4; exact .inl (by omega); exact .inr h4)
theorem runGo_cls (s : ByteArray) (l : Bool) : ∀ (r k i : Nat), k ≤ i → i < runGo s l r k → clsB l (byt s i) = true
  | 0, k, i, h1, h2 => by rw [runGo] at h2; omega
  | r + 1, k, i, h1, h2 => by
    rw [runGo] at h2
    split at h2
    · rename_i hc
      by_cases hk : i = k
      · subst hk; exact hc
      · exact runGo_cls s l r (k + 1) i (by omega) h2
    · omega
theorem closGo_pre (s x : ByteArray) (e : Nat) (hag : ∀ i, i < e → byt x i = byt s i) : ∀ (r k : Nat), closGo s r k = some e → ∀ r', e ≤ k + r' → closGo x r' k = some e
  | 0, k, h, _, _ => by simp [closGo] at h
  | 1, k, h, r', hr => by
    rw [closGo] at h
    split at h
    · rename_i hc
      injection h with h
      have hb : byt x k = 34 := by rw [hag k (by omega)]; exact hc
      match r', hr with
      | 0, hr => omega
      | 1, _ => rw [closGo, if_pos hb, h]
      | n + 2, _ => rw [closGo, if_neg (by omega), if_pos hb, h]
    · cases h
  | r + 2, k, h, r', hr => by
    have hbd := closGo_bd s (r + 2) k e h
    have hb := hag k (by omega)
    rw [closGo] at h
    split at h
    · rename_i hc
      have hbd2 := closGo_bd s r (k + 2) e h
      match r', hr with
      | 0, hr => omega
      | 1, hr => omega
      | n + 2, hr =>
        rw [closGo, if_pos (by rw [hb]; exact hc)]
        exact closGo_pre s x e hag r (k + 2) h n (by omega)
    · rename_i hc
      split at h
      · rename_i hc2
        injection h with h
        match r', hr with
        | 0, hr => omega
        | 1, _ => rw [closGo, if_pos (by rw [hb]; exact hc2), h]
        | n + 2, _ => rw [closGo, if_neg (by rw [hb]; exact hc), if_pos (by rw [hb]; exact hc2), h]
      · rename_i hc2
        have hbd2 := closGo_bd s (r + 1) (k + 1) e h
        match r', hr with
        | 0, hr => omega
        | 1, hr => omega
        | n + 2, hr =>
          rw [closGo, if_neg (by rw [hb]; exact hc), if_neg (by rw [hb]; exact hc2)]
          exact closGo_pre s x e hag (r + 1) (k + 1) h (n + 1) (by omega)

/-- The first word of a text is the first word of any text that begins so, if it ends there or a blank follows. -/
theorem wordO_agree (s x : ByteArray) (t : TokD) (hag : ∀ i, i < t.text.size → byt x i = byt s i) (hse : 0 < s.size) (hxe : t.text.size ≤ x.size) (hext : ∀ a b, a ≤ b → b ≤ t.text.size → x.extract a b = s.extract a b) (ho : wordO s 0 = some t) (hend : t.text.size = x.size ∨ byt x t.text.size = 32) : wordO x 0 = some t := by
  have ht := wordO_text hse ho
  have h0 := hag 0 (by omega)
  have hec : ∀ l, t.text.size = x.size ∨ clsB l (byt x t.text.size) = false := fun l => by
    rcases hend with h | h
    · exact .inl h
    · refine .inr ?_
      rw [h]
      cases l <;> decide
  have key : ∀ (l : Bool) (k : Nat), k ≤ t.text.size → (s.extract 0 (runV s l k)).size = t.text.size → runV s l k ≤ s.size → runV x l k = runV s l k ∧ runV s l k = t.text.size := by
    intro l k hk hz hle
    rw [size_extract s 0 _ (by omega) hle, Nat.sub_zero] at hz
    refine ⟨?_, hz⟩
    rw [hz]
    unfold runV at hz ⊢
    refine runGo_build x l _ _ _ hk (by omega) (fun i h1 h2 => ?_) ?_
    · rw [hag i h2]
      exact runGo_cls s l (s.size - k) k i h1 (by omega)
    · rcases hec l with h | h
      · exact .inl (by omega)
      · exact .inr h
  have hbase := ho
  unfold wordO at ho ⊢
  rw [h0]
  by_cases c1 : letterV (byt s 0) = true
  · rw [if_pos c1] at ho ⊢
    split at ho
    · rename_i hn
      injection ho with ho
      have hb := runV_bd s true (k := 0) (by omega)
      obtain ⟨e1, e2⟩ := key true 0 (by omega) (by rw [← ho]) hb.2
      have e3 : x.extract 0 (runV x true 0) = s.extract 0 (runV s true 0) := by rw [e1, e2]; exact hext _ _ (by omega) (Nat.le_refl _)
      rw [e3, if_pos hn, ho]
    · cases ho
  · rw [if_neg c1] at ho ⊢
    by_cases c2 : digitV (byt s 0) = true ∨ (byt s 0 = 45 ∧ 0 + 1 < s.size ∧ digitV (byt s (0 + 1)) = true)
    · rw [if_pos c2] at ho
      split at ho
      · rename_i hn
        injection ho with ho
        have hb := runV_bd s false (k := 0 + 1) (by omega)
        obtain ⟨e1, e2⟩ := key false (0 + 1) (by omega) (by rw [← ho]) hb.2
        have e3 : x.extract 0 (runV x false (0 + 1)) = s.extract 0 (runV s false (0 + 1)) := by rw [e1, e2]; exact hext _ _ (by omega) (Nat.le_refl _)
        have c2' : digitV (byt s 0) = true ∨ (byt s 0 = 45 ∧ 0 + 1 < x.size ∧ digitV (byt x (0 + 1)) = true) := by
          rcases c2 with c | ⟨a, b, c⟩
          · exact .inl c
          · have : 2 ≤ t.text.size := by
              rw [← e2]
              unfold runV
              rw [show s.size - (0 + 1) = (s.size - 2) + 1 by omega, runGo, if_pos (by rw [c]; simp)]
              exact (runGo_bd s false _ _).1
            exact .inr ⟨a, by omega, by rw [hag _ (by omega)]; exact c⟩
        rw [if_pos c2', e3, if_pos hn, ho]
      · cases ho
    · rw [if_neg c2] at ho
      have ne45 : byt s 0 = 45 → False := fun h45 => by
        rw [if_neg (by omega)] at ho
        rw [if_neg (fun h => by have := h.2; rw [h45] at this; simp [sym2] at this), if_neg (by rw [h45]; decide)] at ho
        cases ho
      have c2' : ¬ (digitV (byt s 0) = true ∨ (byt s 0 = 45 ∧ 0 + 1 < x.size ∧ digitV (byt x (0 + 1)) = true)) := by
        rintro (h | ⟨a, _⟩)
        · exact c2 (.inl h)
        · exact ne45 a
      rw [if_neg c2']
      by_cases c3 : byt s 0 = 34
      · rw [if_pos c3] at ho ⊢
        split at ho
        · cases ho
        · rename_i e he
          have hbd := closGo_bd _ _ _ _ he
          split at ho
          · rename_i hn
            injection ho with ho
            have hz : e = t.text.size := by
              rw [← ho]
              show e = (s.extract 0 e).size
              rw [size_extract s 0 _ (by omega) (by omega)]; omega
            have := closGo_pre s x e (fun i hi => hag i (by omega)) _ _ he (x.size - (0 + 1)) (by omega)
            rw [this]
            simp only
            rw [hext 0 e (by omega) (by omega), if_pos hn, ho]
          · cases ho
      · rw [if_neg c3] at ho ⊢
        by_cases c4 : 0 + 1 < s.size ∧ sym2 (byt s 0) (byt s (0 + 1)) = true
        · rw [if_pos c4] at ho
          injection ho with ho
          have hz : t.text.size = 2 := by
            rw [← ho]
            show (s.extract 0 (0 + 2)).size = 2
            rw [size_extract s 0 _ (by omega) (by omega)]
          rw [if_pos ⟨by omega, by rw [hag _ (by omega)]; exact c4.2⟩, hext 0 (0 + 2) (by omega) (by omega), ho]
        · rw [if_neg c4] at ho
          split at ho
          · rename_i c5
            injection ho with ho
            have hz : t.text.size = 1 := by
              rw [← ho]
              show (s.extract 0 (0 + 1)).size = 1
              rw [size_extract s 0 _ (by omega) (by omega)]
            have c4' : ¬ (0 + 1 < x.size ∧ sym2 (byt s 0) (byt x (0 + 1)) = true) := by
              rintro ⟨a, b⟩
              rcases hend with h | h
              · omega
              · rw [hz] at h
                rw [show (0 : Nat) + 1 = 1 from rfl, h] at b
                simp [sym2] at b
            rw [if_neg c4', if_pos c5, hext 0 (0 + 1) (by omega) (by omega), ho]
          · cases ho

/-- Where a word stands no blank stands. -/
theorem word_not_blank {s : ByteArray} {k : Nat} {t : TokD} (ho : wordO s k = some t) : blkB (byt s k) = false ∧ byt s k ≠ 35 := by
  have bad : ∀ c, byt s k = c → (c = 32 ∨ c = 9 ∨ c = 10 ∨ c = 13 ∨ c = 35) → False := by
    intro c hc h
    unfold wordO at ho
    rw [hc] at ho
    rw [if_neg (by rcases h with rfl | rfl | rfl | rfl | rfl <;> decide), if_neg (by rintro (h1 | ⟨h1, _⟩); rcases h with rfl | rfl | rfl | rfl | rfl <;> revert h1 <;> decide; omega), if_neg (by omega), if_neg (by rintro ⟨_, h1⟩; unfold sym2 at h1; rcases h with rfl | rfl | rfl | rfl | rfl <;> simp at h1), if_neg (by rcases h with rfl | rfl | rfl | rfl | rfl <;> decide)] at ho
    cases ho
  refine ⟨?_, fun h => bad _ h (by omega)⟩
  cases hb : blkB (byt s k) with
  | false => rfl
  | true =>
    unfold blkB at hb
    simp at hb
    exact (bad _ rfl (by omega)).elim
theorem blankV_at {s : ByteArray} {k : Nat} {t : TokD} (hk : k < s.size) (ho : wordO s k = some t) : blankV s k = k := by
  obtain ⟨h1, h2⟩ := word_not_blank ho
  unfold blankV
  rw [show s.size - k = (s.size - k - 1) + 1 by omega, blankGo, if_neg (by rw [h1]; decide), if_neg h2]
theorem blankV_end (s : ByteArray) : blankV s s.size = s.size := by unfold blankV; rw [Nat.sub_self, blankGo]

/-- What a word is by itself. -/
def okT (t : TokD) : Prop := 0 < t.text.size ∧ t.text.size ≤ 4096 ∧ wordO t.text 0 = some (t.at0 0)
theorem scan_one {t : TokD} (h : okT t) : scanV t.text = ([t.at0 0], 0, 0) := by
  obtain ⟨h1, h2, h3⟩ := h
  have hb := blankV_at h1 h3
  have e := wordsV_step (s := t.text) (k := 0) (Nat.zero_le _) (by rw [hb]; exact h1) (by rw [hb]; exact h3)
  have e2 : blankV t.text 0 + (t.at0 0).text.size = t.text.size := by rw [hb]; exact Nat.zero_add _
  rw [e2, wordsV_none (Nat.le_refl _) (fun h => absurd h (by rw [blankV_end]; omega))] at e
  refine scanV_ok rfl (by omega) e ?_
  rw [blankV_end]; omega
theorem scan_parts {s : ByteArray} {L : List TokD} {p : Nat} (h : scanV s = (L, p, 0)) : s.size ≤ 4096 ∧ wordsV s 0 = (L, s.size) ∧ p = 0 := by
  unfold scanV at h
  split at h
  · injection h with _ h; injection h with _ h; simp at h
  · rename_i hs
    split at h
    · injection h with _ h; injection h with _ h; simp at h
    · rename_i h2
      obtain ⟨k, hk, _, hb, _⟩ := words_last s (by omega)
      have := (blankV_bd s hk).2
      injection h with h3 h4
      injection h4 with h4 _
      refine ⟨by omega, ?_, h4.symm⟩
      rw [← h3]
      have : (wordsV s 0).2 = s.size := by omega
      rw [← this]
theorem ok_of_scan {t x : TokD} {p : Nat} (h : scanV t.text = ([x], p, 0)) (hx : x.at0 0 = t.at0 0) : okT t ∧ x.place = 0 := by
  obtain ⟨h1, h2, _⟩ := scan_parts h
  have hb := blankV_bd t.text (k := 0) (Nat.zero_le _)
  have htx : x.text = t.text := by have := congrArg TokD.text hx; exact this
  by_cases hlt : blankV t.text 0 < t.text.size
  · cases ho : wordO t.text (blankV t.text 0) with
    | none =>
      rw [wordsV_none (Nat.zero_le _) (fun _ => ho)] at h2
      injection h2 with h2 _
      cases h2
    | some y =>
      rw [wordsV_step (Nat.zero_le _) hlt ho] at h2
      injection h2 with h2 _
      injection h2 with h2 _
      subst h2
      have ht := wordO_text hlt ho
      rw [htx] at ht
      have hz : blankV t.text 0 = 0 := by omega
      rw [hz] at ho
      have hp : y.place = 0 := by rw [ht.1, hz]; rfl
      refine ⟨⟨by omega, h1, ?_⟩, hp⟩
      rw [ho, ← hx]
      congr 1
      unfold TokD.at0
      rw [← hp]
  · rw [wordsV_none (Nat.zero_le _) (fun h => absurd h hlt)] at h2
    injection h2 with h2 _
    cases h2
open Classical in
/-- What Check says. -/
noncomputable def checkV (t : TokD) : Int := if okT t then 0 else 50

/-- A word of a text may be by itself. -/
theorem word_ok {s : ByteArray} {k : Nat} {t : TokD} (hk : k < s.size) (hs : s.size ≤ 4096) (ho : wordO s k = some t) : okT t := by
  have ht := wordO_text hk ho
  refine ⟨by omega, by omega, ?_⟩
  rw [wordO_from s hk] at ho
  have hzf := size_from s (k := k) (by omega)
  cases hf : wordO (s.extract k s.size) 0 with
  | none => rw [hf] at ho; cases ho
  | some y =>
    rw [hf] at ho
    injection ho with ho
    have htx : y.text = t.text := by rw [← ho]; rfl
    have hy := wordO_text (s := s.extract k s.size) (k := 0) (by omega) hf
    have hyz : y = t.at0 0 := by
      rw [← ho]
      unfold TokD.at0
      have : y.place = 0 := hy.1
      rw [← this]
    have hx : ∀ a b, a ≤ b → b ≤ y.text.size → y.text.extract a b = (s.extract k s.size).extract a b := fun a b hab hb => by
      have e := hy.2.2.2
      rw [Nat.zero_add] at e
      have hsub : ∀ (X : ByteArray) (n : Nat), b ≤ n → (X.extract 0 n).extract a b = X.extract a b := fun X n hn => by
        apply ByteArray.ext
        rw [ByteArray.data_extract, ByteArray.data_extract, ByteArray.data_extract, Array.extract_extract, Nat.zero_add, Nat.zero_add, Nat.min_eq_left hn]
      conv => lhs; rw [e]
      exact hsub _ _ hb
    rw [← htx, ← hyz]
    refine wordO_agree (s.extract k s.size) y.text y (fun i hi => ?_) (by omega) (Nat.le_refl _) hx hf (.inl rfl)
    have e := hy.2.2.2
    rw [Nat.zero_add] at e
    conv => lhs; rw [e]
    have := byt_extract (s.extract k s.size) 0 y.text.size i (by omega) (by omega)
    rw [Nat.zero_add] at this
    exact this
theorem words_ok (s : ByteArray) (hs : s.size ≤ 4096) : ∀ (f : Nat) (k : Nat), k ≤ s.size → s.size + 1 - k ≤ f → ∀ t ∈ (wordsV s k).1, okT t
  | 0, k, hk, hf, t, ht => by omega
  | f + 1, k, hk, hf, t, ht => by
    have hbd := blankV_bd s hk
    by_cases hlt : blankV s k < s.size
    · cases ho : wordO s (blankV s k) with
      | none => rw [wordsV_none hk (fun _ => ho)] at ht; cases ht
      | some y =>
        rw [wordsV_step hk hlt ho] at ht
        have hy := wordO_text hlt ho
        rcases List.mem_cons.1 ht with rfl | ht
        · exact word_ok hlt hs ho
        · exact words_ok s hs f _ (by omega) (by omega) t ht
    · rw [wordsV_none hk (fun h => absurd h hlt)] at ht; cases ht
theorem scan_ok {s : ByteArray} {L : List TokD} {p : Nat} (h : scanV s = (L, p, 0)) : ∀ t ∈ L, okT t := by
  obtain ⟨h1, h2, _⟩ := scan_parts h
  have := words_ok s h1 _ 0 (Nat.zero_le _) (Nat.le_refl _)
  rw [h2] at this
  exact this

end Go.Proofs.YtmkpbffjgpoplaaDoor

/- Which words may be: both Checks. -/
set_option linter.unusedVariables false
set_option linter.unusedSimpArgs false
set_option linter.unnecessarySimpa false
namespace Go.Proofs.YtmkpbffjgpoplaaDoor
open Go.RowKit Go.Shelf
attribute [local go_sem] Oper.semAt_some

theorem checkV_of {t : TokD} {L : List TokD} {p : Nat} {e : Int} (h : scanV t.text = (L, p, e)) : (e ≠ 0 → checkV t = 50) ∧ (L.length ≠ 1 → checkV t = 50) ∧ (∀ x, L = [x] → e = 0 → (x.at0 0 = t.at0 0 → checkV t = 0 ∧ x.place = 0) ∧ (x.at0 0 ≠ t.at0 0 → checkV t = 50) ∧ (x.place ≠ 0 → checkV t = 50)) := by
  have bad : ¬ okT t → checkV t = 50 := fun h => by unfold checkV; rw [if_neg h]
  have key : okT t → L = [t.at0 0] ∧ e = 0 := fun hk => by
    have := (scan_one hk).symm.trans h
    injection this with h1 h2
    injection h2 with h2 h3
    exact ⟨h1.symm, h3.symm⟩
  refine ⟨fun h1 => bad fun hk => h1 (key hk).2, fun h1 => bad fun hk => h1 (by rw [(key hk).1]; rfl), fun x hx he => ⟨fun h1 => ?_, fun h1 => bad fun hk => ?_, fun h1 => bad fun hk => ?_⟩⟩
  · subst hx he
    have := ok_of_scan h h1
    exact ⟨by unfold checkV; rw [if_pos this.1], this.2⟩
  · have := (key hk).1
    rw [hx] at this
    injection this with this _
    exact h1 (by rw [this]; rfl)
  · have := (key hk).1
    rw [hx] at this
    injection this with this _
    exact h1 (by rw [this]; rfl)
theorem at0_ne {K K' : Int} {T T' : ByteArray} {v1 v2 y1 y2 : Int} {v3 y3 : ByteArray} {p p' : Int} (h : ¬ (K = K' ∧ T = T' ∧ v1 = y1 ∧ v2 = y2 ∧ v3 = y3)) : (⟨K', T', (y1, y2, y3), p'⟩ : TokD).at0 0 ≠ (⟨K, T, (v1, v2, v3), p⟩ : TokD).at0 0 := by
  intro e
  unfold TokD.at0 at e
  injection e with e1 e2 e3 e4
  injection e3 with e5 e6
  injection e6 with e7 e8
  exact h ⟨e1.symm, e2.symm, e5.symm, e7.symm, e8.symm⟩
theorem scanV_len2 (s : ByteArray) : (scanV s).1.length ≤ 4096 := by
  unfold scanV
  split
  · simp
  · rename_i h
    split
    · simp
    · obtain ⟨k, hk, _, _, hl⟩ := words_last s (by omega)
      simp only
      omega
theorem own_blk {W : World} {base : Nat} {e : TypeId} {v : Value} {L : List TokD} (h : W.ownsRow base e 6 v L.length (cT L)) (hn : L ≠ []) : ∃ (g c : Nat) (cur : Array Value), v = .slice (some ⟨g, 0, none⟩) L.length c ∧ base ≤ g ∧ Blk W g cur e ∧ ∀ (j : Nat) (x : Value), (cT L)[j]? = some x → cur[j]? = some x := by
  rcases h.2 with ⟨_, h0⟩ | ⟨g, cap, cur, he, hb, hg, _, _, _, ht⟩
  · exact absurd (List.eq_nil_of_length_eq_zero h0) hn
  · refine ⟨g, cap, cur, he, hb, hg, fun j x hx => ?_⟩
    have h2 := h.1
    have hj : j < (cT L).length := by
      rcases Nat.lt_or_ge j (cT L).length with h1 | h1
      · exact h1
      · rw [List.getElem?_eq_none h1] at hx; cases hx
    rw [← ht, List.getElem?_take_of_lt (by omega)] at hx
    simpa using hx

set_option maxRecDepth 100000 in
set_option maxHeartbeats 4000000 in
theorem lCheck_any (t : TokD) (w : World) (hv : Vars w) : Calls Tryd.prog 22 #[tokV t] w fun e w' => e = .returned (.int .i64 (checkV t)) ∧ Kept [] w w' := by
  obtain ⟨K, T, ⟨v1, v2, v3⟩, pl⟩ := t
  obtain ⟨L, hL⟩ : ∃ L, (scanV T).1 = L := ⟨_, rfl⟩
  obtain ⟨p, hp⟩ : ∃ p, (scanV T).2.1 = p := ⟨_, rfl⟩
  obtain ⟨er, her⟩ : ∃ er, (scanV T).2.2 = er := ⟨_, rfl⟩
  have hsc : scanV T = (L, p, er) := by rw [← hL, ← hp, ← her]
  have hlen : L.length ≤ 4096 := by rw [← hL]; exact scanV_len2 T
  obtain ⟨hc1, hc2, hc3⟩ := checkV_of (t := ⟨K, T, (v1, v2, v3), pl⟩) hsc
  have HC1 := Lib.hid hc1
  have HC2 := Lib.hid hc2
  have HC3 := Lib.hid hc3
  have HSC : Hid (∀ W, Kept [] w W → Calls Tryd.prog 8 #[.string T] W (ScanPost W T)) := fun W hk => lScan_any T W (hv.keep hk)
  obtain ⟨ans, hans⟩ : ∃ ans, checkV ⟨K, T, (v1, v2, v3), pl⟩ = ans := ⟨_, rfl⟩
  rw [hans] at HC1 HC2 HC3 ⊢
  clear hc1 hc2 hc3 hsc hans
  simp only [tokV]
  have HK0 := Lib.hid ((Kept.refl [] w).alloc (.cells #[.int .i64 K, .string T, .int .i64 v1, .int .i64 v2, .string v3, .int .i64 pl] 40))
  have HB0 := Lib.hid (Blk.new w #[.int .i64 K, .string T, .int .i64 v1, .int .i64 v2, .string v3, .int .i64 pl] 40)
  obtain ⟨⟨t0, t1, t2, t3, t4, t5⟩, ft0, ft1, ft2, ft3, ft4, ft5⟩ := HB0.out.six
  go_enter Tryd.func22, Tryd.ntmps22
  go_wp2_with fail
  refine (HSC.out _ HK0.out).mono ?_
  rintro e w1 ⟨v, rfl, hown, hk⟩
  have HK1 := Lib.hid (HK0.out.trans hk)
  have HB1 := Lib.hid (HB0.out.kept hk (by simp))
  clear t0 t1 t2 t3 t4 t5 ft0 ft1 ft2 ft3 ft4 ft5
  obtain ⟨⟨t0, t1, t2, t3, t4, t5⟩, ft0, ft1, ft2, ft3, ft4, ft5⟩ := HB1.out.six
  rw [hL] at hown
  rw [hp, her]
  obtain ⟨A, c, hAv⟩ := own_len hown
  subst hAv
  have HOWN := Lib.hid hown
  clear hown hk hL hp her
  obtain ⟨n, hn⟩ : ∃ n, L.length = n := ⟨_, rfl⟩
  have HN := Lib.hid hn
  rw [hn] at hlen ⊢
  clear hn
  by_cases he : er = 0
  case neg =>
    have hne : (er == 0) = false := by simpa using he
    have hne2 : (er != 0) = true := by simpa using he
    have HE := Lib.hid (HC1.out he)
    clear he
    go_wp2_with fail
    go_ret
    exact ⟨by rw [HE.out]; rfl, HK1.out⟩
  subst he
  by_cases hn1 : n = 1
  case neg =>
    have hne : ((n : Int) == 1) = false := by simp; omega
    have hne2 : ((n : Int) != 1) = true := by simp; omega
    have HE := Lib.hid (HC2.out (by rw [HN.out]; exact hn1))
    go_wp2_with fail
    go_ret
    exact ⟨by rw [HE.out]; rfl, HK1.out⟩
  subst hn1
  obtain ⟨x, hx⟩ : ∃ x, L = [x] := by
    have := HN.out
    match L, this with
    | [x], _ => exact ⟨x, rfl⟩
  subst hx
  obtain ⟨K', T', ⟨y1, y2, y3⟩, p'⟩ := x
  have HX := Lib.hid (HC3.out _ rfl rfl)
  obtain ⟨b, c', cur, he, hbb, hblk, hcur⟩ := own_blk HOWN.out (by simp)
  injection he with he1 he2 he3
  subst he1 he3
  have HQ1 := Lib.hid hblk
  have hlt := HB0.out.lt
  simp only [World.size_alloc] at hlt hbb
  have d0 : cur[0]? = some (.int .i64 K') := hcur 0 _ rfl
  have d1 : cur[1]? = some (.string T') := hcur 1 _ rfl
  have d2 : cur[2]? = some (.int .i64 y1) := hcur 2 _ rfl
  have d3 : cur[3]? = some (.int .i64 y2) := hcur 3 _ rfl
  have d4 : cur[4]? = some (.string y3) := hcur 4 _ rfl
  have d5 : cur[5]? = some (.int .i64 p') := hcur 5 _ rfl
  have z0 : w1.cell? ⟨b, 0, none⟩ = some (.int .i64 K') := (hblk.cell 0).trans d0
  have z1 : w1.cell? ⟨b, 1, none⟩ = some (.string T') := (hblk.cell 1).trans d1
  have z2 : w1.cell? ⟨b, 2, none⟩ = some (.int .i64 y1) := (hblk.cell 2).trans d2
  have z3 : w1.cell? ⟨b, 3, none⟩ = some (.int .i64 y2) := (hblk.cell 3).trans d3
  have z4 : w1.cell? ⟨b, 4, none⟩ = some (.string y3) := (hblk.cell 4).trans d4
  have z5 : w1.cell? ⟨b, 5, none⟩ = some (.int .i64 p') := (hblk.cell 5).trans d5
  have D0 := Lib.hid d0
  have D1 := Lib.hid d1
  have D2 := Lib.hid d2
  have D3 := Lib.hid d3
  have D4 := Lib.hid d4
  have D5 := Lib.hid d5
  clear d0 d1 d2 d3 d4 d5 hcur he2 hblk
  by_cases hpp : p' = 0
  case neg =>
    have hne : (p' == 0) = false := by simpa using hpp
    have hne2 : (p' != 0) = true := by simpa using hpp
    have HE := Lib.hid (HX.out.2.2 hpp)
    go_wp2_with fail
    go_ret
    exact ⟨by rw [HE.out]; rfl, HK1.out⟩
  subst hpp
  go_upto_region 5 with fail
  obtain ⟨w2, hw2⟩ : ∃ w2, w1.setCell ⟨w.heap.size, 5, none⟩ (.int .i64 0) = w2 := ⟨_, rfl⟩
  have HB2 : Hid (Blk w2 w.heap.size #[.int .i64 K, .string T, .int .i64 v1, .int .i64 v2, .string v3, .int .i64 0] 40) := by show Blk _ _ _ _; rw [← hw2]; exact HB1.out.set 5 _
  have HQ2 : Hid (Blk w2 b cur 40) := by show Blk _ _ _ _; rw [← hw2]; exact HQ1.out.set_other (by simp; omega) _
  have HK2 : Hid (Kept [] w w2) := by show Kept _ _ _; rw [← hw2]; exact HK1.out.setCell (.inr (by simp)) _
  rw [hw2]
  clear hw2 t0 t1 t2 t3 t4 t5 ft0 ft1 ft2 ft3 ft4 ft5 z0 z1 z2 z3 z4 z5
  obtain ⟨⟨t0, t1, t2, t3, t4, t5⟩, _⟩ := HB2.out.six
  have z0 : w2.cell? ⟨b, 0, none⟩ = some (.int .i64 K') := (HQ2.out.cell 0).trans D0.out
  have z1 : w2.cell? ⟨b, 1, none⟩ = some (.string T') := (HQ2.out.cell 1).trans D1.out
  have z2 : w2.cell? ⟨b, 2, none⟩ = some (.int .i64 y1) := (HQ2.out.cell 2).trans D2.out
  have z3 : w2.cell? ⟨b, 3, none⟩ = some (.int .i64 y2) := (HQ2.out.cell 3).trans D3.out
  have z4 : w2.cell? ⟨b, 4, none⟩ = some (.string y3) := (HQ2.out.cell 4).trans D4.out
  have z5 : w2.cell? ⟨b, 5, none⟩ = some (.int .i64 0) := (HQ2.out.cell 5).trans D5.out
  by_cases hx : K = K'
  case neg =>
    have hxb : (K == K') = false := by simpa using hx
    have hxb2 : (K' == K) = false := by simpa using (Ne.symm hx)
    have HE := Lib.hid (HX.out.2.1 (at0_ne (fun h => hx (by obtain ⟨h1, h2, h3, h4, h5⟩ := h; assumption))))
    clear hx
    go_quiet (fail)
    rename_i nq
    go_wp2_with fail
    go_ret
    exact ⟨by rw [HE.out]; rfl, HK2.out.drewN nq⟩
  subst hx
  by_cases hx : T = T'
  case neg =>
    have hxb := ba_ne hx
    have hxb2 := ba_ne (Ne.symm hx)
    have hxl := str_ne hx
    have hxl2 := str_ne (Ne.symm hx)
    have hxm : (T.toList == T'.toList) = false := by simpa using hxl
    have hxm2 : (T'.toList == T.toList) = false := by simpa using hxl2
    have HE := Lib.hid (HX.out.2.1 (at0_ne (fun h => hx (by obtain ⟨h1, h2, h3, h4, h5⟩ := h; assumption))))
    clear hx
    go_quiet (fail)
    rename_i nq
    go_wp2_with fail
    go_ret
    exact ⟨by rw [HE.out]; rfl, HK2.out.drewN nq⟩
  subst hx
  by_cases hx : v1 = y1
  case neg =>
    have hxb : (v1 == y1) = false := by simpa using hx
    have hxb2 : (y1 == v1) = false := by simpa using (Ne.symm hx)
    have HE := Lib.hid (HX.out.2.1 (at0_ne (fun h => hx (by obtain ⟨h1, h2, h3, h4, h5⟩ := h; assumption))))
    clear hx
    go_quiet (fail)
    rename_i nq
    go_wp2_with fail
    go_ret
    exact ⟨by rw [HE.out]; rfl, HK2.out.drewN nq⟩
  subst hx
  by_cases hx : v2 = y2
  case neg =>
    have hxb : (v2 == y2) = false := by simpa using hx
    have hxb2 : (y2 == v2) = false := by simpa using (Ne.symm hx)
    have HE := Lib.hid (HX.out.2.1 (at0_ne (fun h => hx (by obtain ⟨h1, h2, h3, h4, h5⟩ := h; assumption))))
    clear hx
    go_quiet (fail)
    rename_i nq
    go_wp2_with fail
    go_ret
    exact ⟨by rw [HE.out]; rfl, HK2.out.drewN nq⟩
  subst hx
  by_cases hx : v3 = y3
  case neg =>
    have hxb := ba_ne hx
    have hxb2 := ba_ne (Ne.symm hx)
    have hxl := str_ne hx
    have hxl2 := str_ne (Ne.symm hx)
    have hxm : (v3.toList == y3.toList) = false := by simpa using hxl
    have hxm2 : (y3.toList == v3.toList) = false := by simpa using hxl2
    have HE := Lib.hid (HX.out.2.1 (at0_ne (fun h => hx (by obtain ⟨h1, h2, h3, h4, h5⟩ := h; assumption))))
    clear hx
    go_quiet (fail)
    rename_i nq
    go_wp2_with fail
    go_ret
    exact ⟨by rw [HE.out]; rfl, HK2.out.drewN nq⟩
  subst hx
  have HE := Lib.hid (HX.out.1 rfl).1
  go_quiet (fail)
  rename_i nq
  go_wp2_with fail
  go_ret
  exact ⟨by rw [HE.out]; rfl, HK2.out.drewN nq⟩

set_option maxRecDepth 100000 in
set_option maxHeartbeats 4000000 in
theorem rCheck_any (t : TokD) (w : World) (hs : t.text.size ≤ maxLen) : Calls Tryd.prog 23 #[tokV t] w fun e w' => e = .returned (.int .i64 (checkV t)) ∧ Kept [] w w' := by
  obtain ⟨K, T, ⟨v1, v2, v3⟩, pl⟩ := t
  obtain ⟨L, hL⟩ : ∃ L, (scanV T).1 = L := ⟨_, rfl⟩
  obtain ⟨p, hp⟩ : ∃ p, (scanV T).2.1 = p := ⟨_, rfl⟩
  obtain ⟨er, her⟩ : ∃ er, (scanV T).2.2 = er := ⟨_, rfl⟩
  have hsc : scanV T = (L, p, er) := by rw [← hL, ← hp, ← her]
  have hlen : L.length ≤ 4096 := by rw [← hL]; exact scanV_len2 T
  obtain ⟨hc1, hc2, hc3⟩ := checkV_of (t := ⟨K, T, (v1, v2, v3), pl⟩) hsc
  have HC1 := Lib.hid hc1
  have HC2 := Lib.hid hc2
  have HC3 := Lib.hid hc3
  have HSC : Hid (∀ W, Kept [] w W → Calls Tryd.prog 9 #[.string T] W (ScanPost W T)) := fun W hk => rScan_any T hs W
  obtain ⟨ans, hans⟩ : ∃ ans, checkV ⟨K, T, (v1, v2, v3), pl⟩ = ans := ⟨_, rfl⟩
  rw [hans] at HC1 HC2 HC3 ⊢
  clear hc1 hc2 hc3 hsc hans
  simp only [tokV]
  have HK0 := Lib.hid ((Kept.refl [] w).alloc (.cells #[.int .i64 K, .string T, .int .i64 v1, .int .i64 v2, .string v3, .int .i64 pl] 40))
  have HB0 := Lib.hid (Blk.new w #[.int .i64 K, .string T, .int .i64 v1, .int .i64 v2, .string v3, .int .i64 pl] 40)
  obtain ⟨⟨t0, t1, t2, t3, t4, t5⟩, ft0, ft1, ft2, ft3, ft4, ft5⟩ := HB0.out.six
  go_enter Tryd.func23, Tryd.ntmps23
  go_wp2_with fail
  refine (HSC.out _ HK0.out).mono ?_
  rintro e w1 ⟨v, rfl, hown, hk⟩
  have HK1 := Lib.hid (HK0.out.trans hk)
  have HB1 := Lib.hid (HB0.out.kept hk (by simp))
  clear t0 t1 t2 t3 t4 t5 ft0 ft1 ft2 ft3 ft4 ft5
  obtain ⟨⟨t0, t1, t2, t3, t4, t5⟩, ft0, ft1, ft2, ft3, ft4, ft5⟩ := HB1.out.six
  rw [hL] at hown
  rw [hp, her]
  obtain ⟨A, c, hAv⟩ := own_len hown
  subst hAv
  have HOWN := Lib.hid hown
  clear hown hk hL hp her
  obtain ⟨n, hn⟩ : ∃ n, L.length = n := ⟨_, rfl⟩
  have HN := Lib.hid hn
  rw [hn] at hlen ⊢
  clear hn
  by_cases he : er = 0
  case neg =>
    have hne : (er == 0) = false := by simpa using he
    have hne2 : (er != 0) = true := by simpa using he
    have HE := Lib.hid (HC1.out he)
    clear he
    go_wp2_with fail
    go_ret
    exact ⟨by rw [HE.out]; rfl, HK1.out⟩
  subst he
  by_cases hn1 : n = 1
  case neg =>
    have hne : ((n : Int) == 1) = false := by simp; omega
    have hne2 : ((n : Int) != 1) = true := by simp; omega
    have HE := Lib.hid (HC2.out (by rw [HN.out]; exact hn1))
    go_wp2_with fail
    go_ret
    exact ⟨by rw [HE.out]; rfl, HK1.out⟩
  subst hn1
  obtain ⟨x, hx⟩ : ∃ x, L = [x] := by
    have := HN.out
    match L, this with
    | [x], _ => exact ⟨x, rfl⟩
  subst hx
  obtain ⟨K', T', ⟨y1, y2, y3⟩, p'⟩ := x
  have HX := Lib.hid (HC3.out _ rfl rfl)
  obtain ⟨b, c', cur, he, hbb, hblk, hcur⟩ := own_blk HOWN.out (by simp)
  injection he with he1 he2 he3
  subst he1 he3
  have HQ1 := Lib.hid hblk
  have hlt := HB0.out.lt
  simp only [World.size_alloc] at hlt hbb
  have d0 : cur[0]? = some (.int .i64 K') := hcur 0 _ rfl
  have d1 : cur[1]? = some (.string T') := hcur 1 _ rfl
  have d2 : cur[2]? = some (.int .i64 y1) := hcur 2 _ rfl
  have d3 : cur[3]? = some (.int .i64 y2) := hcur 3 _ rfl
  have d4 : cur[4]? = some (.string y3) := hcur 4 _ rfl
  have d5 : cur[5]? = some (.int .i64 p') := hcur 5 _ rfl
  have z0 : w1.cell? ⟨b, 0, none⟩ = some (.int .i64 K') := (hblk.cell 0).trans d0
  have z1 : w1.cell? ⟨b, 1, none⟩ = some (.string T') := (hblk.cell 1).trans d1
  have z2 : w1.cell? ⟨b, 2, none⟩ = some (.int .i64 y1) := (hblk.cell 2).trans d2
  have z3 : w1.cell? ⟨b, 3, none⟩ = some (.int .i64 y2) := (hblk.cell 3).trans d3
  have z4 : w1.cell? ⟨b, 4, none⟩ = some (.string y3) := (hblk.cell 4).trans d4
  have z5 : w1.cell? ⟨b, 5, none⟩ = some (.int .i64 p') := (hblk.cell 5).trans d5
  have D0 := Lib.hid d0
  have D1 := Lib.hid d1
  have D2 := Lib.hid d2
  have D3 := Lib.hid d3
  have D4 := Lib.hid d4
  have D5 := Lib.hid d5
  clear d0 d1 d2 d3 d4 d5 hcur he2 hblk
  have hfz : w1.frozen? ⟨b, 5, none⟩ = false := HQ1.out.free 5
  go_upto_region 5 with fail
  obtain ⟨w2, hw2⟩ : ∃ w2, w1.setCell ⟨b, 5, none⟩ (.int .i64 pl) = w2 := ⟨_, rfl⟩
  have HB2 : Hid (Blk w2 w.heap.size #[.int .i64 K, .string T, .int .i64 v1, .int .i64 v2, .string v3, .int .i64 pl] 40) := by show Blk _ _ _ _; rw [← hw2]; exact HB1.out.set_other (by simp; omega) _
  have HQ2 : Hid (Blk w2 b (cur.setIfInBounds 5 (.int .i64 pl)) 40) := by show Blk _ _ _ _; rw [← hw2]; exact HQ1.out.set 5 _
  have HK2 : Hid (Kept [] w w2) := by show Kept _ _ _; rw [← hw2]; exact HK1.out.setCell (.inr (by simp; omega)) _
  rw [hw2]
  clear hw2 t0 t1 t2 t3 t4 t5 ft0 ft1 ft2 ft3 ft4 ft5 z0 z1 z2 z3 z4 z5 hfz
  obtain ⟨⟨t0, t1, t2, t3, t4, t5⟩, _⟩ := HB2.out.six
  have z0 : w2.cell? ⟨b, 0, none⟩ = some (.int .i64 K') := (HQ2.out.cell 0).trans (by rw [Array.getElem?_setIfInBounds_ne (by decide)]; exact D0.out)
  have z1 : w2.cell? ⟨b, 1, none⟩ = some (.string T') := (HQ2.out.cell 1).trans (by rw [Array.getElem?_setIfInBounds_ne (by decide)]; exact D1.out)
  have z2 : w2.cell? ⟨b, 2, none⟩ = some (.int .i64 y1) := (HQ2.out.cell 2).trans (by rw [Array.getElem?_setIfInBounds_ne (by decide)]; exact D2.out)
  have z3 : w2.cell? ⟨b, 3, none⟩ = some (.int .i64 y2) := (HQ2.out.cell 3).trans (by rw [Array.getElem?_setIfInBounds_ne (by decide)]; exact D3.out)
  have z4 : w2.cell? ⟨b, 4, none⟩ = some (.string y3) := (HQ2.out.cell 4).trans (by rw [Array.getElem?_setIfInBounds_ne (by decide)]; exact D4.out)
  have z5 : w2.cell? ⟨b, 5, none⟩ = some (.int .i64 pl) := (HQ2.out.cell 5).trans (by
    have h5 : 5 < cur.size := (Array.getElem?_eq_some_iff.1 D5.out).1
    rw [Array.getElem?_setIfInBounds_self_of_lt h5])
  by_cases hx : K = K'
  case neg =>
    have hxb : (K == K') = false := by simpa using hx
    have hxb2 : (K' == K) = false := by simpa using (Ne.symm hx)
    have HE := Lib.hid (HX.out.2.1 (at0_ne (fun h => hx (by obtain ⟨h1, h2, h3, h4, h5⟩ := h; assumption))))
    clear hx
    go_quiet (fail)
    rename_i nq
    go_wp2_with fail
    go_ret
    exact ⟨by rw [HE.out]; rfl, HK2.out.drewN nq⟩
  subst hx
  by_cases hx : T = T'
  case neg =>
    have hxb := ba_ne hx
    have hxb2 := ba_ne (Ne.symm hx)
    have hxl := str_ne hx
    have hxl2 := str_ne (Ne.symm hx)
    have hxm : (T.toList == T'.toList) = false := by simpa using hxl
    have hxm2 : (T'.toList == T.toList) = false := by simpa using hxl2
    have HE := Lib.hid (HX.out.2.1 (at0_ne (fun h => hx (by obtain ⟨h1, h2, h3, h4, h5⟩ := h; assumption))))
    clear hx
    go_quiet (fail)
    rename_i nq
    go_wp2_with fail
    go_ret
    exact ⟨by rw [HE.out]; rfl, HK2.out.drewN nq⟩
  subst hx
  by_cases hx : v1 = y1
  case neg =>
    have hxb : (v1 == y1) = false := by simpa using hx
    have hxb2 : (y1 == v1) = false := by simpa using (Ne.symm hx)
    have HE := Lib.hid (HX.out.2.1 (at0_ne (fun h => hx (by obtain ⟨h1, h2, h3, h4, h5⟩ := h; assumption))))
    clear hx
    go_quiet (fail)
    rename_i nq
    go_wp2_with fail
    go_ret
    exact ⟨by rw [HE.out]; rfl, HK2.out.drewN nq⟩
  subst hx
  by_cases hx : v2 = y2
  case neg =>
    have hxb : (v2 == y2) = false := by simpa using hx
    have hxb2 : (y2 == v2) = false := by simpa using (Ne.symm hx)
    have HE := Lib.hid (HX.out.2.1 (at0_ne (fun h => hx (by obtain ⟨h1, h2, h3, h4, h5⟩ := h; assumption))))
    clear hx
    go_quiet (fail)
    rename_i nq
    go_wp2_with fail
    go_ret
    exact ⟨by rw [HE.out]; rfl, HK2.out.drewN nq⟩
  subst hx
  by_cases hx : v3 = y3
  case neg =>
    have hxb := ba_ne hx
    have hxb2 := ba_ne (Ne.symm hx)
    have hxl := str_ne hx
    have hxl2 := str_ne (Ne.symm hx)
    have hxm : (v3.toList == y3.toList) = false := by simpa using hxl
    have hxm2 : (y3.toList == v3.toList) = false := by simpa using hxl2
    have HE := Lib.hid (HX.out.2.1 (at0_ne (fun h => hx (by obtain ⟨h1, h2, h3, h4, h5⟩ := h; assumption))))
    clear hx
    go_quiet (fail)
    rename_i nq
    go_wp2_with fail
    go_ret
    exact ⟨by rw [HE.out]; rfl, HK2.out.drewN nq⟩
  subst hx
  have HE := Lib.hid (HX.out.1 rfl).1
  go_quiet (fail)
  rename_i nq
  go_wp2_with fail
  go_ret
  exact ⟨by rw [HE.out]; rfl, HK2.out.drewN nq⟩

end Go.Proofs.YtmkpbffjgpoplaaDoor

/- Each word stands at its place: the law's walk. -/
set_option linter.unusedVariables false
set_option linter.unusedSimpArgs false
set_option linter.unnecessarySimpa false
namespace Go.Proofs.YtmkpbffjgpoplaaDoor
open Go.RowKit Go.Shelf
attribute [local go_sem] Oper.semAt_some

theorem places_step {s : ByteArray} {L : List TokD} {i k p : Nat} (h : WRel s (L.take i) k (blankV s k)) (hw : wordsV s 0 = (L, p)) (hi : i < L.length) : ∃ t, L[i]? = some t ∧ blankV s k < s.size ∧ wordO s (blankV s k) = some t ∧ WRel s (L.take (i + 1)) (blankV s k + t.text.size) (blankV s (blankV s k + t.text.size)) := by
  have h4 := h.2.2.2
  rw [hw] at h4
  injection h4 with h4 _
  have hd : (wordsV s k).1 = L.drop i := by
    have := congrArg (List.drop i) h4
    rw [List.drop_append_of_le_length (by rw [List.length_take]; omega), List.drop_take_self, List.nil_append] at this
    exact this.symm
  rw [List.drop_eq_getElem_cons hi] at hd
  by_cases hlt : blankV s k < s.size
  · cases ho : wordO s (blankV s k) with
    | none => rw [wordsV_none h.1 (fun _ => ho)] at hd; cases hd
    | some y =>
      rw [wordsV_step h.1 hlt ho] at hd
      injection hd with hd _
      subst hd
      have hst := (h.step rfl hlt ho).1
      refine ⟨_, List.getElem?_eq_getElem hi, hlt, rfl, ?_⟩
      rw [List.take_succ_eq_append_getElem hi]
      exact hst
  · rw [wordsV_none h.1 (fun hh => absurd hh hlt)] at hd; cases hd
theorem places_end {s : ByteArray} {L : List TokD} {k p : Nat} (h : WRel s (L.take L.length) k (blankV s k)) (hw : wordsV s 0 = (L, p)) : blankV s k = p := by
  rw [List.take_length] at h
  have h4 := h.2.2.2
  rw [hw] at h4
  injection h4 with h4 h5
  have hd : (wordsV s k).1 = [] := by
    have := congrArg List.length h4
    rw [List.length_append] at this
    exact List.eq_nil_of_length_eq_zero (by omega)
  by_cases hlt : blankV s k < s.size
  · cases ho : wordO s (blankV s k) with
    | none => rw [wordsV_none h.1 (fun _ => ho)] at h5; exact h5.symm
    | some y => rw [wordsV_step h.1 hlt ho] at hd; cases hd
  · rw [wordsV_none h.1 (fun hh => absurd hh hlt)] at h5; exact h5.symm
theorem pre_at {s : ByteArray} {k : Nat} {t : TokD} (hk : k < s.size) (ho : wordO s k = some t) : preB (s.extract k s.size) t.text = true := by
  have ht := wordO_text hk ho
  rw [preB_iff]
  refine ⟨by rw [size_from s (by omega)]; omega, ?_⟩
  rw [extract_from s (by omega) (by omega), Nat.add_zero]
  exact ht.2.2.2.symm
theorem str_some {x : ByteArray} (h : 0 < x.size) : x.toList.isEmpty = false := by
  rw [ByteArray.toList_eq]
  cases hx : x.data.toList with
  | nil =>
    have h2 : x.size = x.data.toList.length := by rw [Array.length_toList]; rfl
    have h3 : x.size = 0 := by rw [h2, hx]; rfl
    omega
  | cons a l => rfl

set_option maxRecDepth 100000 in
set_option maxHeartbeats 4000000 in
theorem lawPlaces_any (s : ByteArray) (hs : s.size ≤ 140737488351232) (w : World) (hv : Vars w) : Calls Tryd.prog 5 #[.string s] w fun e w' => e = .returned (.bool true) ∧ Kept [] w w' := by
  obtain ⟨L, hL⟩ : ∃ L, (scanV s).1 = L := ⟨_, rfl⟩
  obtain ⟨p, hp⟩ : ∃ p, (scanV s).2.1 = p := ⟨_, rfl⟩
  obtain ⟨er, her⟩ : ∃ er, (scanV s).2.2 = er := ⟨_, rfl⟩
  have hsc : scanV s = (L, p, er) := by rw [← hL, ← hp, ← her]
  have hlen : L.length ≤ 4096 := by rw [← hL]; exact scanV_len2 s
  have HSC : Hid (∀ W, Kept [] w W → Calls Tryd.prog 8 #[.string s] W (ScanPost W s)) := fun W hk => lScan_any s W (hv.keep hk)
  have HSV := Lib.hid hsc
  clear hsc
  go_enter Tryd.func5, Tryd.ntmps5
  go_wp2_with fail
  refine (HSC.out _ (Kept.refl _ _)).mono ?_
  rintro e w1 ⟨v, rfl, hown, hk⟩
  have HK1 := Lib.hid hk
  rw [hL] at hown
  rw [hp, her]
  have HR1 := Lib.hid (RdT.of_own hown (by omega))
  obtain ⟨A, c, hAv⟩ := own_len hown
  subst hAv
  clear hown hk hL hp her
  obtain ⟨n, hn⟩ : ∃ n, L.length = n := ⟨_, rfl⟩
  have HN := Lib.hid hn
  rw [hn] at hlen HR1 ⊢
  clear hn
  by_cases he : er = 0
  case neg =>
    have hne : (er == 0) = false := by simpa using he
    have hne2 : (er != 0) = true := by simpa using he
    clear he
    go_wp2_with fail
    refine (live_any _ (hv.keep HK1.out)).mono ?_
    rintro e w2 ⟨rfl, hk2⟩
    have HK2 := Lib.hid (HK1.out.trans hk2)
    clear hk2
    go_wp2_with fail
    go_ret
    exact ⟨rfl, HK2.out⟩
  subst he
  obtain ⟨hsz, hwv, hp0⟩ := scan_parts HSV.out
  have HWV := Lib.hid hwv
  obtain ⟨z, hz⟩ : ∃ z, s.size = z := ⟨_, rfl⟩
  have HZ := Lib.hid hz
  have hl := len_at s hz
  have HBK : Hid (∀ (k : Nat) W, k ≤ z → Calls Tryd.prog 15 #[.string s, .int .i64 k] W fun e w' => e = .returned (.int .i64 (blankV s k)) ∧ W = w') := fun k W h => lBlank_in s k (by omega) (by omega) W
  have HB0 : Hid (∀ W, Calls Tryd.prog 15 #[.string s, .int .i64 0] W fun e w' => e = .returned (.int .i64 (blankV s 0)) ∧ W = w') := fun W => HBK.out 0 W (Nat.zero_le _)
  rw [hz] at hsz
  clear hwv hp0 hz hs
  go_wp2_with fail
  refine (live_any _ (hv.keep HK1.out)).mono ?_
  rintro e w2 ⟨rfl, hk2⟩
  have HK2 := Lib.hid (HK1.out.trans hk2)
  have HR2 := Lib.hid (HR1.out.keep hk2)
  clear hk2
  go_wp2_with fail
  refine (HB0.out w2).mono ?_
  rintro e w3 ⟨rfl, hw3⟩
  have HK3 : Hid (Kept [] w w3) := by show Kept _ _ _; rw [← hw3]; exact HK2.out
  have HR3 : Hid (RdT w3 (.slice A n c) L) := by show RdT _ _ _; rw [← hw3]; exact HR2.out
  clear hw3
  go_wp2_with fail
  go_loopw [6, 26] (fun at_ ii wr => ∃ (i k : Nat), ii = .int .i64 i ∧ at_ = .int .i64 (blankV s k) ∧ i ≤ n ∧ WRel s (L.take i) k (blankV s k) ∧ Kept [] w3 wr) (fun at_ ii _ => n - (intOf ii).toNat)
  case atStart => exact ⟨0, 0, rfl, rfl, Nat.zero_le _, WRel.start s, Kept.refl _ _⟩
  case round =>
    obtain ⟨i, k, rfl, rfl, hi, hrl, hK⟩ := hrel
    have HK := Lib.hid hK
    have hb0 := blankV_bd s hrl.1
    rw [HZ.out] at hb0
    by_cases hlt : i < n
    · obtain ⟨t, hg, hbl, ho, hst⟩ := places_step hrl HWV.out (by rw [HN.out]; exact hlt)
      have htx := wordO_text hbl ho
      have hpre := pre_at hbl ho
      have has : (blankV s k : Int) ≤ (s.size : Int) := by omega
      rw [HZ.out] at hbl htx
      obtain ⟨K, T, ⟨v1, v2, v3⟩, pl⟩ := t
      simp only at htx hpre hst
      have hpl : pl = (blankV s k : Int) := htx.1
      subst hpl
      have hT1 := htx.2.1
      have hT2 := htx.2.2.1
      obtain ⟨a, ha⟩ : ∃ a, blankV s k = a := ⟨_, rfl⟩
      rw [ha] at hst hbl hT2 hpre ho hb0 hg has ⊢
      have hne := str_some hT1
      have hlT := len_at T rfl
      have HST := Lib.hid hst
      have HPR : Hid (∀ W, Calls Tryd.prog 19 #[.string (s.extract a s.size), .string T] W fun e w' => e = .returned (.bool true) ∧ W = w') := fun W => (Tryd.strings_HasPrefix (s.extract a s.size) T W).mono fun e w' ⟨h1, h2⟩ => ⟨h1.trans (by rw [show Lib.hasPrefix _ _ = true from hpre]), h2.symm⟩
      obtain ⟨A', c', he, _, hcell⟩ := HR3.out.keep hK
      obtain ⟨b, rfl, hcc⟩ := hcell (by rintro rfl; simp at hg)
      injection he with he1 he2 he3
      subst he1 he3
      have z0 : wr.cell? ⟨b, i * 6, none⟩ = some (.int .i64 K) := hcc i _ hg 0 _ rfl
      have z1 : wr.cell? ⟨b, i * 6 + 1, none⟩ = some (.string T) := hcc i _ hg 1 _ rfl
      have z2 : wr.cell? ⟨b, i * 6 + 2, none⟩ = some (.int .i64 v1) := hcc i _ hg 2 _ rfl
      have z3 : wr.cell? ⟨b, i * 6 + 3, none⟩ = some (.int .i64 v2) := hcc i _ hg 3 _ rfl
      have z4 : wr.cell? ⟨b, i * 6 + 4, none⟩ = some (.string v3) := hcc i _ hg 4 _ rfl
      have z5 : wr.cell? ⟨b, i * 6 + 5, none⟩ = some (.int .i64 a) := hcc i _ hg 5 _ rfl
      clear hcc hcell he2 hg hst hpre ho htx hrl hK ha
      go_upto_region 8 with fail
      obtain ⟨w4, hw4⟩ : ∃ w4, wr.alloc (.cells #[.int .i64 K, .string T, .int .i64 v1, .int .i64 v2, .string v3, .int .i64 a] 40) = w4 := ⟨_, rfl⟩
      have HB4 : Hid (Blk w4 wr.heap.size #[.int .i64 K, .string T, .int .i64 v1, .int .i64 v2, .string v3, .int .i64 a] 40) := by show Blk _ _ _ _; rw [← hw4]; exact Blk.new wr _ _
      have HK4 : Hid (Kept [] w3 w4) := by show Kept _ _ _; rw [← hw4]; exact HK.out.alloc _
      rw [hw4]
      clear hw4 z0 z1 z2 z3 z4 z5
      have x1 : ∀ q : SW (Kept [] w4), q.to.cell? ⟨wr.heap.size, 1, none⟩ = some (.string T) := fun q => q.ok.cell (by simp) HB4.out.six.1.2.1
      have x5 : ∀ q : SW (Kept [] w4), q.to.cell? ⟨wr.heap.size, 5, none⟩ = some (.int .i64 a) := fun q => q.ok.cell (by simp) HB4.out.six.1.2.2.2.2.2
      refine wp_region_sw (Kept [] w4) (stays_kept w4) (Kept.refl _ _) (by kernel_rfl) (by kernel_rfl) (fun hne => ?_)
      repeat (go_big_quiet_step ((go_at_call 19; exact SW.calls_same (HPR.out _))))
      refine wpQuiet_nil ?_
      intro w5 hs5
      have HK5 := Lib.hid (HK4.out.trans hs5)
      have z1 := hs5.cell (by simp) HB4.out.six.1.2.1
      clear hs5 x1 x5
      have hw1 : wrap64 ((a : Int) + (T.size : Int)) = ((a + T.size : Nat) : Int) := by unfold wrap64; omega
      have hw2 : IntKind.i64.wrap ((a : Int) + (T.size : Int)) = ((a + T.size : Nat) : Int) := by unfold IntKind.wrap; simp [IntKind.signed, IntKind.bits]; omega
      go_wp2_with fail
      refine (HBK.out (a + T.size) _ hT2).mono ?_
      rintro e w6 ⟨rfl, hw6⟩
      have HK6 : Hid (Kept [] w3 w6) := by show Kept _ _ _; rw [← hw6]; exact HK5.out
      clear hw6 z1
      go_wp2_with fail
      go_roundw
      case rel => exact ⟨i + 1, a + T.size, by go_num, rfl, by omega, HST.out, HK6.out⟩
      case measure => simp [intOf]; omega
    · have hin : i = L.length := by rw [HN.out]; omega
      rw [hin] at hrl
      have hend := places_end hrl HWV.out
      rw [HZ.out] at hend
      have hz2 : ((blankV s k : Nat) : Int) = (z : Int) := by omega
      go_wp2_with fail
      go_ret
      exact ⟨rfl, HK3.out.trans HK.out⟩

theorem places_row (w : World) (hL : laidMetH Tryd.prog Rows.lexPlacesRow.laid w) (s : ByteArray) (hs : s.size ≤ 140737488351232) :
    Calls Tryd.prog 5 #[.string s] w fun e w' => e = .returned (.bool true) ∧ Below w.heap.size w w' :=
  (lawPlaces_any s hs w (vars_of_laid hL)).mono fun e w' ⟨he, hk⟩ => ⟨he, hk.below⟩

end Go.Proofs.YtmkpbffjgpoplaaDoor

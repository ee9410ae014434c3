/- The words of a text: the document's. -/
import Derived.Maps.AppendAt
import Derived.Laws.AppendOwnNone
import Derived.Deep.AppendLies
import Derived.Test.YtmkpbffjgpoplaaDoorRows
import Derived.WalkKit
import Derived.WalkSpells
import Derived.WalkLawsBesides
import Derived.Deep.QuietTactic
import Derived.BigQuiet
import Derived.Lib.Hide
import Derived.Lib.ConvBytes
import Derived.Deep.Slices
import Derived.ProofKit
import Derived.SizedLaws
import Derived.Test.YtmkpbffjgpoplaaDoorShelf
import Derived.Laws.BytesArg
import Derived.Laws.BitsLemmas
import Derived.Deep.RegionHeld3
import Derived.Lib.ItoaLen
import Derived.Laws.Runes
import Derived.Laws.Concat
import Derived.Laws.Cover4
import Derived.Lib.SmallJoins
import Derived.Deep.DeepCutAuto
import Derived.Test.YtmkpbffjgpoplaaDoorE4
import Derived.Test.YtmkpbffjgpoplaaDoorE9
set_option linter.unusedVariables false
set_option linter.unusedSimpArgs false
set_option linter.unnecessarySimpa false
namespace Go.Proofs.YtmkpbffjgpoplaaDoor
open Go.RowKit Go.Shelf
attribute [local go_sem] Oper.semAt_some

/-- The cells of words. -/
def cT (L : List TokD) : List Value := L.flatMap tokC
theorem cT_app (L : List TokD) (t : TokD) : cT (L ++ [t]) = cT L ++ tokC t := by unfold cT; simp
theorem cell_six_new (w : World) (a b c d e f : Value) (T : TypeId) : ∀ j u, [a, b, c, d, e, f][j]? = some u → (w.alloc (.cells #[a, b, c, d, e, f] T)).cell? ((⟨w.heap.size, 0, none⟩ : Addr).add j) = some u := by
  intro j u h
  have ha : ((⟨w.heap.size, 0, none⟩ : Addr).add j) = ⟨w.heap.size, j, none⟩ := by unfold Addr.add; split <;> simp_all
  rw [ha, (Blk.new w _ _).cell j]
  simpa using h
theorem infoTok : (Tryd.prog.info? 40).map (fun i => (i.zero, i.size, i.bytes)) = some (some (.agg #[.int .i64 0, .string { data := #[] }, .int .i64 0, .int .i64 0, .string { data := #[] }, .int .i64 0]), 6, 64) := by kernel_rfl
/-- What Words hands back. -/
def WordsPost (w : World) (s : ByteArray) (e : Ending) (w' : World) : Prop := ∃ v, e = .returned (.tuple #[v, .int .i64 (wordsV s 0).2]) ∧ w'.ownsRow w.heap.size 40 6 v (wordsV s 0).1.length (cT (wordsV s 0).1) ∧ Kept [] w w'
/-- How far the words have been taken. -/
def WRel (s : ByteArray) (L : List TokD) (k p : Nat) : Prop := k ≤ s.size ∧ p = blankV s k ∧ L.length ≤ k ∧ wordsV s 0 = (L ++ (wordsV s k).1, (wordsV s k).2)
theorem WRel.start (s : ByteArray) : WRel s [] 0 (blankV s 0) := ⟨Nat.zero_le _, rfl, Nat.le_refl _, by simp⟩
theorem WRel.le {s : ByteArray} {L : List TokD} {k p n : Nat} (h : WRel s L k p) (hn : s.size = n) : p ≤ n ∧ L.length ≤ p := by
  obtain ⟨h1, rfl, h2, _⟩ := h
  have := blankV_bd s h1
  omega
theorem WRel.step {s : ByteArray} {L : List TokD} {k p n : Nat} {t : TokD} (h : WRel s L k p) (hn : s.size = n) (hp : p < n) (ho : wordO s p = some t) : WRel s (L ++ [t]) (p + t.text.size) (blankV s (p + t.text.size)) ∧ p + t.text.size ≤ n ∧ 1 ≤ t.text.size := by
  obtain ⟨h1, rfl, h2, h3⟩ := h
  have hb := blankV_bd s h1
  have ht := wordO_text (by omega) ho
  refine ⟨⟨ht.2.2.1, rfl, by rw [List.length_append]; simp; omega, ?_⟩, by omega, ht.2.1⟩
  rw [h3, wordsV_step h1 (by omega) ho]
  simp
theorem WRel.stop {s : ByteArray} {L : List TokD} {k p n : Nat} (h : WRel s L k p) (hn : s.size = n) (hp : p < n → wordO s p = none) : wordsV s 0 = (L, p) := by
  obtain ⟨h1, rfl, h2, h3⟩ := h
  rw [h3, wordsV_none h1 (fun hb => hp (by omega))]
  simp
theorem WordsPost.of {w w' : World} {s : ByteArray} {L : List TokD} {p : Nat} {v : Value} {x : Int} (h : wordsV s 0 = (L, p)) (hx : x = p) (ho : w'.ownsRow w.heap.size 40 6 v L.length (cT L)) (hk : Kept [] w w') : WordsPost w s (.returned (.tuple #[v, .int .i64 x])) w' := by
  subst hx
  refine ⟨v, ?_, ?_, hk⟩
  · rw [h]
  · rw [h]; exact ho

set_option maxRecDepth 100000 in
set_option maxHeartbeats 8000000 in
theorem rWords_any (s : ByteArray) (hs : s.size ≤ 4096) (w : World) : Calls Tryd.prog 12 #[.string s] w (WordsPost w s) := by
  obtain ⟨i0, hi0, hz0, hz1, hz2⟩ := info_parts infoTok
  have HBK : Hid (∀ (k : Nat) (W : World), k ≤ s.size → Calls Tryd.prog 16 #[.string s, .int .i64 k] W fun e w' => e = .returned (.int .i64 (blankV s k)) ∧ W = w') := fun k W h => rBlank_in s k h (by omega) W
  have HB0 : Hid (∀ (W : World), Calls Tryd.prog 16 #[.string s, .int .i64 0] W fun e w' => e = .returned (.int .i64 (blankV s 0)) ∧ W = w') := fun W => HBK.out 0 W (Nat.zero_le _)
  have HON : Hid (∀ (k : Nat) (W : World), k < s.size → Calls Tryd.prog 24 #[.string s, .int .i64 k] W (OnePost W (wordO s k))) := fun k W h => rone_any s k h (by omega) W
  obtain ⟨n, hn⟩ : ∃ n, s.size = n := ⟨_, rfl⟩
  have HN := Lib.hid hn
  have hl := len_at s hn
  have HST := Lib.hid (WRel.start s)
  rw [hn] at hs
  clear hn
  go_enter Tryd.func12, Tryd.ntmps12
  go_wp2_with fail
  refine (HB0.out _).mono ?_
  rintro e w1 ⟨rfl, rfl⟩
  obtain ⟨p0, hp0⟩ : ∃ p0, blankV s 0 = p0 := ⟨_, rfl⟩
  rw [hp0] at HST ⊢
  clear hp0
  go_wp2_with fail
  go_loopw [4, 5] (fun o ii wr => ∃ (L : List TokD) (k p : Nat), ii = .int .i64 p ∧ WRel s L k p ∧ wr.ownsRow w.heap.size 40 6 o L.length (cT L) ∧ Kept [] w wr) (fun _ ii _ => n - (intOf ii).toNat)
  case atStart => exact ⟨[], 0, p0, rfl, HST.out, World.ownsRow_nil _ _ _ _, Kept.refl _ _⟩
  case round =>
    obtain ⟨L, k, p, rfl, hr, hown, hK⟩ := hrel
    have HR := Lib.hid hr
    have hpn := (hr.le HN.out).1
    have hLp := (hr.le HN.out).2
    obtain ⟨AA, cc, rfl⟩ := own_len hown
    have HOWN := Lib.hid hown
    have HAT : Hid (∀ x, (Value.slice AA L.length cc).ownBlock = some x → w.heap.size ≤ x) := fun x hx => (hown.lt x hx).1
    have HK := Lib.hid hK
    have hsz := hK.size
    obtain ⟨ML, hML⟩ : ∃ ML, L.length = ML := ⟨_, rfl⟩
    rw [hML] at HOWN HAT hLp
    rw [hML]
    have HML := Lib.hid hML
    clear hr hown hK hML
    by_cases hlt : p < n
    · have HO1 := Lib.hid (fun W => HON.out p W (by rw [HN.out]; exact hlt))
      go_wp2_with fail
      refine (HO1.out _).mono ?_
      rintro e w2 ⟨⟨K, T, ⟨v1, v2, v3⟩, pl⟩, b, rfl, hm, hk2⟩
      have HK2 := Lib.hid (HK.out.trans hk2)
      have HOWN2 := Lib.hid (ownsRow_of_kept HOWN.out hk2 (by simp))
      have hsz2 := hk2.size
      have HB2 := Lib.hid (Blk.new w2 #[.int .i64 K, .string T, .int .i64 v1, .int .i64 v2, .string v3, .int .i64 pl] 40)
      clear hk2
      simp only [tokV]
      cases ho : wordO s p with
      | none =>
        rw [ho] at hm
        simp only at hm
        subst hm
        have HE := Lib.hid (HR.out.stop HN.out (fun _ => ho))
        clear ho
        go_wp2_with fail
        go_ret2
        exact WordsPost.of HE.out rfl (by rw [HML.out]; exact HOWN2.out.alloc _) (HK2.out.alloc _)
      | some t =>
        rw [ho] at hm
        simp only at hm
        obtain ⟨rfl, rfl⟩ := hm
        obtain ⟨hst, hle, hge⟩ := HR.out.step HN.out hlt ho
        simp only at hst hle hge
        have HST2 := Lib.hid hst
        clear ho hst
        have HBN : Hid (∀ W, Calls Tryd.prog 16 #[.string s, .int .i64 ((p : Int) + (T.size : Int))] W fun e w' => e = .returned (.int .i64 (blankV s (p + T.size))) ∧ W = w') := fun W => by
          have h := HBK.out (p + T.size) W (by rw [HN.out]; exact hle)
          rw [show ((p + T.size : Nat) : Int) = (p : Int) + (T.size : Int) by omega] at h
          exact h
        go_wp2_with (at_builtin; refine wpList_append_own_at _ rfl _ _ 22 rfl w.heap.size 40 i0 (.agg #[.int .i64 0, .string { data := #[] }, .int .i64 0, .int .i64 0, .string { data := #[] }, .int .i64 0]) 6 64 Tryd.underlying22 hi0 hz0 hz1 hz2 rfl (by decide) _ ML (cT L) rfl ((World.ownsRow.alloc HOWN2.out _).alloc _) ⟨w2.heap.size + 1, 0, none⟩ 1 1 [.int .i64 K, .string T, .int .i64 v1, .int .i64 v2, .string v3, .int .i64 pl] rfl rfl (by have h := cell_six_new (w2.alloc (.cells #[.int .i64 K, .string T, .int .i64 v1, .int .i64 v2, .string v3, .int .i64 pl] 40)) (.int .i64 K) (.string T) (.int .i64 v1) (.int .i64 v2) (.string v3) (.int .i64 pl) 40; simpa using h) (by simp [Value.oneCell']) (by unfold maxLen; omega) (by omega) (by simp; omega) ?_)
        intro v' w5 hown5 hgrow5 _ hat5
        have HK5 : Hid (Kept [] w w5) := ((HK2.out.alloc _).alloc _).grown hgrow5 (fun x hx => .inr (by have := HAT.out x hx; omega))
        have hc1 : w5.cell? ⟨w2.heap.size, 1, none⟩ = some (.string T) := hgrow5.cell ((HB2.out.alloc _).cell 1) (fun e => absurd (HOWN2.out.lt _ e.symm).2 (Nat.lt_irrefl _))
        have HOWN5 := Lib.hid hown5
        clear hown5 hgrow5 hat5
        have hTn : (T.size : Int) ≤ 4096 := by omega
        go_wp2_with fail
        refine (HBN.out _).mono ?_
        rintro e w6 ⟨rfl, rfl⟩
        obtain ⟨q, hq⟩ : ∃ q, blankV s (p + T.size) = q := ⟨_, rfl⟩
        rw [hq] at HST2 ⊢
        clear hq hc1
        have hqn := HST2.out.le HN.out
        have hpq : p + 1 ≤ q := by
          have h1 := HST2.out.2.1
          have h2 := blankV_bd s HST2.out.1
          omega
        go_wp2_with fail
        go_roundw
        case rel => exact ⟨L ++ [⟨K, T, (v1, v2, v3), pl⟩], p + T.size, q, rfl, HST2.out, by rw [cT_app, List.length_append, HML.out]; exact HOWN5.out, HK5.out⟩
        case measure => simp [intOf]; omega
    · have HE := Lib.hid (HR.out.stop HN.out (fun h => absurd h hlt))
      have hpe : (n : Int) = (p : Int) := by omega
      go_wp2_with fail
      go_ret2
      exact WordsPost.of HE.out (by omega) (by rw [HML.out]; exact HOWN.out) HK.out

end Go.Proofs.YtmkpbffjgpoplaaDoor

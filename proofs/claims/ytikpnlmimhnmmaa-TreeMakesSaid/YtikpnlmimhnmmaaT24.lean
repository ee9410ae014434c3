/- No way to the root is longer than there are nodes; what up answers. -/
import Derived.Test.YtikpnlmimhnmmaaT20
set_option linter.unusedVariables false
set_option linter.unusedSimpArgs false
set_option linter.unnecessarySimpa false
namespace Go.Proofs.Ytikpnlmimhnmmaa
open Go.RowKit Tr
namespace Tr

theorem nodup_len : ∀ (n : Nat) (l : List Int), l.Nodup → (∀ x ∈ l, inB n x) → l.length ≤ n
  | 0, l, _, h => by
    cases l with
    | nil => simp
    | cons x l => have := h x (by simp); unfold inB at this; omega
  | n + 1, l, hn, h => by
    by_cases hm : (n : Int) ∈ l
    · have h1 := nodup_len n (l.erase n) (hn.erase _) (fun x hx => by
        have h2 := h x (List.mem_of_mem_erase hx)
        have h3 : x ≠ n := by
          rintro rfl
          exact (List.Nodup.not_mem_erase hn) hx
        unfold inB at *; omega)
      rw [List.length_erase_of_mem hm] at h1
      omega
    · have h1 := nodup_len n l hn (fun x hx => by
        have h2 := h x hx
        have h3 : x ≠ n := by rintro rfl; exact hm hx
        unfold inB at *; omega)
      omega
theorem climbs_eq {P : List Int} {f g : Nat} {i : Int} {k m : Nat} (h : climbs P f i = some k) (h' : climbs P g i = some m) : k = m := by
  rcases Nat.le_total f g with hh | hh
  · have := climbs_more P f g i k h hh; rw [this] at h'; exact Option.some.inj h'
  · have := climbs_more P g f i m h' hh; rw [this] at h; exact (Option.some.inj h).symm
theorem up_climbs {P : List Int} (hr : ∀ i, inB P.length i → par P i = -1 ∨ inB P.length (par P i)) : ∀ (f : Nat) (i : Int) (k : Nat), inB P.length i → climbs P f i = some k →
    (up P f i).length = k + 1 ∧ (∀ x ∈ up P f i, inB P.length x ∧ ∃ m, m ≤ k ∧ climbs P (m + 1) x = some m) ∧ (up P f i).Nodup
  | 0, i, k, hi, h => by simp [climbs] at h
  | f + 1, i, k, hi, h => by
    rw [climbs] at h
    rw [up]
    by_cases hp : par P i < 0
    · rw [if_pos hp] at h ⊢
      have hk : k = 0 := (Option.some.inj h).symm
      subst hk
      refine ⟨rfl, fun x hx => ?_, by simp⟩
      have hx' : x = i := by simpa using hx
      subst hx'
      exact ⟨hi, 0, Nat.le_refl _, by rw [climbs, if_pos hp]⟩
    · rw [if_neg hp] at h ⊢
      have hpi : inB P.length (par P i) := by
        rcases hr i hi with h1 | h1
        · omega
        · exact h1
      obtain ⟨k', hk', rfl⟩ : ∃ k', climbs P f (par P i) = some k' ∧ k = k' + 1 := by
        cases hc : climbs P f (par P i) with
        | none => rw [hc] at h; simp at h
        | some k' => rw [hc] at h; simp at h; exact ⟨k', rfl, by omega⟩
      obtain ⟨h1, h2, h3⟩ := up_climbs hr f (par P i) k' hpi hk'
      have hci : climbs P (k' + 1 + 1) i = some (k' + 1) := by
        rw [climbs, if_neg hp, climbs_less P k' (k' + 1) (par P i) f hk' (by omega)]; rfl
      refine ⟨by simp [h1], fun x hx => ?_, ?_⟩
      · rcases List.mem_cons.1 hx with rfl | hx
        · exact ⟨hi, k' + 1, Nat.le_refl _, hci⟩
        · obtain ⟨g1, m, g2, g3⟩ := h2 x hx
          exact ⟨g1, m, by omega, g3⟩
      · rw [List.nodup_cons]
        refine ⟨fun hm => ?_, h3⟩
        obtain ⟨_, m, g2, g3⟩ := h2 i hm
        have := climbs_eq hci g3
        omega
theorem climbs_lt {P : List Int} (hr : ∀ i, inB P.length i → par P i = -1 ∨ inB P.length (par P i)) {f : Nat} {i : Int} {k : Nat} (hi : inB P.length i) (h : climbs P f i = some k) : k < P.length := by
  obtain ⟨h1, h2, h3⟩ := up_climbs hr f i k hi h
  have := nodup_len P.length _ h3 (fun x hx => (h2 x hx).1)
  omega
theorem climbs_plus {P : List Int} (hr : ∀ i, inB P.length i → par P i = -1 ∨ inB P.length (par P i)) {i : Int} (hi : inB P.length i) : climbs P (P.length + 1) i = climbs P P.length i := by
  cases h : climbs P (P.length + 1) i with
  | some k => exact (climbs_less P k P.length i _ h (climbs_lt hr hi h)).symm
  | none =>
    cases h' : climbs P P.length i with
    | none => rfl
    | some k => rw [climbs_mono P _ _ _ h'] at h; cases h
end Tr

end Go.Proofs.Ytikpnlmimhnmmaa

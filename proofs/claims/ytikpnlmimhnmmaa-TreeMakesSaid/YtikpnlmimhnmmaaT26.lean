/- Roots and parents. -/
import Derived.Test.YtikpnlmimhnmmaaT25
set_option linter.unusedVariables false
set_option linter.unusedSimpArgs false
set_option linter.unnecessarySimpa false
namespace Go.Proofs.Ytikpnlmimhnmmaa
open Go.RowKit Tr

def RootIs (P : List Int) (r : Int) : Prop := ∃ i : Nat, i < P.length ∧ r = i ∧ par P i < 0 ∧ ∀ q : Nat, q < i → ¬ par P q < 0
theorem RootIs.uniq {P : List Int} {r s : Int} (h : RootIs P r) (k : RootIs P s) : r = s := by
  obtain ⟨i, _, rfl, h1, h2⟩ := h
  obtain ⟨j, _, rfl, h3, h4⟩ := k
  rcases Nat.lt_trichotomy i j with h | h | h
  · exact absurd h1 (h4 i h)
  · rw [h]
  · exact absurd h3 (h2 j h)
theorem root_lt {P : List Int} (h : Tree P) : ∃ i : Nat, i < P.length ∧ par P i < 0 := by
  have h0 : inB P.length 0 := by unfold inB; have := h.pos; omega
  have hl := rise_len h h0
  obtain ⟨x, hx⟩ : ∃ x, (rise P 0)[depth P 0]? = some x := ⟨_, List.getElem?_eq_getElem (by omega)⟩
  obtain ⟨h1, h2⟩ := rise_drop h _ 0 x h0 hx
  refine ⟨x.toNat, by unfold inB at h1; omega, ?_⟩
  have e : ((x.toNat : Nat) : Int) = x := by unfold inB at h1; omega
  rw [e]
  by_cases hp : par P x < 0
  · exact hp
  · exfalso
    have h3 := rise_depth h h0 hx
    have h4 := depth_step h h1 hp
    omega
def RootPost (w : World) (P : List Int) (e : Ending) (w' : World) : Prop := ∃ r, RootIs P r ∧ e = .returned (.int .i64 r) ∧ w = w'

set_option maxHeartbeats 2000000 in
theorem root_any (b : Nat) (P : List Int) (w : World) (h : TreeAt w b P) (hT : Tree P) : Calls Try.prog 22 #[.pointer (some ⟨b, 0, none⟩)] w (RootPost w P) := by
  have h16 := h.1
  have HP : Hid (∀ i : Nat, i < P.length → w.cell? ⟨b, 1 + i, none⟩ = some (.int .i64 (par P i))) := h.par
  have HR := Lib.hid (root_lt hT)
  obtain ⟨n, hn⟩ : ∃ n, P.length = n := ⟨_, rfl⟩
  have HN := Lib.hid hn
  rw [hn] at h16
  clear hn hT
  go_enter Try.func22, Try.ntmps22
  go_wp2_with fail
  refine (len_some b P.length _ _ h).mono ?_
  rintro e w' ⟨rfl, rfl⟩
  rw [HN.out]
  go_wp2_with fail
  go_loop [6] (fun i => ∃ (k : Nat), k ≤ n ∧ i = .int .i64 k ∧ ∀ q : Nat, q < k → ¬ par P q < 0) (fun i => n - (intOf i).toNat)
  case atStart => exact ⟨0, by omega, rfl, fun q hq => absurd hq (by omega)⟩
  case round =>
    obtain ⟨k, hk, rfl, hq⟩ := hrel
    have HQ := Lib.hid hq
    clear hq
    by_cases hlt : k < n
    · have hck := HP.out k (by rw [HN.out]; exact hlt)
      obtain ⟨x, hx⟩ : ∃ x, par P k = x := ⟨_, rfl⟩
      rw [hx] at hck
      have HX := Lib.hid hx
      clear hx
      by_cases hx0 : x < 0
      · go_wp2_with fail
        go_ret
        exact ⟨k, ⟨k, by rw [HN.out]; exact hlt, rfl, by rw [HX.out]; exact hx0, fun q hq => by have := HQ.out q hq; omega⟩, rfl, rfl⟩
      · go_wp2_with fail
        go_round
        case rel => exact ⟨k + 1, by omega, by go_num, fun q hq => by
          rcases Nat.lt_succ_iff_lt_or_eq.1 hq with h | rfl
          · have := HQ.out q h; omega
          · rw [HX.out]; omega⟩
        case measure => simp [intOf]; omega
    · exfalso
      obtain ⟨i, h1, h2⟩ := HR.out
      have := HQ.out i (by rw [HN.out] at h1; omega)
      omega

theorem RdI.at {w : World} {v : Value} {P : List Int} (h : RdI w .i64 v P) (k : Nat) (hk : k < P.length) : ∃ b off c, v = .slice (some ⟨b, off, none⟩) P.length c ∧ w.cell? ⟨b, off + k, none⟩ = some (.int .i64 (par P k)) := by
  obtain ⟨A, c, rfl, _, hx⟩ := h
  obtain ⟨b, off, rfl, hc⟩ := hx (by rintro rfl; simp at hk)
  refine ⟨b, off, c, rfl, ?_⟩
  rw [hc k _ (List.getElem?_eq_getElem hk)]
  unfold par
  rw [List.getD_eq_getElem?_getD]
  simp [List.getElem?_eq_getElem hk]

set_option maxHeartbeats 2000000 in
theorem rroot_any (r : Nat) (v : Value) (P : List Int) (w : World) (h : RT w r v P) (hT : Tree P) : Calls Try.prog 23 #[.pointer (some ⟨r, 0, none⟩)] w (RootPost w P) := by
  have h16 := hT.le
  have hc0 := h.1
  have HR := Lib.hid (root_lt hT)
  have HRNG := Lib.hid hT.rng
  have HAT := Lib.hid (fun (k : Nat) (hk : k < P.length) => RdI.at h.2 k hk)
  obtain ⟨A, c, rfl, _, _⟩ := h.2
  obtain ⟨n, hn⟩ : ∃ n, P.length = n := ⟨_, rfl⟩
  have HN := Lib.hid hn
  rw [hn] at h16 hc0
  clear hn hT h
  go_enter Try.func23, Try.ntmps23
  go_wp2_with fail
  go_loop [3] (fun i => ∃ (k : Nat), k ≤ n ∧ i = .int .i64 k ∧ ∀ q : Nat, q < k → ¬ par P q < 0) (fun i => n - (intOf i).toNat)
  case atStart => exact ⟨0, by omega, rfl, fun q hq => absurd hq (by omega)⟩
  case round =>
    obtain ⟨k, hk, rfl, hq⟩ := hrel
    have HQ := Lib.hid hq
    clear hq
    by_cases hlt : k < n
    · obtain ⟨b, off, c', he, hck⟩ := HAT.out k (by rw [HN.out]; exact hlt)
      injection he with he1 he2 he3
      subst he1 he3
      clear he2
      have hrg := HRNG.out k (by unfold inB; rw [HN.out]; omega)
      obtain ⟨x, hx⟩ : ∃ x, par P k = x := ⟨_, rfl⟩
      rw [hx] at hck hrg
      rw [HN.out] at hrg
      have HX := Lib.hid hx
      have HRG := Lib.hid hrg
      clear hx hrg
      cases hx0 : (x == -1) with
      | true =>
        have HX0 := Lib.hid hx0
        go_wp2_with fail
        go_ret
        have hxm : x = -1 := by simpa using HX0.out
        exact ⟨k, ⟨k, by rw [HN.out]; exact hlt, rfl, by rw [HX.out, hxm]; decide, fun q hq => by have := HQ.out q hq; omega⟩, rfl, rfl⟩
      | false =>
        have HX0 := Lib.hid hx0
        go_wp2_with fail
        go_round
        case rel => exact ⟨k + 1, by omega, by go_num, fun q hq => by
          rcases Nat.lt_succ_iff_lt_or_eq.1 hq with h | rfl
          · have := HQ.out q h; omega
          · rw [HX.out]
            rcases HRG.out with h1 | h1
            · have := HX0.out; rw [h1] at this; simp at this
            · unfold inB at h1; omega⟩
        case measure => simp [intOf]; omega
    · exfalso
      obtain ⟨i, h1, h2⟩ := HR.out
      have := HQ.out i (by rw [HN.out] at h1; omega)
      omega

end Go.Proofs.Ytikpnlmimhnmmaa

/- Parents; the reference's lists. -/
import Derived.Test.YtikpnlmimhnmmaaT26
import Derived.Test.YtikpnlmimhnmmaaT15
set_option linter.unusedVariables false
set_option linter.unusedSimpArgs false
set_option linter.unnecessarySimpa false
namespace Go.Proofs.Ytikpnlmimhnmmaa
open Go.RowKit Tr

def parentV (P : List Int) (i : Int) : Int × Bool := if inBb P.length i = true ∧ ¬ par P i < 0 then (par P i, true) else (0, false)
def PairPost (w : World) (p : Int × Bool) (e : Ending) (w' : World) : Prop := e = .returned (.tuple #[.int .i64 p.1, .bool p.2]) ∧ w = w'

set_option maxHeartbeats 2000000 in
theorem parent_any (b : Nat) (P : List Int) (i : Int) (w : World) (h : TreeAt w b P) : Calls Try.prog 29 #[.pointer (some ⟨b, 0, none⟩), .int .i64 i] w (PairPost w (parentV P i)) := by
  have h16 := h.1
  have HI := Lib.hid (is_some b P.length _ i w h)
  cases hin : inBb P.length i with
  | false =>
    have e : parentV P i = (0, false) := by unfold parentV; rw [if_neg (by rw [hin]; simp)]
    rw [e]
    have HB : Hid ((decide (0 ≤ i) && decide (i < (P.length : Int))) = false) := hin
    clear e hin h
    go_enter Try.func29, Try.ntmps29
    go_wp2_with fail
    refine HI.out.mono ?_
    rintro e w' ⟨rfl, rfl⟩
    rw [HB.out]
    go_wp2_with fail
    go_ret2
    exact ⟨rfl, rfl⟩
  | true =>
    have hib := (inBb_iff _ _).1 hin
    obtain ⟨j, rfl⟩ : ∃ j : Nat, i = j := ⟨i.toNat, by unfold inB at hib; omega⟩
    have hj : j < P.length := by unfold inB at hib; omega
    have hpj := h.par j hj
    have hj16 : j < 16 := by omega
    have HB : Hid ((decide (0 ≤ (j : Int)) && decide ((j : Int) < (P.length : Int))) = true) := hin
    by_cases hp : par P j < 0
    · have e : parentV P j = (0, false) := by unfold parentV; rw [if_neg (by rw [hin]; simp; exact hp)]
      rw [e]
      obtain ⟨q, hq⟩ : ∃ q, par P j = q := ⟨_, rfl⟩
      rw [hq] at hp hpj
      clear e hin h hq hib
      go_enter Try.func29, Try.ntmps29
      go_wp2_with fail
      refine HI.out.mono ?_
      rintro e w' ⟨rfl, rfl⟩
      rw [HB.out]
      go_wp2_with fail
      go_ret2
      exact ⟨rfl, rfl⟩
    · have e : parentV P j = (par P j, true) := by unfold parentV; rw [if_pos ⟨hin, hp⟩]
      rw [e]
      obtain ⟨q, hq⟩ : ∃ q, par P j = q := ⟨_, rfl⟩
      rw [hq] at hp hpj ⊢
      clear e hin h hq hib
      go_enter Try.func29, Try.ntmps29
      go_wp2_with fail
      refine HI.out.mono ?_
      rintro e w' ⟨rfl, rfl⟩
      rw [HB.out]
      go_wp2_with fail
      go_ret2
      exact ⟨rfl, rfl⟩

set_option maxHeartbeats 2000000 in
theorem rparent_any (r : Nat) (v : Value) (P : List Int) (i : Int) (w : World) (h : RT w r v P) (hT : Tree P) : Calls Try.prog 30 #[.pointer (some ⟨r, 0, none⟩), .int .i64 i] w (PairPost w (parentV P i)) := by
  have h16 := hT.le
  have hc0 := h.1
  have HI := Lib.hid (is_ref r v P i w h)
  cases hin : inBb P.length i with
  | false =>
    have e : parentV P i = (0, false) := by unfold parentV; rw [if_neg (by rw [hin]; simp)]
    rw [e]
    rw [hin] at HI
    clear e hin h
    go_enter Try.func30, Try.ntmps30
    go_wp2_with fail
    refine HI.out.mono ?_
    rintro e w' ⟨rfl, rfl⟩
    go_wp2_with fail
    go_ret2
    exact ⟨rfl, rfl⟩
  | true =>
    have hib := (inBb_iff _ _).1 hin
    rw [hin] at HI
    obtain ⟨j, rfl⟩ : ∃ j : Nat, i = j := ⟨i.toNat, by unfold inB at hib; omega⟩
    have hj : j < P.length := by unfold inB at hib; omega
    obtain ⟨b, off, c, rfl, hpj⟩ := RdI.at h.2 j hj
    have hrg := hT.rng j hib
    by_cases hp : par P j < 0
    · have e : parentV P j = (0, false) := by unfold parentV; rw [if_neg (by rw [hin]; simp; exact hp)]
      rw [e]
      have hpm := par_neg hT hib hp
      rw [hpm] at hpj
      clear e hin h hib hrg hpm hp hT
      go_enter Try.func30, Try.ntmps30
      go_wp2_with fail
      refine HI.out.mono ?_
      rintro e w' ⟨rfl, rfl⟩
      go_wp2_with fail
      go_ret2
      exact ⟨rfl, rfl⟩
    · have e : parentV P j = (par P j, true) := by unfold parentV; rw [if_pos ⟨hin, hp⟩]
      rw [e]
      obtain ⟨q, hq⟩ : ∃ q, par P j = q := ⟨_, rfl⟩
      rw [hq] at hp hpj ⊢
      have hqb : (q == -1) = false := by simp; omega
      clear e hin h hq hib hrg hT
      go_enter Try.func30, Try.ntmps30
      go_wp2_with fail
      refine HI.out.mono ?_
      rintro e w' ⟨rfl, rfl⟩
      go_wp2_with fail
      go_ret2
      exact ⟨rfl, rfl⟩

end Go.Proofs.Ytikpnlmimhnmmaa

/- The closures of Near, Kids, Below; Near, Below, Kids. -/
import Derived.Test.YtikpnlmimhnmmaaT12
set_option linter.unusedVariables false
set_option linter.unusedSimpArgs false
namespace Go.Proofs.Ytikpnlmimhnmmaa
open Go.RowKit Go.Shelf Tr

def inBb (n : Nat) (i : Int) : Bool := decide (0 ≤ i) && decide (i < n)
theorem inBb_iff (n : Nat) (i : Int) : inBb n i = true ↔ inB n i := by unfold inBb inB; simp
def kidB (P : List Int) (i : Int) (k : Nat) : Bool := inBb P.length i && (par P k == i)
def nearB (P : List Int) (i : Int) (k : Nat) : Bool := inBb P.length i && (par P k == i || par P i == k)

theorem is_q {b n : Nat} {l : List Int} {i : Int} {w : World} {B : Bool} (h : RawAt w b n l) (hB : inBb n i = B) (m : Nat) :
    Calls Try.prog 46 #[.pointer (some ⟨b, 0, none⟩), .int .i64 i] (w.drewN m) fun e w' => e = .returned (.bool B) ∧ ∃ m, w' = w.drewN m := by
  subst hB
  exact quiet_same (is_some b n l i _ (h.drewN m))

set_option maxRecDepth 100000 in
set_option maxHeartbeats 4000000 in
theorem kids1_any (b bt bi : Nat) (P : List Int) (i : Int) (k : Nat) (w : World) (h : TreeAt w b P) (hk : k < P.length) (ht : w.cell? ⟨bt, 0, none⟩ = some (.pointer (some ⟨b, 0, none⟩))) (hi : w.cell? ⟨bi, 0, none⟩ = some (.int .i64 i)) :
    Calls Try.prog 54 #[.int .i64 k, .pointer (some ⟨bt, 0, none⟩), .pointer (some ⟨bi, 0, none⟩)] w fun e w' => e = .returned (.bool (kidB P i k)) ∧ Kept [] w w' := by
  have hp := h.par k hk
  have h16 := h.1
  obtain ⟨q, hq⟩ : ∃ q, par P k = q := ⟨_, rfl⟩
  obtain ⟨R, hR⟩ : ∃ R, kidB P i k = R := ⟨_, rfl⟩
  rw [hR]
  unfold kidB at hR
  rw [hq] at hp hR
  have HR := Lib.hid hR
  clear hR hq
  cases hin : inBb P.length i with
  | false =>
    have HIS := fun m => is_q h hin m
    have HIN := Lib.hid hin
    clear hin
    have HIS' := Lib.hid HIS
    clear HIS
    go_enter Try.func54, Try.ntmps54
    go_wp2_with fail
    go_quiet ((go_at_call 46; exact HIS'.out _))
    go_wp2_with fail
    go_ret
    refine ⟨ret_bool ?_, (Kept.refl [] w).drewN _⟩
    rw [← HR.out, HIN.out]; rfl
  | true =>
    have HIS := fun m => is_q h hin m
    have HIN := Lib.hid hin
    clear hin
    have HIS' := Lib.hid HIS
    clear HIS
    go_enter Try.func54, Try.ntmps54
    go_wp2_with fail
    go_quiet ((go_at_call 46; exact HIS'.out _))
    go_wp2_with fail
    go_ret
    refine ⟨ret_bool ?_, (Kept.refl [] w).drewN _⟩
    rw [← HR.out, HIN.out]; rfl

set_option maxRecDepth 100000 in
set_option maxHeartbeats 4000000 in
theorem near1_any (b bt bi : Nat) (P : List Int) (i : Int) (k : Nat) (w : World) (h : TreeAt w b P) (hk : k < P.length) (ht : w.cell? ⟨bt, 0, none⟩ = some (.pointer (some ⟨b, 0, none⟩))) (hi : w.cell? ⟨bi, 0, none⟩ = some (.int .i64 i)) :
    Calls Try.prog 50 #[.int .i64 k, .pointer (some ⟨bt, 0, none⟩), .pointer (some ⟨bi, 0, none⟩)] w fun e w' => e = .returned (.bool (nearB P i k)) ∧ Kept [] w w' := by
  have hp := h.par k hk
  have h16 := h.1
  obtain ⟨q, hq⟩ : ∃ q, par P k = q := ⟨_, rfl⟩
  obtain ⟨R, hR⟩ : ∃ R, nearB P i k = R := ⟨_, rfl⟩
  rw [hR]
  unfold nearB at hR
  rw [hq] at hp hR
  have HR := Lib.hid hR
  clear hR hq
  cases hin : inBb P.length i with
  | false =>
    have HIS := fun m => is_q h hin m
    have HIN := Lib.hid hin
    clear hin
    have HIS' := Lib.hid HIS
    clear HIS
    go_enter Try.func50, Try.ntmps50
    go_wp2_with fail
    go_quiet ((go_at_call 46; exact HIS'.out _))
    go_wp2_with fail
    go_ret
    refine ⟨ret_bool ?_, (Kept.refl [] w).drewN _⟩
    rw [← HR.out, HIN.out]; rfl
  | true =>
    have HIS := fun m => is_q h hin m
    have hib := (inBb_iff _ _).1 hin
    have HIN := Lib.hid hin
    clear hin
    have HIS' := Lib.hid HIS
    clear HIS
    obtain ⟨j, rfl⟩ : ∃ j : Nat, i = j := ⟨i.toNat, by unfold inB at hib; omega⟩
    have hj : j < P.length := by unfold inB at hib; omega
    have hpj := h.par j hj
    obtain ⟨r, hr⟩ : ∃ r, par P j = r := ⟨_, rfl⟩
    rw [hr] at hpj
    have HR2 : Hid ((true && (q == (j : Int) || r == (k : Int))) = R) := by
      have := HR.out
      rw [HIN.out, hr] at this
      exact this
    have h16j : j < 16 := by omega
    clear hr hib HR
    cases hqi : (q == (j : Int)) with
    | true =>
      have HQI := Lib.hid hqi
      go_enter Try.func50, Try.ntmps50
      go_wp2_with fail
      go_quiet ((go_at_call 46; exact HIS'.out _))
      go_wp2_with fail
      go_ret
      refine ⟨ret_bool ?_, (Kept.refl [] w).drewN _⟩
      rw [← HR2.out, HQI.out]; rfl
    | false =>
      have HQI := Lib.hid hqi
      go_enter Try.func50, Try.ntmps50
      go_wp2_with fail
      go_quiet ((go_at_call 46; exact HIS'.out _))
      go_wp2_with fail
      go_ret
      refine ⟨ret_bool ?_, (Kept.refl [] w).drewN _⟩
      rw [← HR2.out, HQI.out]; rfl

end Go.Proofs.Ytikpnlmimhnmmaa

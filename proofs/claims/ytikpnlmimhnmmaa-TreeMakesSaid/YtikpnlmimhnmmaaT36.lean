/- slices.Clone, of numbers. -/
import Derived.Test.YtikpnlmimhnmmaaT35
import Derived.Test.YtikpnlmimhnmmaaT18
set_option linter.unusedVariables false
set_option linter.unusedSimpArgs false
set_option linter.unnecessarySimpa false
namespace Go.Proofs.Ytikpnlmimhnmmaa
open Go.RowKit Tr
attribute [local go_sem] Lib.run_eql_slice_nil

theorem own_empty (w : World) (base : Nat) (hb : base ≤ w.heap.size) : (w.alloc (.cells #[] 3)).ownsRow base 3 1 (.slice (some ⟨w.heap.size, 0, none⟩) 0 0) 0 [] := by
  refine ⟨rfl, .inr ⟨w.heap.size, 0, #[], rfl, hb, ?_, Nat.le_refl _, by unfold maxLen; omega, rfl, rfl⟩⟩
  exact Blk.new w _ _

set_option maxHeartbeats 2000000 in
theorem clone_any (v : Value) (P : List Int) (w : World) (hx : RdI w .i64 v P) (hbig : P.length * 8 ≤ 140737488351232) : Calls Try.prog 20 #[v] w (RisePost w P) := by
  obtain ⟨i0, hi0, hz0, hz1, hz2⟩ := info_parts infoInt
  obtain ⟨A, c, rfl, hmx, hx⟩ := hx
  rcases A with _ | ⟨b, off, m⟩
  · have e : P = [] := by
      cases P with
      | nil => rfl
      | cons x xs => obtain ⟨b, off, h, _⟩ := hx (by simp); cases h
    subst e
    go_enter Try.func20, Try.ntmps20
    go_wp2_with fail
    go_ret
    exact ⟨_, rfl, World.ownsRow_nil _ _ _ _, Kept.refl _ _⟩
  · have HC : Hid (∀ j u, (P.map (Value.int .i64))[j]? = some u → w.cell? ((⟨b, off, m⟩ : Addr).add j) = some u) := fun j u hu => by
      cases hP : P with
      | nil => rw [hP] at hu; simp at hu
      | cons x xs =>
        obtain ⟨b', off', h, hcc⟩ := hx (by rw [hP]; simp)
        injection h with h
        injection h with h1 h2 h3
        subst h1 h2 h3
        have ha : (⟨b, off, none⟩ : Addr).add j = ⟨b, off + j, none⟩ := by unfold Addr.add; split <;> simp_all
        rw [ha]
        rw [List.getElem?_map, Option.map_eq_some_iff] at hu
        obtain ⟨y, hy, rfl⟩ := hu
        exact hcc j y hy
    clear hx
    obtain ⟨n, hn⟩ : ∃ n, P.length = n := ⟨_, rfl⟩
    rw [hn] at hmx hbig ⊢
    have HN := Lib.hid hn
    clear hn
    go_enter Try.func20, Try.ntmps20
    go_wp2_with (at_builtin; refine wpList_append_own _ rfl _ _ 22 rfl w.heap.size 3 i0 (.int .i64 0) 1 8 Try.underlying22 hi0 hz0 hz1 hz2 rfl (by decide) _ 0 [] rfl (own_empty w _ (Nat.le_refl _)) ⟨b, off, m⟩ n c (P.map (.int .i64)) rfl (by rw [List.length_map, HN.out]; omega) (fun j u hu => ((Kept.refl [] w).alloc _).cell (by simp) (HC.out j u hu)) (by intro u hu; obtain ⟨z, _, rfl⟩ := List.mem_map.1 hu; rfl) (by omega) (by omega) (by simp) ?_)
    intro v' w4 hown4 hgrow4 _
    have hK4 : Kept [] w w4 := ((Kept.refl [] w).alloc _).grown hgrow4 (fun x hx => .inr (by simp [Value.ownBlock] at hx; omega))
    have HOWN4 := Lib.hid hown4
    clear hown4 hgrow4
    go_wp2_with fail
    go_ret
    refine ⟨_, rfl, ?_, hK4⟩
    have := HOWN4.out
    rw [HN.out]
    exact this

theorem ItI.keep {w w' : World} {n₀ : Nat} {v : Value} {xs : List Int} (h : Go.Proofs.Ytikpnlmimhnmmaa.ItI w n₀ v xs) (hk : Kept [] w w') : ItI w' n₀ v xs := by
  obtain ⟨g, lb, rfl, hn0, eg, hseq⟩ := h
  exact ⟨g, lb, rfl, Nat.le_trans hn0 hk.size, eg, fun m hm l J Jx W hW => hseq m hm l J Jx W (hk.below.trans (hW.mono hk.size))⟩
theorem ItW.keep {w w' : World} {v : Value} {xs : List (Int × Int)} (h : Go.Proofs.Ytikpnlmimhnmmaa.ItW w v xs) (hk : Kept [] w w') : ItW w' v xs := by
  obtain ⟨g, lb, rfl, eg, hseq⟩ := h
  exact ⟨g, lb, rfl, eg, fun w2 S hk2 hS m hm => hseq w2 S (hk.trans hk2) (fun x hx => ⟨Nat.le_trans hk.size (hS x hx).1, (hS x hx).2⟩) m hm⟩

theorem par_in {P : List Int} (h : Tree P) (k : Nat) (hk : k < P.length) : par P k = -1 ∨ inB P.length (par P k) := h.rng k (by unfold inB; omega)
theorem sel_congr (p q : Nat → Bool) : ∀ n, (∀ k, k < n → p k = q k) → sel p n = sel q n
  | 0, _ => rfl
  | n + 1, h => by
    have ih := sel_congr p q n (fun k hk => h k (by omega))
    cases hp : p n with
    | true => rw [sel_hit p n hp, sel_hit q n (by rw [← h n (by omega)]; exact hp), ih]
    | false => rw [sel_miss p n hp, sel_miss q n (by rw [← h n (by omega)]; exact hp), ih]
theorem kids_same {P : List Int} (h : Tree P) (i : Int) : refKids P i = sel (kidB P i) P.length := by
  unfold refKids
  by_cases h0 : 0 ≤ i
  · rw [if_pos h0]
    refine sel_congr _ _ _ (fun k hk => ?_)
    unfold kidB
    cases hin : inBb P.length i with
    | true => rfl
    | false =>
      have hn := inBb_not hin
      have : par P k ≠ i := by
        rcases par_in h k hk with h1 | h1
        · rw [h1]; omega
        · rintro rfl; exact hn h1
      simp [this]
  · rw [if_neg h0]
    symm
    exact sel_false _ (fun k => by unfold kidB; rw [show inBb P.length i = false from by cases hin : inBb P.length i with
      | false => rfl
      | true => exact absurd ((inBb_iff _ _).1 hin).1 h0]; rfl) _

end Go.Proofs.Ytikpnlmimhnmmaa

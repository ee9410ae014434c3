/- slices.Clone, of numbers. -/
import Derived.Test.YtiiiflckphgdiaaM6
set_option linter.unusedVariables false
set_option linter.unusedSimpArgs false
set_option linter.unnecessarySimpa false
namespace Go.Proofs.Ytiiiflckphgdiaa
open Go.RowKit Tr
attribute [local go_sem] Lib.run_eql_slice_nil

theorem own_emptyi (w : World) (base : Nat) (hb : base ≤ w.heap.size) : (w.alloc (.cells #[] 3)).ownsRow base 3 1 (.slice (some ⟨w.heap.size, 0, none⟩) 0 0) 0 [] := by
  refine ⟨rfl, .inr ⟨w.heap.size, 0, #[], rfl, hb, ?_, Nat.le_refl _, by unfold maxLen; omega, rfl, rfl⟩⟩
  exact Blk.new w _ _

set_option maxRecDepth 100000 in
set_option maxHeartbeats 2000000 in
theorem clonei_any (v : Value) (P : List Int) (w : World) (hx : RdI w .i64 v P) (hbig : P.length * 8 ≤ 140737488351232) : Calls Try.prog 32 #[v] w (RisePost w P) := by
  obtain ⟨i0, hi0, hz0, hz1, hz2⟩ := info_parts infoInt
  obtain ⟨A, c, rfl, hmx, hx⟩ := hx
  rcases A with _ | ⟨b, off, m⟩
  · have e : P = [] := by
      cases P with
      | nil => rfl
      | cons x xs => obtain ⟨b, off, h, _⟩ := hx (by simp); cases h
    subst e
    go_enter Try.func32, Try.ntmps32
    go_wp2_with fail
    go_ret
    exact ⟨_, rfl, World.ownsRow_nil _ _ _ _, Kept.refl _ _⟩
  · have HC : Hid (∀ j u, (P.map (Value.int .i64))[j]? = some u → w.cell? ((⟨b, off, m⟩ : Addr).add j) = some u) := fun j u hu => by
      cases hP : P with
      | nil => rw [hP] at hu; simp at hu
      | cons x xs =>
        obtain ⟨b', off', h, hcc⟩ := hx (by rw [hP]; simp)
        injection h with h
        injection h with h1 h2 h3
        subst h1 h2 h3
        have ha : (⟨b, off, none⟩ : Addr).add j = ⟨b, off + j, none⟩ := by unfold Addr.add; split <;> simp_all
        rw [ha]
        rw [List.getElem?_map, Option.map_eq_some_iff] at hu
        obtain ⟨y, hy, rfl⟩ := hu
        exact hcc j y hy
    clear hx
    obtain ⟨n, hn⟩ : ∃ n, P.length = n := ⟨_, rfl⟩
    rw [hn] at hmx hbig ⊢
    have HN := Lib.hid hn
    clear hn
    go_enter Try.func32, Try.ntmps32
    go_wp2_with (at_builtin; refine wpList_append_own _ rfl _ _ 47 rfl w.heap.size 3 i0 (.int .i64 0) 1 8 Try.underlying47 hi0 hz0 hz1 hz2 rfl (by decide) _ 0 [] rfl (own_emptyi w _ (Nat.le_refl _)) ⟨b, off, m⟩ n c (P.map (.int .i64)) rfl (by rw [List.length_map, HN.out]; omega) (fun j u hu => ((Kept.refl [] w).alloc _).cell (by simp) (HC.out j u hu)) (by intro u hu; obtain ⟨z, _, rfl⟩ := List.mem_map.1 hu; rfl) (by omega) (by omega) (by simp) ?_)
    intro v' w4 hown4 hgrow4 _
    have hK4 : Kept [] w w4 := ((Kept.refl [] w).alloc _).grown hgrow4 (fun x hx => .inr (by simp [Value.ownBlock] at hx; omega))
    have HOWN4 := Lib.hid hown4
    clear hown4 hgrow4
    go_wp2_with fail
    go_ret
    refine ⟨_, rfl, ?_, hK4⟩
    have := HOWN4.out
    rw [HN.out]
    exact this

end Go.Proofs.Ytiiiflckphgdiaa

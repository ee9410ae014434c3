/- The reference's own functions: has, Is, up. -/
import Derived.Test.YtikpnlmimhnmmaaT16
set_option linter.unusedVariables false
set_option linter.unusedSimpArgs false
set_option linter.unnecessarySimpa false
namespace Go.Proofs.Ytikpnlmimhnmmaa
open Go.RowKit Tr

/-- The reference's tree. -/
def RT (w : World) (r : Nat) (v : Value) (P : List Int) : Prop := w.cell? ⟨r, 0, none⟩ = some v ∧ RdI w .i64 v P
theorem RT.keep {w w' : World} {r : Nat} {v : Value} {P : List Int} (h : RT w r v P) (k : Kept [] w w') : RT w' r v P := ⟨k.cell (by simp) h.1, h.2.keep k⟩

set_option maxHeartbeats 1000000 in
theorem has_any (v : Value) (xs : List Int) (x : Int) (w : World) (hx : RdI w .i64 v xs) : Calls Try.prog 56 #[v, .int .i64 x] w fun e w' => e = .returned (.bool (xs.contains x)) ∧ w = w' := by
  obtain ⟨A, c, rfl, hmx, hx⟩ := hx
  unfold maxLen at hmx
  have HX := Lib.hid hx
  obtain ⟨n, hn⟩ : ∃ n, xs.length = n := ⟨_, rfl⟩
  rw [hn] at hmx ⊢
  have HN := Lib.hid hn
  clear hn hx
  go_enter Try.func56, Try.ntmps56
  go_wp2_with fail
  go_loop [5] (fun i => ∃ (k : Nat), k ≤ n ∧ i = .int .i64 k ∧ x ∉ xs.take k) (fun i => n - (intOf i).toNat)
  case atStart => exact ⟨0, by omega, rfl, by simp⟩
  case round =>
    obtain ⟨k, hk, rfl, hni⟩ := hrel
    have HNI := Lib.hid hni
    clear hni
    by_cases hlt : k < n
    · obtain ⟨y, hy⟩ : ∃ y, xs[k]? = some y := ⟨_, List.getElem?_eq_getElem (by rw [HN.out]; exact hlt)⟩
      obtain ⟨b, off, rfl, hc⟩ := HX.out (by rintro rfl; simp at hy)
      have hck := hc k y hy
      have HC := Lib.hid hc
      have HY := Lib.hid hy
      clear hc hy
      cases hxy : (y == x) with
      | true =>
        have HXY := Lib.hid hxy
        go_wp2_with fail
        go_ret
        refine ⟨ret_bool ?_, rfl⟩
        have hm : x ∈ xs := by
          have : y = x := by simpa using HXY.out
          rw [← this]
          exact List.mem_of_getElem? HY.out
        simp [hm]
      | false =>
        have HXY := Lib.hid hxy
        go_wp2_with fail
        go_round
        case rel =>
          refine ⟨k + 1, by omega, by go_num, ?_⟩
          obtain ⟨h1, h2⟩ := List.getElem?_eq_some_iff.1 HY.out
          rw [List.take_succ_eq_append_getElem h1, h2, List.mem_append]
          rintro (h | h)
          · exact HNI.out h
          · have e : x = y := by simpa using h
            have := HXY.out
            rw [e] at this
            simp at this
        case measure => simp [intOf]; omega
    · go_wp2_with fail
      go_ret
      refine ⟨ret_bool ?_, rfl⟩
      have := HNI.out
      rw [List.take_of_length_le (by rw [HN.out]; omega)] at this
      simp [this]

set_option maxHeartbeats 1000000 in
theorem is_ref (r : Nat) (v : Value) (P : List Int) (i : Int) (w : World) (h : RT w r v P) :
    Calls Try.prog 53 #[.pointer (some ⟨r, 0, none⟩), .int .i64 i] w fun e w' => e = .returned (.bool (inBb P.length i)) ∧ w = w' := by
  obtain ⟨hc, A, c, rfl, hmx, -⟩ := h
  unfold inBb
  by_cases hi : 0 ≤ i
  · go_enter Try.func53, Try.ntmps53
    go_wp2
    go_ret
    exact ⟨by simp [hi], rfl⟩
  · go_enter Try.func53, Try.ntmps53
    go_wp2
    go_ret
    exact ⟨by simp; omega, rfl⟩

/-- What up answers. -/
def UpPost (w : World) (P : List Int) (i : Int) (e : Ending) (w' : World) : Prop :=
  Kept [] w w' ∧ ((climbs P (P.length + 1) i = none ∧ e = .returned (.tuple #[.slice none 0 0, .bool false])) ∨
    ((climbs P (P.length + 1) i).isSome = true ∧ ∃ v, e = .returned (.tuple #[v, .bool true]) ∧ w'.ownsRow w.heap.size 3 1 v (up P (P.length + 1) i).length ((up P (P.length + 1) i).map (.int .i64))))

theorem up_len (P : List Int) : ∀ (f : Nat) (i : Int), (up P f i).length ≤ f
  | 0, i => by simp [up]
  | f + 1, i => by
    rw [up]
    have := up_len P f (par P i)
    split
    · simp
    · simp; omega

set_option maxRecDepth 100000 in
set_option maxHeartbeats 4000000 in
theorem up_any (v : Value) (P : List Int) (i : Int) (w : World) (hx : RdI w .i64 v P) (h16 : P.length ≤ 16) (hr : ∀ i, inB P.length i → par P i = -1 ∨ inB P.length (par P i)) (hi : inB P.length i) :
    Calls Try.prog 51 #[v, .int .i64 i] w (UpPost w P i) := by
  obtain ⟨i0, hi0, hz0, hz1, hz2⟩ := info_parts infoInt
  obtain ⟨A, c, rfl, hmx, hx⟩ := hx
  unfold maxLen at hmx
  have HR := Lib.hid hr
  have hne : P ≠ [] := by rintro rfl; unfold inB at hi; simp at hi; omega
  obtain ⟨b, off, rfl, hc⟩ := hx hne
  have HC := Lib.hid hc
  obtain ⟨n, hn⟩ : ∃ n, P.length = n := ⟨_, rfl⟩
  rw [hn] at hmx h16 ⊢
  have HN := Lib.hid hn
  have HI : Hid (inB n i) := by rw [← hn]; exact hi
  clear hn hr hi hx hc hne
  go_enter Try.func51, Try.ntmps51
  go_wp2_with fail
  go_loopw [1, 6, 7] (fun p o kk wr => ∃ (j : Nat) (pre : List Int) (k : Nat) (m : Nat), k + m = n + 1 ∧ p = .int .i64 j ∧ j < n ∧ kk = .int .i64 k ∧ pre.length = k ∧ (climbs P (n + 1) i = (climbs P m j).map (· + k)) ∧ up P (n + 1) i = pre ++ up P m j ∧ wr.ownsRow w.heap.size 3 1 o pre.length (pre.map (.int .i64)) ∧ Kept [] w wr) (fun _ _ kk _ => n + 1 - (intOf kk).toNat)
  case atStart =>
    have hi := HI.out
    unfold inB at hi
    refine ⟨i.toNat, [], 0, n + 1, by omega, ?_, by omega, rfl, rfl, ?_, ?_, World.ownsRow_nil _ _ _ _, Kept.refl _ _⟩
    · rw [Int.toNat_of_nonneg hi.1]
    · rw [Int.toNat_of_nonneg hi.1]; simp
    · rw [Int.toNat_of_nonneg hi.1]; simp
  case round =>
    obtain ⟨j, pre, k, m, hkm, rfl, hj, rfl, hpk, hcl, hup, hown, hK⟩ := hrel
    have HPK := Lib.hid hpk
    have HCL := Lib.hid hcl
    have HUP := Lib.hid hup
    rw [hpk] at hown
    have HOWN := Lib.hid hown
    obtain ⟨AA, cc, rfl, -⟩ := own_len hown
    clear hpk hcl hup hown
    by_cases hlt : k ≤ n
    · obtain ⟨m', hm'⟩ : ∃ m', m = m' + 1 := ⟨m - 1, by omega⟩
      have HM := Lib.hid hm'
      obtain ⟨q, hq⟩ : ∃ q, P[j]? = some q := ⟨_, List.getElem?_eq_getElem (by rw [HN.out]; exact hj)⟩
      have hpq : par P j = q := by unfold par; rw [List.getD_eq_getElem?_getD]; simp [hq]
      have hck := HC.out j q hq
      have HPQ := Lib.hid hpq
      have hqr := HR.out j (by unfold inB; rw [HN.out]; omega)
      rw [hpq, HN.out] at hqr
      have HQR := Lib.hid hqr
      clear hm' hq hpq hqr
      have hgb : ∀ x, (Value.slice AA k cc).ownBlock = some x → w.heap.size ≤ x := fun x hx => (HOWN.out.lt x hx).1
      have HGB := Lib.hid hgb
      clear hgb
      go_wp2_with (at_builtin; refine wpList_append_own _ rfl _ _ 22 rfl w.heap.size 3 i0 (.int .i64 0) 1 8 Try.underlying22 hi0 hz0 hz1 hz2 rfl (by decide) _ k (pre.map (.int .i64)) rfl (World.ownsRow.alloc HOWN.out _) ⟨wr.heap.size, 0, none⟩ 1 1 [.int .i64 j] rfl rfl (cell_one_new _ _ _) (by simp [Value.oneCell']) (by unfold maxLen; omega) (by omega) (by have := hK.size; simp; omega) ?_)
      intro v' w4 hown4 hgrow4 _
      have hK4 : Kept [] w w4 := (hK.alloc _).grown hgrow4 (fun x hx => .inr (HGB.out x hx))
      have hck4 := hK4.cell (by simp) hck
      have HOWN4 := Lib.hid hown4
      clear hown4 hgrow4
      cases hqb : (q == -1) with
      | true =>
        have HQB := Lib.hid hqb
        go_wp2_with fail
        go_ret2
        unfold UpPost
        rw [HN.out]
        have hp1 : par P j < 0 := by have := HQB.out; simp at this; rw [HPQ.out]; omega
        have e1 : up P m j = [(j : Int)] := by rw [HM.out, up, if_pos hp1]
        have e2 : climbs P m j = some 0 := by rw [HM.out, climbs, if_pos hp1]
        refine ⟨hK4, .inr ⟨by rw [HCL.out, e2]; rfl, v', rfl, ?_⟩⟩
        rw [HUP.out, e1, List.map_append, List.length_append, HPK.out]
        exact HOWN4.out
      | false =>
        have HQB := Lib.hid hqb
        go_wp2_with fail
        go_roundw
        case rel =>
          have hq1 : 0 ≤ q ∧ q < n := by
            rcases HQR.out with h1 | h1
            · have := HQB.out; rw [h1] at this; simp at this
            · exact h1
          have hp1 : ¬ par P j < 0 := by rw [HPQ.out]; omega
          have e1 : up P m j = (j : Int) :: up P m' q := by rw [HM.out, up, if_neg hp1, HPQ.out]
          have e2 : climbs P m j = (climbs P m' q).map (· + 1) := by rw [HM.out, climbs, if_neg hp1, HPQ.out]
          have e3 : ((q.toNat : Nat) : Int) = q := by omega
          refine ⟨q.toNat, pre ++ [(j : Int)], k + 1, m', by have := HM.out; omega, by rw [e3], by omega, by go_num, by simp [HPK.out], ?_, ?_, ?_, hK4⟩
          · rw [HCL.out, e2, e3, Option.map_map]
            congr 1
            funext x
            simp
            omega
          · rw [HUP.out, e1, e3]; simp
          · rw [List.map_append, List.length_append, HPK.out]
            exact HOWN4.out
        case measure => simp [intOf]; omega
    · go_wp2_with fail
      go_ret2
      unfold UpPost
      rw [HN.out]
      refine ⟨hK, .inl ⟨?_, rfl⟩⟩
      have : m = 0 := by omega
      rw [HCL.out, this]; rfl

end Go.Proofs.Ytikpnlmimhnmmaa

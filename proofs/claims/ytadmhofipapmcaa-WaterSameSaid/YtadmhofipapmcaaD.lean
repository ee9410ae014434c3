/- Slices of whole numbers that are read; slices.Equal and slices.Clone at them; Marks. -/
import Derived.Test.YtadmhofipapmcaaB
import Derived.Test.YtadmhofipapmcaaReader
import Derived.StillTailTactics
import Derived.Laws.AppendOwnNone
set_option linter.unusedVariables false
set_option linter.unusedSimpArgs false
namespace Go.Proofs.Ytadmhofipapmcaa
open Go.RowKit

/-- v reads as the numbers xs. -/
def RdI (w : World) (k : IntKind) (v : Value) (xs : List Int) : Prop :=
  ∃ A c, v = .slice A xs.length c ∧ xs.length ≤ maxLen ∧ (xs ≠ [] → ∃ b off, A = some ⟨b, off, none⟩ ∧ ∀ i x, xs[i]? = some x → w.cell? ⟨b, off + i, none⟩ = some (.int k x))
theorem RdI.kept {S : List Nat} {w w' : World} {k : IntKind} {v : Value} {xs : List Int} (h : RdI w k v xs) (hk : Kept S w w') (hs : ∀ b, v.ownBlock = some b → b ∉ S) : RdI w' k v xs := by
  obtain ⟨A, c, rfl, hm, h⟩ := h
  refine ⟨A, c, rfl, hm, fun hn => ?_⟩
  obtain ⟨b, off, rfl, hc⟩ := h hn
  exact ⟨b, off, rfl, fun i x hx => hk.cell (hs b rfl) (hc i x hx)⟩
theorem RdI.keep {w w' : World} {k : IntKind} {v : Value} {xs : List Int} (h : RdI w k v xs) (hk : Kept [] w w') : RdI w' k v xs := h.kept hk (by simp)
theorem RdI.drewN {w : World} {k : IntKind} {v : Value} {xs : List Int} (h : RdI w k v xs) (n : Nat) : RdI (w.drewN n) k v xs := h
theorem RdI.of_rk {w : World} {k : IntKind} {v : Value} {xs : List Int} (h : (Rk.slice (Rk.int k)).K w xs [v]) : RdI w k v xs := by
  obtain ⟨A, c, he, h1, h2, _, hE⟩ := h
  simp only [List.cons.injEq, and_true] at he
  subst he
  refine ⟨A, c, rfl, by omega, fun hn => ?_⟩
  obtain ⟨b, off, rfl, hx⟩ := hE hn
  refine ⟨b, off, rfl, fun i x hxi => ?_⟩
  obtain ⟨cs, ⟨rfl, _⟩, hc⟩ := hx i x hxi
  have := hc 0 (by show 0 < 1; omega)
  simpa [Rk.int] using this
theorem RdI.of_own {w : World} {base : Nat} {e : TypeId} {k : IntKind} {v : Value} {n : Nat} {xs : List Int} (h : w.ownsRow base e 1 v n (xs.map (.int k))) : RdI w k v xs ∧ n = xs.length := by
  have hl : n = xs.length := by have := h.1; simpa using this.symm
  subst hl
  refine ⟨?_, rfl⟩
  rcases h.2 with ⟨rfl, h0⟩ | ⟨g, cap, cur, rfl, _, _, h1, h2, _, _⟩
  · exact ⟨none, 0, by rw [h0], by rw [h0]; exact Nat.zero_le _, fun hn => absurd (List.eq_nil_of_length_eq_zero h0) hn⟩
  · refine ⟨_, cap, rfl, by omega, fun hn => ⟨g, 0, rfl, fun i x hx => ?_⟩⟩
    have := h.cells (g := g) rfl i (.int k x) (by simp [hx])
    rw [Nat.zero_add]
    have ha : (⟨g, 0, none⟩ : Addr).add i = ⟨g, i, none⟩ := by unfold Addr.add; split <;> simp_all
    rwa [ha] at this
theorem RdI.cell {w : World} {k : IntKind} {b off n c : Nat} {xs : List Int} (h : RdI w k (.slice (some ⟨b, off, none⟩) n c) xs) (i : Nat) (x : Int) (hx : xs[i]? = some x) : w.cell? ⟨b, off + i, none⟩ = some (.int k x) := by
  obtain ⟨A, c', he, _, h⟩ := h
  injection he with h1 h2 h3
  subst h1 h3
  obtain ⟨b', o', he, hc⟩ := h (by intro e; subst e; simp at hx)
  injection he with he
  injection he with h4 h5
  subst h4 h5
  exact hc i x hx
theorem ownsRow_keep {S : List Nat} {w w' : World} {base : Nat} {e : TypeId} {size : Nat} {v : Value} {n : Nat} {xs : List Value} (h : w.ownsRow base e size v n xs) (hk : Kept S w w') (hs : ∀ b, v.ownBlock = some b → b ∉ S) : w'.ownsRow base e size v n xs := by
  refine ⟨h.1, ?_⟩
  rcases h.2 with h0 | ⟨g, cap, cur, rfl, h1, h2, h3⟩
  · exact .inl h0
  · exact .inr ⟨g, cap, cur, rfl, h1, by rw [hk.block g (Array.getElem?_eq_some_iff.1 h2).1 (hs g rfl)]; exact h2, h3⟩

set_option maxHeartbeats 1000000 in
/-- slices.Equal at numbers. -/
theorem equal_any (k : IntKind) (u v : Value) (xs ys : List Int) (w : World) (hx : RdI w .i64 u xs) (hy : RdI w .i64 v ys) :
    Calls Try.prog 24 #[u, v] w fun e w' => e = .returned (.bool (decide (xs = ys))) ∧ ∃ m, w' = w.drewN m := by
  obtain ⟨A, c, rfl, hmx, hx⟩ := hx
  obtain ⟨B, d, rfl, hmy, hy⟩ := hy
  unfold maxLen at hmx hmy
  by_cases hl : xs.length = ys.length
  · obtain ⟨n, hn⟩ : ∃ n, n = xs.length := ⟨_, rfl⟩
    rw [← hl, ← hn]
    rw [← hn] at hmx hl
    have HN := Lib.hid hn
    have HL := Lib.hid hl
    clear hn hl
    have hb : ((n : Int) != (n : Int)) = false := by simp
    have HE : Hid (∀ W : World, (∀ j, j < n → xs[j]? = ys[j]?) → xs = ys) := fun W h => by
      apply List.ext_getElem?
      intro j
      rcases Nat.lt_or_ge j n with h0 | h0
      · exact h j h0
      · have h1 := HN.out; have h2 := HL.out
        rw [List.getElem?_eq_none (by omega), List.getElem?_eq_none (by omega)]
    go_enter Try.func24, Try.ntmps24
    go_wp2
    go_loopw [13] (fun i wr => ∃ (j m : Nat), j ≤ n ∧ i = .int .i64 j ∧ wr = w.drewN m ∧ ∀ q, q < j → xs[q]? = ys[q]?) (fun i _ => n - (intOf i).toNat)
    case atStart => exact ⟨0, 0, Nat.zero_le _, rfl, rfl, fun q hq => absurd hq (by omega)⟩
    case round =>
      obtain ⟨j, m, hj, rfl, rfl, hE⟩ := hrel
      have HQ := Lib.hid hE
      clear hE
      by_cases hlt : j < n
      · have hjx : j < xs.length := by have := HN.out; omega
        have hjy : j < ys.length := by have := HN.out; have := HL.out; omega
        obtain ⟨b1, o1, rfl, hc1⟩ := hx (by intro e; subst e; simp at hjx)
        obtain ⟨b2, o2, rfl, hc2⟩ := hy (by intro e; subst e; simp at hjy)
        have e1 := hc1 j _ (List.getElem?_eq_getElem hjx)
        have e2 := hc2 j _ (List.getElem?_eq_getElem hjy)
        have HC1 := Lib.hid hc1
        have HC2 := Lib.hid hc2
        clear hc1 hc2 hx hy
        obtain ⟨x, hx⟩ : ∃ x, x = xs[j] := ⟨_, rfl⟩
        obtain ⟨y, hy⟩ : ∃ y, y = ys[j] := ⟨_, rfl⟩
        rw [← hx] at e1
        rw [← hy] at e2
        have HX : Hid (x = xs[j]) := hx
        have HY : Hid (y = ys[j]) := hy
        clear hx hy
        by_cases hxy : x = y
        · have hne : (x != y) = false := by simp [hxy]
          have HXY := Lib.hid hxy
          clear hxy
          go_wp2_with fail
          go_quiet (fail)
          go_wp2
          go_roundw
          case rel => exact ⟨j + 1, m + nq, by omega, by go_num, by first | rfl | rw [World.drewN_drewN], fun q hq => by
            rcases Nat.lt_succ_iff_lt_or_eq.1 hq with h | rfl
            · exact HQ.out q h
            · rw [List.getElem?_eq_getElem hjx, List.getElem?_eq_getElem hjy, ← HX.out, ← HY.out, HXY.out]⟩
          case measure => simp [intOf]; omega
        · have hne : (x != y) = true := by simp [hxy]
          have HXY := Lib.hid hxy
          clear hxy
          go_wp2_with fail
          go_quiet (fail)
          go_wp2
          go_ret
          refine ⟨ret_bool ?_, m + nq, by first | rfl | rw [World.drewN_drewN]⟩
          symm
          simp only [decide_eq_false_iff_not]
          intro e
          subst e
          exact HXY.out (by rw [HX.out, HY.out])
      · go_wp2
        go_ret
        refine ⟨ret_bool ?_, _, rfl⟩
        symm
        simp only [decide_eq_true_eq]
        exact HE.out w (fun q hq => HQ.out q (by omega))
  · have hne : ((xs.length : Int) != (ys.length : Int)) = true := by simp; omega
    have HL := Lib.hid hl
    clear hl
    go_enter Try.func24, Try.ntmps24
    go_wp2
    go_ret
    refine ⟨ret_bool ?_, 0, rfl⟩
    symm
    simp only [decide_eq_false_iff_not]
    intro e
    exact HL.out (by rw [e])


theorem info2 : (Try.prog.info? 2).map (fun i => (i.zero, i.size, i.bytes)) = some (some (.int .i64 0), 1, 8) := by kernel_rfl

set_option maxHeartbeats 1000000 in
/-- slices.Clone at numbers: nil stays nil; all else is a new row. -/
theorem clone_any (u : Value) (xs : List Int) (w : World) (hx : RdI w .i64 u xs) (hsz : xs.length * 8 ≤ 140737488351232) (hnn : u.ownBlock ≠ none) :
    Calls Try.prog 28 #[u] w fun e w' => ∃ v, e = .returned v ∧ w'.ownsRow w.heap.size 2 1 v xs.length (xs.map (.int .i64)) ∧ Kept [] w w' := by
  obtain ⟨i0, hi, hz0, hz1, hz2⟩ := info_parts info2
  obtain ⟨A, c, rfl, hmx, hx⟩ := hx
  unfold maxLen at hmx
  cases A with
  | none => simp [Value.ownBlock] at hnn
  | some ad =>
    obtain ⟨b, off, sp⟩ := ad
    have hc : ∀ j u, (xs.map (Value.int .i64))[j]? = some u → w.cell? ((⟨b, off, sp⟩ : Addr).add j) = some u := by
      intro j u hu
      rw [List.getElem?_map] at hu
      obtain ⟨x, hxj, rfl⟩ := Option.map_eq_some_iff.1 hu
      obtain ⟨b', o', he, hcc⟩ := hx (by intro e; subst e; simp at hxj)
      injection he with he
      injection he with h1 h2 h3
      subst h1 h2 h3
      have ha : (⟨b, off, none⟩ : Addr).add j = ⟨b, off + j, none⟩ := by unfold Addr.add; split <;> simp_all
      rw [ha]
      exact hcc j x hxj
    have HC := Lib.hid hc
    have HX := Lib.hid hx
    clear hc hx
    have hnil : ∀ W, (binOp .eql 35 (.slice (some ⟨b, off, sp⟩) xs.length c) (.slice none 0 0)).run Try.prog W = .ok (.bool false) W := fun W => Lib.run_eql_slice_nil W 35 2 _ _ _ _ _ Try.underlying35
    go_enter Try.func28, Try.ntmps28
    go_wp2_with (at_builtin; refine wpList_append_own _ rfl _ _ 35 rfl w.heap.size 2 i0 (.int .i64 0) 1 8 Try.underlying35 hi hz0 hz1 hz2 rfl (by decide) _ 0 [] rfl ?c1 ⟨b, off, sp⟩ xs.length c (xs.map (.int .i64)) rfl (by simp) ?c2 (by simp [Value.oneCell']) ?c3 ?c4 ?c5 ?_)
    case c1 => exact World.ownsRow_made w #[] 0 (Nat.le_refl _) (Nat.zero_le _) rfl
    case c2 =>
      intro j u hu
      exact ((Kept.refl [] w).alloc _).cell (by simp) (HC.out j u hu)
    case c3 => unfold maxLen; omega
    case c4 => omega
    case c5 => simp
    intro v' w' hown hgrow _
    go_wp2
    go_ret
    refine ⟨v', rfl, hown, ?_⟩
    exact ((Kept.refl [] w).alloc _).grown hgrow (fun k hk => .inr (by simp [Value.ownBlock] at hk; omega))


theorem len_le_of_take (l : List Int) (n : Nat) (h : l.length = 12) (hn : n ≤ 12) : (l.take n).length = n := by simp; omega

set_option maxHeartbeats 1000000 in
/-- Marks: a new list of the marks. -/
theorem marks_any (b n : Nat) (l : List Int) (w : World) (h : WaterAt w b n l) (hn : 1 ≤ n) :
    Calls Try.prog 13 #[.pointer (some ⟨b, 0, none⟩)] w fun e w' => ∃ v, e = .returned v ∧ w'.ownsRow w.heap.size 2 1 v n ((l.take n).map (.int .i64)) ∧ Kept [] w w' := by
  have h0 := h.head
  have hn12 := h.1
  have hz : ((n : Int) == 0) = false := by simp; omega
  have hlen := len_le_of_take l n h.2.1 h.1
  have hcl : ∀ W : World, Kept [] w W → Calls Try.prog 28 #[.slice (some ⟨b, 1, none⟩) n 12] W fun e w' => ∃ v, e = .returned v ∧ w'.ownsRow W.heap.size 2 1 v n ((l.take n).map (.int .i64)) ∧ Kept [] W w' := by
    intro W hW
    have hA := h.kept hW (by simp)
    have := clone_any (.slice (some ⟨b, 1, none⟩) n 12) (l.take n) W ⟨some ⟨b, 1, none⟩, 12, by rw [hlen], by rw [hlen]; unfold maxLen; omega, fun _ => ⟨b, 1, rfl, fun i x hx => by
      have hi : i < n := by
        rcases Nat.lt_or_ge i n with h0 | h0
        · exact h0
        · rw [List.getElem?_eq_none (by omega)] at hx; cases hx
      rw [hA.idx i hi]
      rw [List.getElem?_take, if_pos hi] at hx
      rw [List.getD_eq_getElem?_getD, hx]; rfl⟩⟩ (by rw [hlen]; omega) (by simp [Value.ownBlock])
    rwa [hlen] at this
  have ha := arr48 b n hn12
  clear hlen
  go_enter Try.func13, Try.ntmps13
  go_wp2_with (go_at_call 25; refine (none_no b n l _ h hn).mono ?_; rintro e w' ⟨rfl, rfl⟩)
  go_still_tail 8, (by kernel_rfl)
  change wpList _ _ _ _ _ w.drew
  go_wp2_with (go_at_call 28; refine (hcl _ (Kept.refl [] w).drew).mono ?_; rintro e w' ⟨v, rfl, ho, hk⟩)
  go_ret
  exact ⟨v, rfl, ho, (Kept.refl [] w).drew.trans hk⟩

end Go.Proofs.Ytadmhofipapmcaa

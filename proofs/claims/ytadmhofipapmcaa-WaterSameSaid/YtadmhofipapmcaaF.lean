/- The document's marks: its functions, each walked once; New and From of both; Clone and Same. -/
import Derived.Test.YtadmhofipapmcaaC
import Derived.Test.YtadmhofipapmcaaD
import Derived.Deep.AppendLies
set_option linter.unusedVariables false
set_option linter.unusedSimpArgs false
namespace Go.Proofs.Ytadmhofipapmcaa
open Go.RowKit

/-- Block b holds the document's marks r; the list lies in block g. -/
def RefAt (w : World) (b g : Nat) (r : List Int) : Prop :=
  b ≠ g ∧ r ≠ [] ∧ r.length ≤ 12 ∧ ∃ c, Blk w b #[.slice (some ⟨g, 0, none⟩) r.length c] 60 ∧ RdI w .i64 (.slice (some ⟨g, 0, none⟩) r.length c) r
theorem RefAt.kept {S : List Nat} {w w' : World} {b g : Nat} {r : List Int} (h : RefAt w b g r) (k : Kept S w w') (hb : b ∉ S) (hg : g ∉ S) : RefAt w' b g r := by
  obtain ⟨h1, h2, h3, c, h4, h5⟩ := h
  exact ⟨h1, h2, h3, c, h4.kept k hb, h5.kept k (fun x hx => by simp [Value.ownBlock] at hx; subst hx; exact hg)⟩
theorem RefAt.keep {w w' : World} {b g : Nat} {r : List Int} (h : RefAt w b g r) (k : Kept [] w w') : RefAt w' b g r := h.kept k (by simp) (by simp)
theorem RefAt.pos {w : World} {b g : Nat} {r : List Int} (h : RefAt w b g r) : 1 ≤ r.length := by
  have := h.2.1
  cases r with
  | nil => exact absurd rfl this
  | cons x r => simp
theorem RefAt.head {w : World} {b g : Nat} {r : List Int} (h : RefAt w b g r) : ∃ c, w.cell? ⟨b, 0, none⟩ = some (.slice (some ⟨g, 0, none⟩) r.length c) := by
  obtain ⟨_, _, _, c, h4, _⟩ := h
  exact ⟨c, by rw [h4.cell]; rfl⟩
theorem RefAt.cell {w : World} {b g : Nat} {r : List Int} (h : RefAt w b g r) (i : Nat) (x : Int) (hx : r[i]? = some x) : w.cell? ⟨g, i, none⟩ = some (.int .i64 x) := by
  obtain ⟨_, _, _, c, _, h5⟩ := h
  have := h5.cell i x hx
  rwa [Nat.zero_add] at this

theorem refmay_any (t : Int) (w : World) :
    Calls Try.prog 30 #[.int .i64 t] w fun e w' => e = .returned (.bool (mayB t)) ∧ w = w' := by
  unfold mayB
  by_cases h : 0 ≤ t
  · go_enter Try.func30, Try.ntmps30
    go_wp2
    go_ret
    exact ⟨by simp [h], rfl⟩
  · go_enter Try.func30, Try.ntmps30
    go_wp2
    go_ret
    exact ⟨by simp; omega, rfl⟩

theorem mins_fold (r : List Int) (k : Nat) (hk : k < r.length) (f : Int) : (r.take (k + 1)).foldl min f = min ((r.take k).foldl min f) (r[k]?.getD 0) := by
  rw [List.take_succ_eq_append_getElem hk, List.foldl_append]
  simp [List.getElem?_eq_getElem hk]
theorem minOf_fold (r : List Int) (hr : r ≠ []) (h : InRange r) : r.foldl min 1099511627777 = minOf r := by
  cases r with
  | nil => exact absurd rfl hr
  | cons x r =>
    have := (h x (by simp)).2
    show r.foldl min (min 1099511627777 x) = r.foldl min x
    rw [Int.min_eq_right this]

set_option maxHeartbeats 1000000 in
theorem refmerged_any (b g : Nat) (r : List Int) (w : World) (h : RefAt w b g r) (hr : InRange r) :
    Calls Try.prog 31 #[.pointer (some ⟨b, 0, none⟩)] w fun e w' => e = .returned (.int .i64 (minOf r)) ∧ w = w' := by
  obtain ⟨cc, h0⟩ := h.head
  have hlen := h.2.2.1
  have HC : Hid (∀ (i : Nat) x, r[i]? = some x → w.cell? ⟨g, i, none⟩ = some (.int .i64 x)) := h.cell
  have HF : Hid (r.foldl min 1099511627777 = minOf r) := minOf_fold r h.2.1 hr
  obtain ⟨n, hn⟩ : ∃ n, n = r.length := ⟨_, rfl⟩
  rw [← hn] at h0 hlen
  have HN := Lib.hid hn
  clear hn h
  go_enter Try.func31, Try.ntmps31
  go_wp2
  go_loop [3, 4] (fun m i => ∃ k : Nat, k ≤ n ∧ i = .int .i64 k ∧ m = .int .i64 ((r.take k).foldl min 1099511627777)) (fun _ i => n - (intOf i).toNat)
  case atStart => exact ⟨0, Nat.zero_le _, rfl, rfl⟩
  case round =>
    obtain ⟨k, hk, rfl, rfl⟩ := hrel
    by_cases hlt : k < n
    · have hl : k < r.length := by have := HN.out; omega
      have hck := HC.out k _ (List.getElem?_eq_getElem hl)
      have HS : Hid ((r.take (k + 1)).foldl min 1099511627777 = min ((r.take k).foldl min 1099511627777) r[k]) := by
        show _ = _
        rw [mins_fold r k hl]; simp [List.getElem?_eq_getElem hl]
      go_wp2
      go_round
      case rel => exact ⟨k + 1, by omega, by go_num, by rw [HS.out]⟩
      case measure => simp [intOf]; omega
    · go_wp2
      go_ret
      refine ⟨ret_int ?_, rfl⟩
      have := HN.out
      rw [List.take_of_length_le (by omega)]
      exact HF.out


def ratF (r : List Int) (i : Int) : Int := if 0 ≤ i ∧ i < r.length then r.getD i.toNat 0 else 0

set_option maxHeartbeats 1000000 in
theorem refat_any (b g : Nat) (r : List Int) (i : Int) (w : World) (h : RefAt w b g r) :
    Calls Try.prog 32 #[.pointer (some ⟨b, 0, none⟩), .int .i64 i] w fun e w' => e = .returned (.int .i64 (ratF r i)) ∧ w = w' := by
  obtain ⟨cc, h0⟩ := h.head
  have hlen := h.2.2.1
  have HC : Hid (∀ (i : Nat) x, r[i]? = some x → w.cell? ⟨g, i, none⟩ = some (.int .i64 x)) := h.cell
  clear h
  by_cases c1 : i < 0
  · have e : ratF r i = 0 := by unfold ratF; rw [if_neg (by omega)]
    rw [e]
    go_enter Try.func32, Try.ntmps32
    go_wp2
    go_ret
    exact ⟨rfl, rfl⟩
  · by_cases c2 : (r.length : Int) ≤ i
    · have e : ratF r i = 0 := by unfold ratF; rw [if_neg (by omega)]
      rw [e]
      go_enter Try.func32, Try.ntmps32
      go_wp2
      go_ret
      exact ⟨rfl, rfl⟩
    · obtain ⟨j, rfl⟩ := Int.eq_ofNat_of_zero_le (show 0 ≤ i by omega)
      have hj : j < r.length := by omega
      have hc := HC.out j _ (List.getElem?_eq_getElem hj)
      have e : ratF r j = r[j] := by unfold ratF; rw [if_pos (by omega)]; simp [List.getElem?_eq_getElem hj]
      rw [e]
      obtain ⟨x, hx⟩ : ∃ x, r[j] = x := ⟨_, rfl⟩
      rw [hx] at hc ⊢
      clear hx e
      go_enter Try.func32, Try.ntmps32
      go_wp2
      go_ret
      exact ⟨rfl, rfl⟩

set_option maxHeartbeats 1000000 in
theorem refhorizon_any (b g : Nat) (r : List Int) (win : Int) (w : World) (h : RefAt w b g r) (hr : InRange r) :
    Calls Try.prog 33 #[.pointer (some ⟨b, 0, none⟩), .int .i64 win] w fun e w' => e = .returned (.int .i64 (horF (minOf r) win)) ∧ w = w' := by
  have hm := hr _ (minOf_mem r h.2.1)
  obtain ⟨hm0, hm1⟩ := hm
  have M := fun W hW => refmerged_any b g r W hW hr
  generalize minOf r = m at *
  unfold horF
  by_cases c1 : m = 1099511627777
  · subst c1
    rw [if_pos rfl]
    go_enter Try.func33, Try.ntmps33
    go_wp2_with (go_at_call 31; refine (M _ h).mono ?_; rintro e w' ⟨rfl, rfl⟩)
    go_ret
    exact ⟨rfl, rfl⟩
  · rw [if_neg c1]
    have c1' : (m == 1099511627777) = false := by simp [c1]
    by_cases c2 : win < 0
    · rw [if_pos (.inl c2)]
      go_enter Try.func33, Try.ntmps33
      go_wp2_with (go_at_call 31; refine (M _ h).mono ?_; rintro e w' ⟨rfl, rfl⟩)
      go_ret
      exact ⟨rfl, rfl⟩
    · by_cases c3 : m < win
      · rw [if_pos (.inr c3)]
        go_enter Try.func33, Try.ntmps33
        go_wp2_with (go_at_call 31; refine (M _ h).mono ?_; rintro e w' ⟨rfl, rfl⟩)
        go_ret
        exact ⟨rfl, rfl⟩
      · rw [if_neg (by omega)]
        go_enter Try.func33, Try.ntmps33
        go_wp2_with (go_at_call 31; refine (M _ h).mono ?_; rintro e w' ⟨rfl, rfl⟩)
        go_ret
        exact ⟨rfl, rfl⟩

/-- What the document's Mark does. -/
def rmarkOk (r : List Int) (i t : Int) : Bool := decide (0 ≤ i) && decide (i < r.length) && mayB t && decide (r.getD i.toNat 0 ≤ t)
def rmarkL (r : List Int) (i t : Int) : List Int := if rmarkOk r i t = true then r.set i.toNat t else r
def rmarkErr (r : List Int) (i t : Int) : Int := if (decide (0 ≤ i) && decide (i < r.length) && mayB t) = true then (if r.getD i.toNat 0 ≤ t then 0 else 120) else 1
def rmarkRose (r : List Int) (i t : Int) : Bool := decide (minOf r < minOf (rmarkL r i t))

set_option maxHeartbeats 1000000 in
theorem refmark_bad (b g : Nat) (r : List Int) (i t : Int) (w : World) (h : RefAt w b g r) (hb : (decide (0 ≤ i) && decide (i < r.length) && mayB t) = false) :
    Calls Try.prog 20 #[.pointer (some ⟨b, 0, none⟩), .int .i64 i, .int .i64 t] w fun e w' => e = .returned (.tuple #[.bool false, .int .i64 1]) ∧ w = w' := by
  obtain ⟨cc, h0⟩ := h.head
  clear h
  by_cases c1 : i < 0
  · clear hb
    go_enter Try.func20, Try.ntmps20
    go_wp2_with fail
    go_ret2
    exact ⟨rfl, rfl⟩
  · by_cases c2 : (r.length : Int) ≤ i
    · clear hb
      go_enter Try.func20, Try.ntmps20
      go_wp2_with fail
      go_ret2
      exact ⟨rfl, rfl⟩
    · have hm : mayB t = false := by
        have h1 : decide (0 ≤ i) = true := by simp; omega
        have h2 : decide (i < r.length) = true := by simp; omega
        rw [h1, h2] at hb; simpa using hb
      have HM := Lib.hid hm
      clear hb hm
      go_enter Try.func20, Try.ntmps20
      go_wp2_with (go_at_call 30; refine (refmay_any t _).mono ?_; rintro e w' ⟨rfl, rfl⟩; rw [HM.out])
      go_ret2
      exact ⟨rfl, rfl⟩

set_option maxHeartbeats 1000000 in
theorem refmark_fall (b g : Nat) (r : List Int) (i : Nat) (t x : Int) (w : World) (h : RefAt w b g r) (hx : r[i]? = some x) (hm : mayB t = true) (ht : t < x) :
    Calls Try.prog 20 #[.pointer (some ⟨b, 0, none⟩), .int .i64 i, .int .i64 t] w fun e w' => e = .returned (.tuple #[.bool false, .int .i64 120]) ∧ w = w' := by
  obtain ⟨cc, h0⟩ := h.head
  have hc := h.cell i x hx
  have hl : i < r.length := (List.getElem?_eq_some_iff.1 hx).1
  have hlen := h.2.2.1
  have HM := Lib.hid hm
  clear hm h hx
  go_enter Try.func20, Try.ntmps20
  go_wp2_with (go_at_call 30; refine (refmay_any t _).mono ?_; rintro e w' ⟨rfl, rfl⟩; rw [HM.out])
  go_ret2
  exact ⟨rfl, rfl⟩

set_option maxHeartbeats 1000000 in
theorem refmark_ok (b g : Nat) (r : List Int) (i : Nat) (t x : Int) (w : World) (h : RefAt w b g r) (hr : InRange r) (hx : r[i]? = some x) (hm : mayB t = true) (ht : ¬ t < x) :
    Calls Try.prog 20 #[.pointer (some ⟨b, 0, none⟩), .int .i64 i, .int .i64 t] w fun e w' => e = .returned (.tuple #[.bool (decide (minOf r < minOf (r.set i t))), .int .i64 0]) ∧ ∃ g', w.heap.size ≤ g' ∧ RefAt w' b g' (r.set i t) ∧ Kept [b] w w' := by
  obtain ⟨i0, hi, hz0, hz1, hz2⟩ := info_parts info2
  obtain ⟨cc, h0⟩ := h.head
  have hc := h.cell i x hx
  have hl : i < r.length := (List.getElem?_eq_some_iff.1 hx).1
  have hlen := h.2.2.1
  have HM := Lib.hid hm
  have HX := Lib.hid hx
  have hca : ∀ j u, (r.map (Value.int .i64))[j]? = some u → w.cell? ((⟨g, 0, none⟩ : Addr).add j) = some u := by
    intro j u hu
    rw [List.getElem?_map] at hu
    obtain ⟨y, hy, rfl⟩ := Option.map_eq_some_iff.1 hu
    have ha : (⟨g, 0, none⟩ : Addr).add j = ⟨g, j, none⟩ := by unfold Addr.add; split <;> simp_all
    rw [ha]
    exact h.cell j y hy
  have HCA := Lib.hid hca
  clear hm hx hca
  go_enter Try.func20, Try.ntmps20
  go_wp2_with (first | (go_at_call 30; refine (refmay_any t _).mono ?_; rintro e w' ⟨rfl, rfl⟩; rw [HM.out]) | (go_at_call 31; refine (refmerged_any b g r _ h hr).mono ?_; rintro e w' ⟨rfl, rfl⟩) | (at_builtin; refine wpList_append_own _ rfl _ _ 35 rfl w.heap.size 2 i0 (.int .i64 0) 1 8 Try.underlying35 hi hz0 hz1 hz2 rfl (by decide) _ 0 [] rfl (World.ownsRow_nil _ _ _ _) ⟨g, 0, none⟩ r.length cc (r.map (.int .i64)) rfl (by simp) HCA.out (by simp [Value.oneCell']) (by unfold maxLen; omega) (by omega) (Nat.le_refl _) ?_))
  intro v' w1 hown hgrow _
  obtain ⟨g', cap, rfl, hgb, hgl⟩ := hown.form (by omega)
  have hk1 : Kept [] w w1 := (Kept.refl [] w).grown hgrow (fun k hk => by simp [Value.ownBlock] at hk)
  obtain ⟨hbg, hne, hlen', c0, hB, hRd⟩ := h
  have hB1 := hB.kept hk1 (by simp)
  have hbw := hB.lt
  have f1 := hB1.free 0
  have e0 := hk1.cell (a := ⟨b, 0, none⟩) (by simp) h0
  have e1 : w1.cell? ⟨g', i, none⟩ = some (.int .i64 x) := by
    rw [hown.cellAt i (by omega)]; rw [List.getElem?_map, HX.out]; rfl
  have f2 := hown.frozenAt i
  obtain ⟨hst1, hst2⟩ := hown.stored i (.int .i64 t)
  have hne' : ¬ b = g' := by omega
  have hne2 : ¬ g' = b := by omega
  have HST := Lib.hid hst1
  have HOWN := Lib.hid hown
  clear hst1 hst2 hown
  go_wp2_with fail
  have hRA : RefAt ((w1.setCell ⟨g', i, none⟩ (.int .i64 t)).setCell ⟨b, 0, none⟩ (.slice (some ⟨g', 0, none⟩) r.length cap)) b g' (r.set i t) := by
    refine ⟨hne', ?_, by rw [List.length_set]; exact hlen, cap, ?_, ?_⟩
    · intro e; have := congrArg List.length e; simp at this; subst this; simp at hl
    · rw [List.length_set]
      have h5 := (hB1.set_other (p := ⟨g', i, none⟩) (by simpa using hne2) (.int .i64 t)).set 0 (.slice (some ⟨g', 0, none⟩) r.length cap)
      simpa using h5
    · rw [List.length_set]
      have h6 := HST.out
      rw [show (r.map (Value.int .i64)).set i (.int .i64 t) = (r.set i t).map (Value.int .i64) by rw [List.map_set]] at h6
      have h7 := (RdI.of_own h6).1
      have h8 : Kept [b] (w1.setCell ⟨g', i, none⟩ (.int .i64 t)) ((w1.setCell ⟨g', i, none⟩ (.int .i64 t)).setCell ⟨b, 0, none⟩ (.slice (some ⟨g', 0, none⟩) r.length cap)) := (Kept.refl _ _).setCell (.inl (by simp)) _
      exact h7.kept h8 (fun q hq => by simp [Value.ownBlock] at hq; subst hq; simp; omega)
  refine (refmerged_any b g' (r.set i t) _ hRA (hr.set i HM.out)).mono ?_
  rintro e w' ⟨rfl, rfl⟩
  go_wp2_with fail
  go_ret2
  refine ⟨rfl, g', hgb, hRA, ?_⟩
  exact (((hk1.nil (S := [b])).setCell (.inr (by simpa using hgb)) _).setCell (.inl (by simp)) _)

/-- The document's Mark, at whatever arguments. -/
theorem refmark_any (b g : Nat) (r : List Int) (i t : Int) (w : World) (h : RefAt w b g r) (hr : InRange r) :
    Calls Try.prog 20 #[.pointer (some ⟨b, 0, none⟩), .int .i64 i, .int .i64 t] w fun e w' =>
      e = .returned (.tuple #[.bool (rmarkRose r i t), .int .i64 (rmarkErr r i t)]) ∧ ∃ g', (g' = g ∨ w.heap.size ≤ g') ∧ RefAt w' b g' (rmarkL r i t) ∧ Kept [b] w w' := by
  cases hb : (decide (0 ≤ i) && decide (i < r.length) && mayB t) with
  | false =>
    refine (refmark_bad b g r i t w h hb).mono ?_
    rintro e w' ⟨rfl, rfl⟩
    have e1 : rmarkL r i t = r := by unfold rmarkL rmarkOk; rw [hb]; simp
    have e2 : rmarkErr r i t = 1 := by unfold rmarkErr; rw [hb]; simp
    have e3 : rmarkRose r i t = false := by unfold rmarkRose; rw [e1]; simp
    rw [e1, e2, e3]
    exact ⟨rfl, g, .inl rfl, h, Kept.refl _ _⟩
  | true =>
    have hb' := hb
    simp only [Bool.and_eq_true, decide_eq_true_eq] at hb
    obtain ⟨⟨h0, h1⟩, hm⟩ := hb
    obtain ⟨j, rfl⟩ := Int.eq_ofNat_of_zero_le h0
    have hj : j < r.length := by omega
    have hx := List.getElem?_eq_getElem hj
    have hg : r.getD j 0 = r[j] := by rw [List.getD_eq_getElem?_getD, hx]; rfl
    by_cases ht : r[j] ≤ t
    · refine (refmark_ok b g r j t _ w h hr hx hm (by omega)).mono ?_
      rintro e w' ⟨rfl, g', h1, h2, h3⟩
      have e1 : rmarkL r j t = r.set j t := by unfold rmarkL rmarkOk; rw [hb', Int.toNat_natCast, hg]; simp [ht]
      have e2 : rmarkErr r j t = 0 := by unfold rmarkErr; rw [hb', Int.toNat_natCast, hg]; simp [ht]
      have e3 : rmarkRose r j t = decide (minOf r < minOf (r.set j t)) := by unfold rmarkRose; rw [e1]
      rw [e1, e2, e3]
      exact ⟨rfl, g', .inr h1, h2, h3⟩
    · refine (refmark_fall b g r j t _ w h hx hm (by omega)).mono ?_
      rintro e w' ⟨rfl, rfl⟩
      have e1 : rmarkL r j t = r := by unfold rmarkL rmarkOk; rw [hb', Int.toNat_natCast, hg]; simp [ht]
      have e2 : rmarkErr r j t = 120 := by unfold rmarkErr; rw [hb', Int.toNat_natCast, hg]; simp [ht]
      have e3 : rmarkRose r j t = false := by unfold rmarkRose; rw [e1]; simp
      rw [e1, e2, e3]
      exact ⟨rfl, g, .inl rfl, h, Kept.refl _ _⟩

/-- The two marks agree. -/
theorem mark_same (n : Nat) (l : List Int) (i t : Int) (hl : l.length = 12) (hn : n ≤ 12) :
    markErr n l i t = rmarkErr (l.take n) i t ∧ (markL n l i t).take n = rmarkL (l.take n) i t ∧ markRose n l i t = rmarkRose (l.take n) i t := by
  have hlen : (l.take n).length = n := len_le_of_take l n hl hn
  have key : ∀ j : Nat, j < n → (l.take n).getD j 0 = l.getD j 0 := fun j hj => by
    rw [List.getD_eq_getElem?_getD, List.getD_eq_getElem?_getD, List.getElem?_take, if_pos hj]
  have hok : markOk n l i t = rmarkOk (l.take n) i t := by
    unfold markOk rmarkOk
    rw [hlen]
    by_cases h0 : 0 ≤ i
    · by_cases h1 : i < n
      · rw [key i.toNat (by omega)]
      · have : decide (i < (n : Int)) = false := by simpa using h1
        rw [this]; simp
    · have : decide (0 ≤ i) = false := by simpa using h0
      rw [this]; simp
  have h2 : (markL n l i t).take n = rmarkL (l.take n) i t := by
    unfold markL rmarkL
    rw [hok]
    split
    · rw [List.take_set]
    · rfl
  refine ⟨?_, h2, ?_⟩
  · unfold markErr rmarkErr
    rw [hlen]
    split
    · rename_i hc
      simp only [Bool.and_eq_true, decide_eq_true_eq] at hc
      rw [key i.toNat (by omega)]
    · rfl
  · unfold markRose rmarkRose
    rw [h2]
theorem at_same (n : Nat) (l : List Int) (i : Int) (hl : l.length = 12) (hn : n ≤ 12) : atF n l i = ratF (l.take n) i := by
  have hlen : (l.take n).length = n := len_le_of_take l n hl hn
  unfold atF ratF
  rw [hlen]
  by_cases h : 0 ≤ i ∧ i < n
  · rw [if_pos (by simpa using h), if_pos h, List.getD_eq_getElem?_getD, List.getD_eq_getElem?_getD, List.getElem?_take, if_pos (by omega)]
  · rw [if_neg (by simpa using h), if_neg h]

end Go.Proofs.Ytadmhofipapmcaa

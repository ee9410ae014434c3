/- tree.New. -/
import Derived.Test.YtiiiflckphgdiaaT1
set_option linter.unusedVariables false
set_option linter.unusedSimpArgs false
namespace Go.Proofs.Ytiiiflckphgdiaa
open Go.RowKit Tr

def rngB (n : Nat) (p : Int) : Bool := decide (-1 ≤ p) && decide (p < n)
def climbOk (P : List Int) : Bool := (List.range P.length).all fun i => (climbs P P.length i).isSome
def restOk (P : List Int) : Bool := P.all (rngB P.length) && (P.count (-1) == 1) && climbOk P
def treeErr (P : List Int) : Int := if 1 ≤ P.length ∧ P.length ≤ 16 then (if restOk P = true then 0 else 170) else 1

theorem count_one {P : List Int} (h : P.count (-1) = 1) : ∀ i j : Nat, P[i]? = some (-1) → P[j]? = some (-1) → i = j := by
  induction P with
  | nil => intro i j hi; simp at hi
  | cons x P ih =>
    intro i j hi hj
    rw [List.count_cons] at h
    cases i with
    | zero =>
      cases j with
      | zero => rfl
      | succ j =>
        simp at hi hj
        subst hi
        simp at h
        have : (-1 : Int) ∈ P := List.mem_of_getElem? hj
        exact absurd this (List.count_eq_zero.1 h)
    | succ i =>
      cases j with
      | zero =>
        simp at hi hj
        subst hj
        simp at h
        have : (-1 : Int) ∈ P := List.mem_of_getElem? hi
        exact absurd this (List.count_eq_zero.1 h)
      | succ j =>
        simp at hi hj
        have hmem : (-1 : Int) ∈ P := List.mem_of_getElem? hi
        have hpos : 0 < P.count (-1) := List.count_pos_iff.2 hmem
        have hc : P.count (-1) = 1 := by split at h <;> omega
        rw [ih hc i j hi hj]

theorem par_get {P : List Int} {i : Nat} (hi : i < P.length) : par P i = P[i] := by
  unfold par
  rw [Int.toNat_natCast, List.getD_eq_getElem?_getD, List.getElem?_eq_getElem hi]
  rfl
theorem rng_of {P : List Int} (h : P.all (rngB P.length) = true) : ∀ i, inB P.length i → par P i = -1 ∨ inB P.length (par P i) := by
  intro i hi
  unfold inB at hi ⊢
  obtain ⟨j, rfl⟩ := Int.eq_ofNat_of_zero_le hi.1
  have hj : j < P.length := by omega
  have := List.all_eq_true.1 h _ (List.getElem_mem hj)
  rw [par_get hj]
  simp [rngB] at this
  omega
theorem tree_of {P : List Int} (h : treeErr P = 0) : Tree P := by
  unfold treeErr at h
  split at h
  · rename_i hl
    split at h
    · rename_i hr
      simp only [restOk, Bool.and_eq_true, beq_iff_eq] at hr
      obtain ⟨⟨h1, h2⟩, h3⟩ := hr
      refine ⟨hl.1, hl.2, rng_of h1, ?_, ?_⟩
      · intro i j hi hj ei ej
        unfold inB at hi hj
        obtain ⟨a, rfl⟩ := Int.eq_ofNat_of_zero_le hi.1
        obtain ⟨b, rfl⟩ := Int.eq_ofNat_of_zero_le hj.1
        have ha : a < P.length := by omega
        have hb : b < P.length := by omega
        rw [par_get ha] at ei
        rw [par_get hb] at ej
        rw [count_one h2 a b (by rw [List.getElem?_eq_getElem ha, ei]) (by rw [List.getElem?_eq_getElem hb, ej])]
      · intro i hi
        unfold inB at hi
        obtain ⟨a, rfl⟩ := Int.eq_ofNat_of_zero_le hi.1
        exact List.all_eq_true.1 h3 a (List.mem_range.2 (by omega))
    · simp at h
  · simp at h

def NewPost (w : World) (P : List Int) (e : Ending) (w' : World) : Prop :=
  Kept [] w w' ∧ ((treeErr P ≠ 0 ∧ e = .returned (.tuple #[.pointer none, .int .i64 (treeErr P)])) ∨
    (treeErr P = 0 ∧ e = .returned (.tuple #[.pointer (some ⟨w.heap.size, 0, none⟩), .int .i64 0]) ∧ TreeAt w' w.heap.size P))

theorem bad170 {P : List Int} (h1 : 1 ≤ P.length) (h2 : P.length ≤ 16) (h3 : restOk P = false) : treeErr P = 170 := by
  unfold treeErr; rw [if_pos ⟨h1, h2⟩, h3]; rfl
theorem good0 {P : List Int} (h1 : 1 ≤ P.length) (h2 : P.length ≤ 16) (h3 : restOk P = true) : treeErr P = 0 := by
  unfold treeErr; rw [if_pos ⟨h1, h2⟩, h3]; rfl
theorem climbV_neg {P : List Int} {i : Int} : climbV P i < 0 ↔ (climbs P P.length i).isSome = false := by
  unfold climbV
  cases climbs P P.length i <;> simp

set_option maxRecDepth 100000 in
set_option maxHeartbeats 2000000 in
theorem new_any (v : Value) (P : List Int) (w : World) (hx : RdI w .i64 v P) :
    Calls Try.prog 25 #[v] w (NewPost w P) := by
  obtain ⟨A, c, rfl, hmx, hx⟩ := hx
  unfold maxLen at hmx
  by_cases c0 : P.length < 1 ∨ 16 < P.length
  · have e : treeErr P = 1 := by unfold treeErr; rw [if_neg (by omega)]
    have HE := Lib.hid e
    clear e
    rcases c0 with c1 | c1
    · have c1' : (P.length : Int) < 1 := by omega
      go_enter Try.func25, Try.ntmps25
      go_wp2
      go_ret2
      exact ⟨Kept.refl _ _, .inl ⟨by rw [HE.out]; decide, by rw [HE.out]; rfl⟩⟩
    · have c1' : ¬ (P.length : Int) < 1 := by omega
      have c2' : (16 : Int) < P.length := by omega
      go_enter Try.func25, Try.ntmps25
      go_wp2
      go_ret2
      exact ⟨Kept.refl _ _, .inl ⟨by rw [HE.out]; decide, by rw [HE.out]; rfl⟩⟩
  · obtain ⟨b, off, rfl, hc⟩ := hx (by intro e; subst e; simp at c0)
    obtain ⟨n, hn⟩ : ∃ n, n = P.length := ⟨_, rfl⟩
    have hn1 : 1 ≤ n := by omega
    have hn2 : n ≤ 16 := by omega
    rw [← hn] at hmx ⊢
    have HN := Lib.hid hn
    have HC := Lib.hid hc
    clear hn hc hx c0
    have hb1 : decide ((n : Int) < 1) = false := by simp; omega
    have hb2 : decide ((16 : Int) < (n : Int)) = false := by simp; omega
    have HB : Hid (restOk P = false → treeErr P = 170) := fun h => bad170 (by have := HN.out; omega) (by have := HN.out; omega) h
    go_enter Try.func25, Try.ntmps25
    go_wp2_with fail
    go_loopw [6, 23] (fun r i wr => ∃ (k : Nat), k ≤ n ∧ i = .int .i64 k ∧ r = .int .i64 ((P.take k).count (-1) : Nat) ∧ (P.take k).all (rngB n) = true ∧ RawAt wr w.heap.size n (fill16 P k) ∧ Kept [] w wr) (fun _ i _ => n - (intOf i).toNat)
    case atStart =>
      refine ⟨0, Nat.zero_le _, rfl, rfl, rfl, ⟨hn2, rfl, ?_⟩, (Kept.refl [] w).alloc _⟩
      exact Blk.new w (tcells n (fill16 P 0)) 83
    case round =>
      obtain ⟨k, hk, rfl, rfl, hall, hRr, hKr⟩ := hrel
      have HA := Lib.hid hall
      clear hall
      by_cases hlt : k < n
      · have hl : k < P.length := by have := HN.out; omega
        have hck := hKr.cell (by simp) (HC.out k _ (List.getElem?_eq_getElem hl))
        obtain ⟨x, hxk⟩ : ∃ x, P[k] = x := ⟨_, rfl⟩
        rw [hxk] at hck
        have HX := Lib.hid hxk
        clear hxk
        have hcell := RawAt.at hRr k (by omega)
        have hf := hRr.free (1 + k)
        have hcl : (P.take k).count (-1) ≤ k := Nat.le_trans List.count_le_length (by simp; omega)
        have hbad : Hid (rngB n x = false → restOk P = false) := fun h => by
          unfold restOk
          have : P.all (rngB P.length) = false := by
            rw [List.all_eq_false]
            exact ⟨x, by rw [← HX.out]; exact List.getElem_mem hl, by rw [← HN.out, h]; simp⟩
          rw [this]; simp
        by_cases x1 : x < -1
        · go_wp2_with fail
          go_ret2
          have e := HB.out (hbad.out (by unfold rngB; simp; omega))
          exact ⟨hKr, .inl ⟨by rw [e]; decide, by rw [e]; rfl⟩⟩
        · by_cases x2 : (n : Int) ≤ x
          · go_wp2_with fail
            go_ret2
            have e := HB.out (hbad.out (by unfold rngB; simp; omega))
            exact ⟨hKr, .inl ⟨by rw [e]; decide, by rw [e]; rfl⟩⟩
          · have hgood : rngB n x = true := by unfold rngB; simp; omega
            have HG := Lib.hid hgood
            clear hgood
            have hset := hRr.set k x
            have HSET : Hid (RawAt (wr.setCell ⟨w.heap.size, 1 + k, none⟩ (.int .i64 x)) w.heap.size n (fill16 P (k + 1))) := by
              show RawAt _ _ _ _
              rw [← fill16_set P k hl (by omega), HX.out]; exact hset
            clear hset
            have HT : Hid ((P.take (k + 1)).all (rngB n) = true) := by
              show _ = _
              rw [List.take_succ_eq_append_getElem hl, List.all_append, HA.out, HX.out]; simp [HG.out]
            by_cases x3 : x = -1
            · have HCT : Hid ((P.take (k + 1)).count (-1) = (P.take k).count (-1) + 1) := by
                show _ = _
                rw [List.take_succ_eq_append_getElem hl, List.count_append, HX.out, x3]; simp
              have hxb : (x == -1) = true := by simp [x3]
              have HX3 := Lib.hid x3
              clear x3
              go_wp2_with fail
              go_roundw
              case rel => exact ⟨k + 1, by omega, by go_num, by rw [HCT.out]; go_num, HT.out, HSET.out, hKr.setCell (.inr (Nat.le_refl _)) _⟩
              case measure => simp [intOf]; omega
            · have HCT : Hid ((P.take (k + 1)).count (-1) = (P.take k).count (-1)) := by
                show _ = _
                rw [List.take_succ_eq_append_getElem hl, List.count_append, HX.out]
                have : List.count (-1) [x] = 0 := by rw [List.count_eq_zero]; simp; omega
                omega
              have hxb : (x == -1) = false := by simp [x3]
              have HX3 := Lib.hid x3
              clear x3
              go_wp2_with fail
              go_roundw
              case rel => exact ⟨k + 1, by omega, by go_num, by rw [HCT.out], HT.out, HSET.out, hKr.setCell (.inr (Nat.le_refl _)) _⟩
              case measure => simp [intOf]; omega
      · have hkn : k = n := by omega
        subst hkn
        have hlen : P.take k = P := List.take_of_length_le (by have := HN.out; omega)
        have HL := Lib.hid hlen
        clear hlen
        rw [HL.out]
        have HTA : Hid (TreeAt wr w.heap.size P) := by unfold TreeAt; rw [← HN.out]; exact hRr
        have HALL : Hid (P.all (rngB P.length) = true) := by have := HA.out; rw [HL.out] at this; rw [← HN.out]; exact this
        clear hRr
        by_cases r1 : P.count (-1) = 1
        · have hrb : (((P.count (-1) : Nat) : Int) != 1) = false := by rw [r1]; rfl
          have HR1 := Lib.hid r1
          clear r1
          go_wp2_with fail
          go_loop [49] (fun i => ∃ j : Nat, j ≤ k ∧ i = .int .i64 j ∧ ∀ q : Nat, q < j → (climbs P P.length q).isSome = true) (fun i => k - (intOf i).toNat)
          case atStart => exact ⟨0, Nat.zero_le _, rfl, fun q hq => absurd hq (by omega)⟩
          case round =>
            obtain ⟨j, hj, rfl, hq⟩ := hrel
            have HQ := Lib.hid hq
            clear hq
            by_cases hjt : j < k
            · have hin : inB P.length (j : Int) := by unfold inB; have := HN.out; omega
              by_cases hneg : climbV P j < 0
              · go_wp2_with (go_at_call 46; refine (climb_any w.heap.size P j _ HTA.out (rng_of HALL.out) hin).mono ?_; rintro e w' ⟨rfl, rfl⟩)
                go_ret2
                have h1 : restOk P = false := by
                  unfold restOk climbOk
                  have : ((List.range P.length).all fun i => (climbs P P.length i).isSome) = false := by
                    rw [List.all_eq_false]
                    exact ⟨j, List.mem_range.2 (by have := HN.out; omega), by rw [climbV_neg.1 hneg]; simp⟩
                  rw [this]; simp
                have e := HB.out h1
                exact ⟨hKr, .inl ⟨by rw [e]; decide, by rw [e]; rfl⟩⟩
              · have hs : (climbs P P.length (j : Int)).isSome = true := by
                  cases h : (climbs P P.length (j : Int)).isSome with
                  | true => rfl
                  | false => exact absurd (climbV_neg.2 h) hneg
                have HS := Lib.hid hs
                clear hs
                go_wp2_with (go_at_call 46; refine (climb_any w.heap.size P j _ HTA.out (rng_of HALL.out) hin).mono ?_; rintro e w' ⟨rfl, rfl⟩)
                go_round
                case rel => exact ⟨j + 1, by omega, by go_num, fun q hq => by
                  rcases Nat.lt_succ_iff_lt_or_eq.1 hq with h | rfl
                  · exact HQ.out q h
                  · exact HS.out⟩
                case measure => simp [intOf]; omega
            · go_wp2_with fail
              go_ret2
              have h1 : restOk P = true := by
                unfold restOk climbOk
                rw [HALL.out, HR1.out]
                simp only [beq_self_eq_true, Bool.and_true, Bool.true_and, List.all_eq_true, List.mem_range]
                intro q hq
                exact HQ.out q (by have := HN.out; omega)
              have e := good0 (by have := HN.out; omega) (by have := HN.out; omega) h1
              exact ⟨hKr, .inr ⟨e, rfl, HTA.out⟩⟩
        · have hrb : (((P.count (-1) : Nat) : Int) != 1) = true := by simp; omega
          have HR1 := Lib.hid r1
          clear r1
          go_wp2_with fail
          go_ret2
          have h1 : restOk P = false := by
            unfold restOk
            have : (P.count (-1) == 1) = false := by simp; exact HR1.out
            rw [this]; simp
          have e := HB.out h1
          exact ⟨hKr, .inl ⟨by rw [e]; decide, by rw [e]; rfl⟩⟩

end Go.Proofs.Ytiiiflckphgdiaa

/- Texts put together: T0, T1, T2, T3, T4, T5, T6, R1, R2. -/
import Derived.Lib.MinMax
import Derived.BigRegion
import Derived.Deep.CutBlock
import Derived.Deep.DeepCutAuto
import Derived.Deep.RegionWith
import Derived.Deep.DeepMust
import Derived.Deep.RegionHeld3
import Derived.Maps.AppendAt
import Derived.Test.YtbaifjdealmckaaGreatRows
import Derived.WalkKit
import Derived.WalkSpells
import Derived.WalkLawsBesides
import Derived.Deep.QuietTactic
import Derived.BigQuiet
import Derived.Lib.Hide
import Derived.Shelf.Abstract
import Derived.Lib.ConvBytes
import Derived.StillTailTactics
import Derived.Laws.AppendOwnNone
import Derived.Deep.AppendLies
import Derived.Deep.Slices
import Derived.ProofKit
import Derived.SizedLaws
import Derived.Test.YtbaifjdealmckaaGreatP7
/- Trees by parents, in plain mathematics: the way up, common ways, distances. No program here. -/
namespace Go.Proofs.YtbaifjdealmckaaGreat.Tr

/-- The parent of a node, as a number; -1 at the root. -/
def par (P : List Int) (i : Int) : Int := P.getD i.toNat (-1)
/-- The nodes from i up, at most so many. -/
def up (P : List Int) : Nat → Int → List Int
  | 0, _ => []
  | f + 1, i => i :: (if par P i < 0 then [] else up P f (par P i))
/-- How many steps lead from i to the root; none, if more than f - 1. -/
def climbs (P : List Int) : Nat → Int → Option Nat
  | 0, _ => none
  | f + 1, i => if par P i < 0 then some 0 else (climbs P f (par P i)).map (· + 1)

def inB (n : Nat) (i : Int) : Prop := 0 ≤ i ∧ i < n
instance (n : Nat) (i : Int) : Decidable (inB n i) := by unfold inB; infer_instance

/-- A tree: each parent is a node or -1, just one is -1, each node climbs to the root. -/
structure Tree (P : List Int) : Prop where
  pos : 1 ≤ P.length
  le : P.length ≤ 16
  rng : ∀ i : Int, inB P.length i → par P i = -1 ∨ inB P.length (par P i)
  one : ∀ i j : Int, inB P.length i → inB P.length j → par P i = -1 → par P j = -1 → i = j
  climb : ∀ i : Int, inB P.length i → (climbs P P.length i).isSome = true

def rise (P : List Int) (i : Int) : List Int := up P P.length i

theorem par_neg {P : List Int} (h : Tree P) {i : Int} (hi : inB P.length i) (hp : par P i < 0) : par P i = -1 := by
  rcases h.rng i hi with h1 | h1
  · exact h1
  · unfold inB at h1; omega
theorem par_in {P : List Int} (h : Tree P) {i : Int} (hi : inB P.length i) (hp : ¬ par P i < 0) : inB P.length (par P i) := by
  rcases h.rng i hi with h1 | h1
  · omega
  · exact h1

theorem climbs_mono (P : List Int) : ∀ (f : Nat) (i : Int) (k : Nat), climbs P f i = some k → climbs P (f + 1) i = some k := by
  intro f
  induction f with
  | zero => intro i k h; simp [climbs] at h
  | succ f ih =>
    intro i k h
    rw [climbs] at h ⊢
    split
    · rename_i hp; rw [if_pos hp] at h; exact h
    · rename_i hp
      rw [if_neg hp] at h
      obtain ⟨m, hm, rfl⟩ := Option.map_eq_some_iff.1 h
      rw [ih _ _ hm]
      rfl
theorem climbs_le (P : List Int) : ∀ (f : Nat) (i : Int) (k : Nat), climbs P f i = some k → k < f := by
  intro f
  induction f with
  | zero => intro i k h; simp [climbs] at h
  | succ f ih =>
    intro i k h
    rw [climbs] at h
    split at h
    · simp at h; omega
    · obtain ⟨m, hm, rfl⟩ := Option.map_eq_some_iff.1 h
      have := ih _ _ hm
      omega
theorem climbs_more (P : List Int) (f g : Nat) (i : Int) (k : Nat) (h : climbs P f i = some k) (hg : f ≤ g) : climbs P g i = some k := by
  induction g with
  | zero => have : f = 0 := by omega
            subst this; exact h
  | succ g ih =>
    by_cases e : f = g + 1
    · subst e; exact h
    · exact climbs_mono P g i k (ih (by omega))
theorem climbs_less (P : List Int) : ∀ (k g : Nat) (i : Int) (f : Nat), climbs P f i = some k → k < g → climbs P g i = some k := by
  intro k
  induction k with
  | zero =>
    intro g i f h hg
    cases f with
    | zero => simp [climbs] at h
    | succ f =>
      cases g with
      | zero => omega
      | succ g =>
        rw [climbs] at h ⊢
        split
        · rfl
        · rename_i hp
          rw [if_neg hp] at h
          obtain ⟨m, _, hm⟩ := Option.map_eq_some_iff.1 h
          omega
  | succ k ih =>
    intro g i f h hg
    cases f with
    | zero => simp [climbs] at h
    | succ f =>
      cases g with
      | zero => omega
      | succ g =>
        rw [climbs] at h ⊢
        split
        · rename_i hp; rw [if_pos hp] at h; simp at h
        · rename_i hp
          rw [if_neg hp] at h
          obtain ⟨m, hm, e⟩ := Option.map_eq_some_iff.1 h
          have : m = k := by omega
          subst this
          rw [ih g _ f hm (by omega)]
          rfl

/-- How deep a node lies. -/
def depth (P : List Int) (i : Int) : Nat := (climbs P P.length i).getD 0
theorem depth_spec {P : List Int} (h : Tree P) {i : Int} (hi : inB P.length i) : climbs P P.length i = some (depth P i) := by
  have := h.climb i hi
  obtain ⟨k, hk⟩ := Option.isSome_iff_exists.1 this
  unfold depth
  rw [hk]; rfl
theorem depth_lt {P : List Int} (h : Tree P) {i : Int} (hi : inB P.length i) : depth P i < P.length := climbs_le P _ _ _ (depth_spec h hi)
theorem depth_root {P : List Int} (h : Tree P) {i : Int} (hi : inB P.length i) (hp : par P i < 0) : depth P i = 0 := by
  have h1 := depth_spec h hi
  have : P.length = (P.length - 1) + 1 := by have := h.pos; omega
  rw [this, climbs, if_pos hp] at h1
  simpa using h1.symm
theorem depth_step {P : List Int} (h : Tree P) {i : Int} (hi : inB P.length i) (hp : ¬ par P i < 0) : depth P i = depth P (par P i) + 1 := by
  have h1 := depth_spec h hi
  have hl : P.length = (P.length - 1) + 1 := by have := h.pos; omega
  rw [hl, climbs, if_neg hp] at h1
  obtain ⟨m, hm, e⟩ := Option.map_eq_some_iff.1 h1
  have h2 := climbs_more P _ P.length _ _ hm (by omega)
  rw [depth_spec h (par_in h hi hp)] at h2
  simp at h2
  omega

theorem up_root (P : List Int) (f : Nat) (i : Int) (hp : par P i < 0) : up P (f + 1) i = [i] := by rw [up, if_pos hp]
/-- The way up does not hang on the count, if that is greater than the depth. -/
theorem up_same {P : List Int} (h : Tree P) : ∀ (d : Nat) (i : Int) (f g : Nat), inB P.length i → depth P i = d → d < f → d < g → up P f i = up P g i := by
  intro d
  induction d with
  | zero =>
    intro i f g hi hd hf hg
    cases f with
    | zero => omega
    | succ f =>
      cases g with
      | zero => omega
      | succ g =>
        by_cases hp : par P i < 0
        · rw [up_root P f i hp, up_root P g i hp]
        · have := depth_step h hi hp; omega
  | succ d ih =>
    intro i f g hi hd hf hg
    cases f with
    | zero => omega
    | succ f =>
      cases g with
      | zero => omega
      | succ g =>
        by_cases hp : par P i < 0
        · rw [up_root P f i hp, up_root P g i hp]
        · rw [up, up, if_neg hp, if_neg hp, ih (par P i) f g (par_in h hi hp) (by have := depth_step h hi hp; omega) (by omega) (by omega)]
theorem rise_root {P : List Int} (h : Tree P) {i : Int} (hp : par P i < 0) : rise P i = [i] := by
  unfold rise
  have : P.length = (P.length - 1) + 1 := by have := h.pos; omega
  rw [this, up_root P _ i hp]
theorem rise_step {P : List Int} (h : Tree P) {i : Int} (hi : inB P.length i) (hp : ¬ par P i < 0) : rise P i = i :: rise P (par P i) := by
  unfold rise
  have hl : P.length = (P.length - 1) + 1 := by have := h.pos; omega
  have hd := depth_step h hi hp
  have hd2 := depth_lt h hi
  conv => lhs; rw [hl, up, if_neg hp]
  rw [up_same h (depth P (par P i)) (par P i) (P.length - 1) P.length (par_in h hi hp) rfl (by omega) (by omega)]
theorem rise_length {P : List Int} (h : Tree P) : ∀ (d : Nat) (i : Int), inB P.length i → depth P i = d → (rise P i).length = d + 1 := by
  intro d
  induction d with
  | zero =>
    intro i hi hd
    by_cases hp : par P i < 0
    · rw [rise_root h hp]; rfl
    · have := depth_step h hi hp; omega
  | succ d ih =>
    intro i hi hd
    by_cases hp : par P i < 0
    · have := depth_root h hi hp; omega
    · rw [rise_step h hi hp, List.length_cons, ih _ (par_in h hi hp) (by have := depth_step h hi hp; omega)]
theorem rise_len {P : List Int} (h : Tree P) {i : Int} (hi : inB P.length i) : (rise P i).length = depth P i + 1 := rise_length h _ i hi rfl
theorem rise_head {P : List Int} (h : Tree P) {i : Int} (hi : inB P.length i) : (rise P i)[0]? = some i := by
  by_cases hp : par P i < 0
  · rw [rise_root h hp]; rfl
  · rw [rise_step h hi hp]; rfl
/-- Each node of the way up: in range, with the rest of the way behind it. -/
theorem rise_drop {P : List Int} (h : Tree P) : ∀ (k : Nat) (i x : Int), inB P.length i → (rise P i)[k]? = some x → inB P.length x ∧ (rise P i).drop k = rise P x := by
  intro k
  induction k with
  | zero =>
    intro i x hi hx
    rw [rise_head h hi] at hx
    simp at hx
    subst hx
    exact ⟨hi, rfl⟩
  | succ k ih =>
    intro i x hi hx
    by_cases hp : par P i < 0
    · rw [rise_root h hp] at hx; simp at hx
    · rw [rise_step h hi hp] at hx ⊢
      rw [List.getElem?_cons_succ] at hx
      rw [List.drop_succ_cons]
      exact ih _ x (par_in h hi hp) hx
theorem rise_depth {P : List Int} (h : Tree P) {k : Nat} {i x : Int} (hi : inB P.length i) (hx : (rise P i)[k]? = some x) : depth P x + k = depth P i := by
  obtain ⟨h1, h2⟩ := rise_drop h k i x hi hx
  have h3 := rise_len h h1
  have h4 := rise_len h hi
  rw [← h2, List.length_drop] at h3
  have : k < (rise P i).length := (List.getElem?_eq_some_iff.1 hx).1
  omega
/-- The last of the way up is the root. -/
theorem rise_last {P : List Int} (h : Tree P) {i j x y : Int} (hi : inB P.length i) (hj : inB P.length j) (hx : (rise P i)[depth P i]? = some x) (hy : (rise P j)[depth P j]? = some y) : x = y := by
  have key : ∀ (i x : Int), inB P.length i → (rise P i)[depth P i]? = some x → inB P.length x ∧ par P x = -1 := by
    intro i x hi hx
    have h1 := rise_drop h _ i x hi hx
    have h2 := rise_depth h hi hx
    refine ⟨h1.1, par_neg h h1.1 ?_⟩
    rcases Int.lt_or_le (par P x) 0 with hp | hp
    · exact hp
    · have := depth_step h h1.1 (by omega); omega
  exact h.one x y (key i x hi hx).1 (key j y hj hy).1 (key i x hi hx).2 (key j y hj hy).2

end Go.Proofs.YtbaifjdealmckaaGreat.Tr

/- The tree's own functions, each walked once: is, Len, climb, New. -/
set_option linter.unusedVariables false
set_option linter.unusedSimpArgs false
namespace Go.Proofs.YtbaifjdealmckaaGreat
open Go.RowKit Tr

/-- The cells of a tree of n brokers. -/
def tcells (n : Int) (l : List Int) : Array Value := (Value.int .i64 n :: l.map (Value.int .i64)).toArray
def RawAt (w : World) (b : Nat) (n : Nat) (l : List Int) : Prop := n ≤ 16 ∧ l.length = 16 ∧ Blk w b (tcells n l) 79
theorem RawAt.kept {S : List Nat} {w w' : World} {b n : Nat} {l : List Int} (h : RawAt w b n l) (k : Kept S w w') (hs : b ∉ S) : RawAt w' b n l := ⟨h.1, h.2.1, h.2.2.kept k hs⟩
theorem RawAt.keep {w w' : World} {b n : Nat} {l : List Int} (h : RawAt w b n l) (k : Kept [] w w') : RawAt w' b n l := h.kept k (by simp)
theorem RawAt.drewN {w : World} {b n : Nat} {l : List Int} (h : RawAt w b n l) (m : Nat) : RawAt (w.drewN m) b n l := h
theorem RawAt.head {w : World} {b n : Nat} {l : List Int} (h : RawAt w b n l) : w.cell? ⟨b, 0, none⟩ = some (.int .i64 n) := by
  rw [h.2.2.cell]; simp [tcells]
theorem RawAt.at {w : World} {b n : Nat} {l : List Int} (h : RawAt w b n l) (i : Nat) (hi : i < 16) : w.cell? ⟨b, 1 + i, none⟩ = some (.int .i64 (l[i]?.getD 0)) := by
  rw [h.2.2.cell]
  have : i < l.length := by rw [h.2.1]; exact hi
  simp [tcells, Nat.add_comm 1 i, List.getElem?_eq_getElem this]
theorem RawAt.free {w : World} {b n : Nat} {l : List Int} (h : RawAt w b n l) (i : Nat) : w.frozen? ⟨b, i, none⟩ = false := h.2.2.free i
theorem RawAt.set {w : World} {b n : Nat} {l : List Int} (h : RawAt w b n l) (i : Nat) (t : Int) : RawAt (w.setCell ⟨b, 1 + i, none⟩ (.int .i64 t)) b n (l.set i t) := by
  refine ⟨h.1, by rw [List.length_set]; exact h.2.1, ?_⟩
  have := h.2.2.set (1 + i) (.int .i64 t)
  have e : (tcells n l).setIfInBounds (1 + i) (.int .i64 t) = tcells n (l.set i t) := by
    unfold tcells
    rw [List.setIfInBounds_toArray, Nat.add_comm 1 i, List.set_cons_succ, List.map_set]
  rwa [e] at this
def fill16 (P : List Int) (k : Nat) : List Int := P.take k ++ List.replicate (16 - k) 0
theorem fill16_length (P : List Int) (k : Nat) (hk : k ≤ P.length) (hk2 : k ≤ 16) : (fill16 P k).length = 16 := by unfold fill16; simp; omega
theorem fill16_set (P : List Int) (k : Nat) (hk : k < P.length) (hk2 : k < 16) : (fill16 P k).set k P[k] = fill16 P (k + 1) := by
  unfold fill16
  obtain ⟨m, hm⟩ : ∃ m, 16 - k = m + 1 := ⟨15 - k, by omega⟩
  have hm2 : 16 - (k + 1) = m := by omega
  rw [hm, hm2, List.replicate_succ, List.take_succ_eq_append_getElem hk, List.set_append_right _ _ (by simp; omega)]
  have : k - (P.take k).length = 0 := by simp; omega
  rw [this, List.set_cons_zero, List.append_assoc]
  rfl
/-- Block b holds the tree of the parents P. -/
def TreeAt (w : World) (b : Nat) (P : List Int) : Prop := RawAt w b P.length (fill16 P P.length)
theorem fill16_get (P : List Int) (i : Nat) (hi : i < P.length) : (fill16 P P.length)[i]?.getD 0 = P.getD i (-1) := by
  unfold fill16
  rw [List.take_length, List.getElem?_append_left hi, List.getD_eq_getElem?_getD, List.getElem?_eq_getElem hi]
  rfl
theorem TreeAt.par {w : World} {b : Nat} {P : List Int} (h : TreeAt w b P) (i : Nat) (hi : i < P.length) : w.cell? ⟨b, 1 + i, none⟩ = some (.int .i64 (Tr.par P i)) := by
  have h16 := h.1
  rw [RawAt.at h i (by omega), fill16_get P i hi]
  rfl

theorem is_some (b n : Nat) (l : List Int) (i : Int) (w : World) (h : RawAt w b n l) :
    Calls Tryz.prog 110 #[.pointer (some ⟨b, 0, none⟩), .int .i64 i] w fun e w' => e = .returned (.bool (decide (0 ≤ i) && decide (i < n))) ∧ w = w' := by
  have h0 := h.head
  clear h
  by_cases hi : 0 ≤ i
  · go_enter Tryz.func110, Tryz.ntmps110
    go_wp2
    go_ret
    exact ⟨by simp [hi], rfl⟩
  · go_enter Tryz.func110, Tryz.ntmps110
    go_wp2
    go_ret
    exact ⟨by simp; omega, rfl⟩
theorem is_nil (i : Int) (w : World) :
    Calls Tryz.prog 110 #[.pointer none, .int .i64 i] w fun e w' => e = .returned (.bool false) ∧ w = w' := by
  go_enter Tryz.func110, Tryz.ntmps110
  go_wp2
  go_ret
  exact ⟨rfl, rfl⟩
theorem len_some (b n : Nat) (l : List Int) (w : World) (h : RawAt w b n l) :
    Calls Tryz.prog 23 #[.pointer (some ⟨b, 0, none⟩)] w fun e w' => e = .returned (.int .i64 n) ∧ w = w' := by
  have h0 := h.head
  clear h
  go_enter Tryz.func23, Tryz.ntmps23
  go_wp2
  go_ret
  exact ⟨rfl, rfl⟩
theorem len_nil (w : World) :
    Calls Tryz.prog 23 #[.pointer none] w fun e w' => e = .returned (.int .i64 0) ∧ w = w' := by
  go_enter Tryz.func23, Tryz.ntmps23
  go_wp2
  go_ret
  exact ⟨rfl, rfl⟩

/-- What climb answers. -/
def climbV (P : List Int) (i : Int) : Int := match climbs P P.length i with | some k => k | none => -1

set_option maxHeartbeats 1000000 in
theorem climb_any (b : Nat) (P : List Int) (i : Int) (w : World) (h : TreeAt w b P) (hr : ∀ i, inB P.length i → par P i = -1 ∨ inB P.length (par P i)) (hi : inB P.length i) :
    Calls Tryz.prog 31 #[.pointer (some ⟨b, 0, none⟩), .int .i64 i] w fun e w' => e = .returned (.int .i64 (climbV P i)) ∧ w = w' := by
  have h0 := RawAt.head h
  have hn16 := h.1
  have HP : Hid (∀ i : Nat, i < P.length → w.cell? ⟨b, 1 + i, none⟩ = some (.int .i64 (par P i))) := h.par
  have HR : Hid (∀ i, inB P.length i → par P i = -1 ∨ inB P.length (par P i)) := hr
  have HI : Hid (inB P.length i) := hi
  obtain ⟨n, hn⟩ : ∃ n, P.length = n := ⟨_, rfl⟩
  rw [hn] at h0 hn16
  have HN := Lib.hid hn
  clear hn hr hi h
  go_enter Tryz.func31, Tryz.ntmps31
  go_wp2
  go_loop [1, 10] (fun p c => ∃ (k j : Nat), k ≤ n ∧ c = .int .i64 k ∧ p = .int .i64 j ∧ j < n ∧ climbs P n i = (climbs P (n - k) j).map (· + k)) (fun _ c => n - (intOf c).toNat)
  case atStart =>
    have hi := HI.out
    unfold inB at hi
    rw [HN.out] at hi
    refine ⟨0, i.toNat, Nat.zero_le _, rfl, ?_, by omega, ?_⟩
    · rw [Int.toNat_of_nonneg hi.1]
    · rw [Int.toNat_of_nonneg hi.1]; simp
  case round =>
    obtain ⟨k, j, hk, rfl, rfl, hj, hc⟩ := hrel
    have HC := Lib.hid hc
    clear hc
    by_cases hlt : k < n
    · have hp := HP.out j (by rw [HN.out]; exact hj)
      obtain ⟨q, hq⟩ : ∃ q, par P j = q := ⟨_, rfl⟩
      rw [hq] at hp
      have HQ := Lib.hid hq
      clear hq
      obtain ⟨m, hm⟩ : ∃ m, n - k = m + 1 := ⟨n - k - 1, by omega⟩
      have HM := Lib.hid hm
      clear hm
      by_cases hneg : q < 0
      · go_wp2
        go_ret
        refine ⟨ret_int ?_, rfl⟩
        unfold climbV
        rw [HN.out, HC.out, HM.out, climbs, if_pos (by rw [HQ.out]; exact hneg)]
        simp
      · have hq2 : 0 ≤ q ∧ q < n := by
          have := HR.out j (by unfold inB; rw [HN.out]; omega)
          rw [HQ.out, HN.out] at this
          unfold inB at this
          omega
        go_wp2
        go_round
        case rel =>
          refine ⟨k + 1, q.toNat, by omega, by go_num, by rw [Int.toNat_of_nonneg hq2.1], by omega, ?_⟩
          have e1 : n - (k + 1) = m := by have := HM.out; omega
          rw [HC.out, HM.out, e1, climbs, if_neg (by rw [HQ.out]; exact hneg), HQ.out, Int.toNat_of_nonneg hq2.1, Option.map_map]
          congr 1
          funext x
          simp
          omega
        case measure => simp [intOf]; omega
    · go_wp2
      go_ret
      refine ⟨ret_int ?_, rfl⟩
      unfold climbV
      have e1 : n - k = 0 := by omega
      rw [HN.out, HC.out, e1]
      rfl

end Go.Proofs.YtbaifjdealmckaaGreat

/- tree.New. -/
set_option linter.unusedVariables false
set_option linter.unusedSimpArgs false
namespace Go.Proofs.YtbaifjdealmckaaGreat
open Go.RowKit Tr

def rngB (n : Nat) (p : Int) : Bool := decide (-1 ≤ p) && decide (p < n)
def climbOk (P : List Int) : Bool := (List.range P.length).all fun i => (climbs P P.length i).isSome
def restOk (P : List Int) : Bool := P.all (rngB P.length) && (P.count (-1) == 1) && climbOk P
def treeErr (P : List Int) : Int := if 1 ≤ P.length ∧ P.length ≤ 16 then (if restOk P = true then 0 else 170) else 1

theorem count_one {P : List Int} (h : P.count (-1) = 1) : ∀ i j : Nat, P[i]? = some (-1) → P[j]? = some (-1) → i = j := by
  induction P with
  | nil => intro i j hi; simp at hi
  | cons x P ih =>
    intro i j hi hj
    rw [List.count_cons] at h
    cases i with
    | zero =>
      cases j with
      | zero => rfl
      | succ j =>
        simp at hi hj
        subst hi
        simp at h
        have : (-1 : Int) ∈ P := List.mem_of_getElem? hj
        exact absurd this (List.count_eq_zero.1 h)
    | succ i =>
      cases j with
      | zero =>
        simp at hi hj
        subst hj
        simp at h
        have : (-1 : Int) ∈ P := List.mem_of_getElem? hi
        exact absurd this (List.count_eq_zero.1 h)
      | succ j =>
        simp at hi hj
        have hmem : (-1 : Int) ∈ P := List.mem_of_getElem? hi
        have hpos : 0 < P.count (-1) := List.count_pos_iff.2 hmem
        have hc : P.count (-1) = 1 := by split at h <;> omega
        rw [ih hc i j hi hj]

theorem par_get {P : List Int} {i : Nat} (hi : i < P.length) : par P i = P[i] := by
  unfold par
  rw [Int.toNat_natCast, List.getD_eq_getElem?_getD, List.getElem?_eq_getElem hi]
  rfl
theorem rng_of {P : List Int} (h : P.all (rngB P.length) = true) : ∀ i, inB P.length i → par P i = -1 ∨ inB P.length (par P i) := by
  intro i hi
  unfold inB at hi ⊢
  obtain ⟨j, rfl⟩ := Int.eq_ofNat_of_zero_le hi.1
  have hj : j < P.length := by omega
  have := List.all_eq_true.1 h _ (List.getElem_mem hj)
  rw [par_get hj]
  simp [rngB] at this
  omega
theorem tree_of {P : List Int} (h : treeErr P = 0) : Tree P := by
  unfold treeErr at h
  split at h
  · rename_i hl
    split at h
    · rename_i hr
      simp only [restOk, Bool.and_eq_true, beq_iff_eq] at hr
      obtain ⟨⟨h1, h2⟩, h3⟩ := hr
      refine ⟨hl.1, hl.2, rng_of h1, ?_, ?_⟩
      · intro i j hi hj ei ej
        unfold inB at hi hj
        obtain ⟨a, rfl⟩ := Int.eq_ofNat_of_zero_le hi.1
        obtain ⟨b, rfl⟩ := Int.eq_ofNat_of_zero_le hj.1
        have ha : a < P.length := by omega
        have hb : b < P.length := by omega
        rw [par_get ha] at ei
        rw [par_get hb] at ej
        rw [count_one h2 a b (by rw [List.getElem?_eq_getElem ha, ei]) (by rw [List.getElem?_eq_getElem hb, ej])]
      · intro i hi
        unfold inB at hi
        obtain ⟨a, rfl⟩ := Int.eq_ofNat_of_zero_le hi.1
        exact List.all_eq_true.1 h3 a (List.mem_range.2 (by omega))
    · simp at h
  · simp at h

def NewPost (w : World) (P : List Int) (e : Ending) (w' : World) : Prop :=
  Kept [] w w' ∧ ((treeErr P ≠ 0 ∧ e = .returned (.tuple #[.pointer none, .int .i64 (treeErr P)])) ∨
    (treeErr P = 0 ∧ e = .returned (.tuple #[.pointer (some ⟨w.heap.size, 0, none⟩), .int .i64 0]) ∧ TreeAt w' w.heap.size P))

theorem bad170 {P : List Int} (h1 : 1 ≤ P.length) (h2 : P.length ≤ 16) (h3 : restOk P = false) : treeErr P = 170 := by
  unfold treeErr; rw [if_pos ⟨h1, h2⟩, h3]; rfl
theorem good0 {P : List Int} (h1 : 1 ≤ P.length) (h2 : P.length ≤ 16) (h3 : restOk P = true) : treeErr P = 0 := by
  unfold treeErr; rw [if_pos ⟨h1, h2⟩, h3]; rfl
theorem climbV_neg {P : List Int} {i : Int} : climbV P i < 0 ↔ (climbs P P.length i).isSome = false := by
  unfold climbV
  cases climbs P P.length i <;> simp

set_option maxRecDepth 100000 in
set_option maxHeartbeats 2000000 in
theorem new_any (v : Value) (P : List Int) (w : World) (hx : RdI w .i64 v P) :
    Calls Tryz.prog 17 #[v] w (NewPost w P) := by
  obtain ⟨A, c, rfl, hmx, hx⟩ := hx
  unfold maxLen at hmx
  by_cases c0 : P.length < 1 ∨ 16 < P.length
  · have e : treeErr P = 1 := by unfold treeErr; rw [if_neg (by omega)]
    have HE := Lib.hid e
    clear e
    rcases c0 with c1 | c1
    · have c1' : (P.length : Int) < 1 := by omega
      go_enter Tryz.func17, Tryz.ntmps17
      go_wp2
      go_ret2
      exact ⟨Kept.refl _ _, .inl ⟨by rw [HE.out]; decide, by rw [HE.out]; rfl⟩⟩
    · have c1' : ¬ (P.length : Int) < 1 := by omega
      have c2' : (16 : Int) < P.length := by omega
      go_enter Tryz.func17, Tryz.ntmps17
      go_wp2
      go_ret2
      exact ⟨Kept.refl _ _, .inl ⟨by rw [HE.out]; decide, by rw [HE.out]; rfl⟩⟩
  · obtain ⟨b, off, rfl, hc⟩ := hx (by intro e; subst e; simp at c0)
    obtain ⟨n, hn⟩ : ∃ n, n = P.length := ⟨_, rfl⟩
    have hn1 : 1 ≤ n := by omega
    have hn2 : n ≤ 16 := by omega
    rw [← hn] at hmx ⊢
    have HN := Lib.hid hn
    have HC := Lib.hid hc
    clear hn hc hx c0
    have hb1 : decide ((n : Int) < 1) = false := by simp; omega
    have hb2 : decide ((16 : Int) < (n : Int)) = false := by simp; omega
    have HB : Hid (restOk P = false → treeErr P = 170) := fun h => bad170 (by have := HN.out; omega) (by have := HN.out; omega) h
    go_enter Tryz.func17, Tryz.ntmps17
    go_wp2_with fail
    go_loopw [6, 23] (fun r i wr => ∃ (k : Nat), k ≤ n ∧ i = .int .i64 k ∧ r = .int .i64 ((P.take k).count (-1) : Nat) ∧ (P.take k).all (rngB n) = true ∧ RawAt wr w.heap.size n (fill16 P k) ∧ Kept [] w wr) (fun _ i _ => n - (intOf i).toNat)
    case atStart =>
      refine ⟨0, Nat.zero_le _, rfl, rfl, rfl, ⟨hn2, rfl, ?_⟩, (Kept.refl [] w).alloc _⟩
      exact Blk.new w (tcells n (fill16 P 0)) 79
    case round =>
      obtain ⟨k, hk, rfl, rfl, hall, hRr, hKr⟩ := hrel
      have HA := Lib.hid hall
      clear hall
      by_cases hlt : k < n
      · have hl : k < P.length := by have := HN.out; omega
        have hck := hKr.cell (by simp) (HC.out k _ (List.getElem?_eq_getElem hl))
        obtain ⟨x, hxk⟩ : ∃ x, P[k] = x := ⟨_, rfl⟩
        rw [hxk] at hck
        have HX := Lib.hid hxk
        clear hxk
        have hcell := RawAt.at hRr k (by omega)
        have hf := hRr.free (1 + k)
        have hcl : (P.take k).count (-1) ≤ k := Nat.le_trans List.count_le_length (by simp; omega)
        have hbad : Hid (rngB n x = false → restOk P = false) := fun h => by
          unfold restOk
          have : P.all (rngB P.length) = false := by
            rw [List.all_eq_false]
            exact ⟨x, by rw [← HX.out]; exact List.getElem_mem hl, by rw [← HN.out, h]; simp⟩
          rw [this]; simp
        by_cases x1 : x < -1
        · go_wp2_with fail
          go_ret2
          have e := HB.out (hbad.out (by unfold rngB; simp; omega))
          exact ⟨hKr, .inl ⟨by rw [e]; decide, by rw [e]; rfl⟩⟩
        · by_cases x2 : (n : Int) ≤ x
          · go_wp2_with fail
            go_ret2
            have e := HB.out (hbad.out (by unfold rngB; simp; omega))
            exact ⟨hKr, .inl ⟨by rw [e]; decide, by rw [e]; rfl⟩⟩
          · have hgood : rngB n x = true := by unfold rngB; simp; omega
            have HG := Lib.hid hgood
            clear hgood
            have hset := hRr.set k x
            have HSET : Hid (RawAt (wr.setCell ⟨w.heap.size, 1 + k, none⟩ (.int .i64 x)) w.heap.size n (fill16 P (k + 1))) := by
              show RawAt _ _ _ _
              rw [← fill16_set P k hl (by omega), HX.out]; exact hset
            clear hset
            have HT : Hid ((P.take (k + 1)).all (rngB n) = true) := by
              show _ = _
              rw [List.take_succ_eq_append_getElem hl, List.all_append, HA.out, HX.out]; simp [HG.out]
            by_cases x3 : x = -1
            · have HCT : Hid ((P.take (k + 1)).count (-1) = (P.take k).count (-1) + 1) := by
                show _ = _
                rw [List.take_succ_eq_append_getElem hl, List.count_append, HX.out, x3]; simp
              have hxb : (x == -1) = true := by simp [x3]
              have HX3 := Lib.hid x3
              clear x3
              go_wp2_with fail
              go_roundw
              case rel => exact ⟨k + 1, by omega, by go_num, by rw [HCT.out]; go_num, HT.out, HSET.out, hKr.setCell (.inr (Nat.le_refl _)) _⟩
              case measure => simp [intOf]; omega
            · have HCT : Hid ((P.take (k + 1)).count (-1) = (P.take k).count (-1)) := by
                show _ = _
                rw [List.take_succ_eq_append_getElem hl, List.count_append, HX.out]
                have : List.count (-1) [x] = 0 := by rw [List.count_eq_zero]; simp; omega
                omega
              have hxb : (x == -1) = false := by simp [x3]
              have HX3 := Lib.hid x3
              clear x3
              go_wp2_with fail
              go_roundw
              case rel => exact ⟨k + 1, by omega, by go_num, by rw [HCT.out], HT.out, HSET.out, hKr.setCell (.inr (Nat.le_refl _)) _⟩
              case measure => simp [intOf]; omega
      · have hkn : k = n := by omega
        subst hkn
        have hlen : P.take k = P := List.take_of_length_le (by have := HN.out; omega)
        have HL := Lib.hid hlen
        clear hlen
        rw [HL.out]
        have HTA : Hid (TreeAt wr w.heap.size P) := by unfold TreeAt; rw [← HN.out]; exact hRr
        have HALL : Hid (P.all (rngB P.length) = true) := by have := HA.out; rw [HL.out] at this; rw [← HN.out]; exact this
        clear hRr
        by_cases r1 : P.count (-1) = 1
        · have hrb : (((P.count (-1) : Nat) : Int) != 1) = false := by rw [r1]; rfl
          have HR1 := Lib.hid r1
          clear r1
          go_wp2_with fail
          go_loop [49] (fun i => ∃ j : Nat, j ≤ k ∧ i = .int .i64 j ∧ ∀ q : Nat, q < j → (climbs P P.length q).isSome = true) (fun i => k - (intOf i).toNat)
          case atStart => exact ⟨0, Nat.zero_le _, rfl, fun q hq => absurd hq (by omega)⟩
          case round =>
            obtain ⟨j, hj, rfl, hq⟩ := hrel
            have HQ := Lib.hid hq
            clear hq
            by_cases hjt : j < k
            · have hin : inB P.length (j : Int) := by unfold inB; have := HN.out; omega
              by_cases hneg : climbV P j < 0
              · go_wp2_with (go_at_call 31; refine (climb_any w.heap.size P j _ HTA.out (rng_of HALL.out) hin).mono ?_; rintro e w' ⟨rfl, rfl⟩)
                go_ret2
                have h1 : restOk P = false := by
                  unfold restOk climbOk
                  have : ((List.range P.length).all fun i => (climbs P P.length i).isSome) = false := by
                    rw [List.all_eq_false]
                    exact ⟨j, List.mem_range.2 (by have := HN.out; omega), by rw [climbV_neg.1 hneg]; simp⟩
                  rw [this]; simp
                have e := HB.out h1
                exact ⟨hKr, .inl ⟨by rw [e]; decide, by rw [e]; rfl⟩⟩
              · have hs : (climbs P P.length (j : Int)).isSome = true := by
                  cases h : (climbs P P.length (j : Int)).isSome with
                  | true => rfl
                  | false => exact absurd (climbV_neg.2 h) hneg
                have HS := Lib.hid hs
                clear hs
                go_wp2_with (go_at_call 31; refine (climb_any w.heap.size P j _ HTA.out (rng_of HALL.out) hin).mono ?_; rintro e w' ⟨rfl, rfl⟩)
                go_round
                case rel => exact ⟨j + 1, by omega, by go_num, fun q hq => by
                  rcases Nat.lt_succ_iff_lt_or_eq.1 hq with h | rfl
                  · exact HQ.out q h
                  · exact HS.out⟩
                case measure => simp [intOf]; omega
            · go_wp2_with fail
              go_ret2
              have h1 : restOk P = true := by
                unfold restOk climbOk
                rw [HALL.out, HR1.out]
                simp only [beq_self_eq_true, Bool.and_true, Bool.true_and, List.all_eq_true, List.mem_range]
                intro q hq
                exact HQ.out q (by have := HN.out; omega)
              have e := good0 (by have := HN.out; omega) (by have := HN.out; omega) h1
              exact ⟨hKr, .inr ⟨e, rfl, HTA.out⟩⟩
        · have hrb : (((P.count (-1) : Nat) : Int) != 1) = true := by simp; omega
          have HR1 := Lib.hid r1
          clear r1
          go_wp2_with fail
          go_ret2
          have h1 : restOk P = false := by
            unfold restOk
            have : (P.count (-1) == 1) = false := by simp; exact HR1.out
            rw [this]; simp
          have e := HB.out h1
          exact ⟨hKr, .inl ⟨by rw [e]; decide, by rw [e]; rfl⟩⟩

end Go.Proofs.YtbaifjdealmckaaGreat

/- The way up, depths. -/
set_option linter.unusedVariables false
set_option linter.unusedSimpArgs false
namespace Go.Proofs.YtbaifjdealmckaaGreat
open Go.RowKit Tr

def sliceLen : Value → Nat | .slice _ n _ => n | _ => 0
theorem own_lenT {w : World} {base : Nat} {e : TypeId} {size : Nat} {v : Value} {n : Nat} {xs : List Value} (h : w.ownsRow base e size v n xs) : ∃ A c, v = .slice A n c ∧ sliceLen v = n := by
  rcases h.2 with ⟨rfl, rfl⟩ | ⟨g, cap, cur, rfl, _⟩
  · exact ⟨none, 0, rfl, rfl⟩
  · exact ⟨_, cap, rfl, rfl⟩
theorem infoInt : (Tryz.prog.info? 3).map (fun i => (i.zero, i.size, i.bytes)) = some (some (.int .i64 0), 1, 8) := by kernel_rfl

def riseG (P : List Int) (i : Int) : List Int := if inB P.length i then rise P i else []

theorem riseG_next {P : List Int} (h : Tree P) {i cur : Int} {k : Nat} (hc : (riseG P i)[k]? = some cur) :
    inB P.length cur ∧ ((par P cur = -1 ∧ (riseG P i).length = k + 1) ∨ (inB P.length (par P cur) ∧ (riseG P i)[k + 1]? = some (par P cur))) := by
  unfold riseG at hc ⊢
  split at hc
  · rename_i hi
    rw [if_pos hi]
    obtain ⟨h1, h2⟩ := rise_drop h k i cur hi hc
    refine ⟨h1, ?_⟩
    have hk : k < (rise P i).length := (List.getElem?_eq_some_iff.1 hc).1
    by_cases hp : par P cur < 0
    · left
      refine ⟨par_neg h h1 hp, ?_⟩
      have h3 := congrArg List.length h2
      rw [rise_root h hp, List.length_drop] at h3
      simp at h3
      omega
    · right
      refine ⟨par_in h h1 hp, ?_⟩
      rw [rise_step h h1 hp] at h2
      have h3 := congrArg (fun l => l[1]?) h2
      simp only [List.getElem?_drop, List.getElem?_cons_succ] at h3
      rw [rise_head h (par_in h h1 hp)] at h3
      exact h3
  · simp at hc
theorem riseG_le {P : List Int} (h : Tree P) (i : Int) : (riseG P i).length ≤ 16 := by
  unfold riseG
  split
  · rename_i hi
    rw [rise_len h hi]
    have := depth_lt h hi
    have := h.le
    omega
  · simp

def RisePost (w : World) (xs : List Int) (e : Ending) (w' : World) : Prop :=
  ∃ v, e = .returned v ∧ w'.ownsRow w.heap.size 3 1 v xs.length (xs.map (.int .i64)) ∧ Kept [] w w'

set_option maxRecDepth 100000 in
set_option maxHeartbeats 2000000 in
theorem rise_any (b : Nat) (P : List Int) (i : Int) (w : World) (h : TreeAt w b P) (hT : Tree P) :
    Calls Tryz.prog 111 #[.pointer (some ⟨b, 0, none⟩), .int .i64 i] w (RisePost w (riseG P i)) := by
  obtain ⟨i0, hi, hz0, hz1, hz2⟩ := info_parts infoInt
  have HNX : Hid (∀ (cur : Int) (k : Nat), (riseG P i)[k]? = some cur → inB P.length cur ∧ ((par P cur = -1 ∧ (riseG P i).length = k + 1) ∨ (inB P.length (par P cur) ∧ (riseG P i)[k + 1]? = some (par P cur)))) := fun cur k => riseG_next hT
  have hle := riseG_le hT i
  have h0 : (0 < (riseG P i).length ∧ (riseG P i)[0]? = some i) ∨ ((riseG P i).length = 0 ∧ ¬ inB P.length i) := by
    unfold riseG
    by_cases hi : inB P.length i
    · left; rw [if_pos hi]; exact ⟨by rw [rise_len hT hi]; omega, rise_head hT hi⟩
    · right; rw [if_neg hi]; exact ⟨rfl, hi⟩
  have H0 := Lib.hid h0
  clear h0
  obtain ⟨R, hR⟩ : ∃ R, riseG P i = R := ⟨_, rfl⟩
  rw [hR] at HNX H0 hle ⊢
  clear hR
  have hP16 := h.1
  go_enter Tryz.func111, Tryz.ntmps111
  go_wp2_with fail
  go_loopw [1, 5] (fun p v wr => ∃ (k : Nat) (cur : Int), k ≤ R.length ∧ p = .int .i64 cur ∧ wr.ownsRow w.heap.size 3 1 v k ((R.take k).map (.int .i64)) ∧ Kept [] w wr ∧ ((k < R.length ∧ R[k]? = some cur) ∨ (k = R.length ∧ ¬ inB P.length cur))) (fun _ v _ => R.length - sliceLen v)
  case atStart =>
    refine ⟨0, i, Nat.zero_le _, rfl, World.ownsRow_nil _ _ _ _, Kept.refl _ _, ?_⟩
    rcases H0.out with ⟨h1, h2⟩ | ⟨h1, h2⟩
    · exact .inl ⟨h1, h2⟩
    · exact .inr ⟨h1.symm, h2⟩
  case round =>
    obtain ⟨k, cur, hk, rfl, hown, hKr, hcase⟩ := hrel
    have hTr := RawAt.keep h hKr
    rcases hcase with ⟨hlt, hcur⟩ | ⟨rfl, hni⟩
    · obtain ⟨hin, hnx⟩ := HNX.out cur k hcur
      obtain ⟨A, c, rfl, hsl⟩ := own_lenT hown
      clear hsl
      have hin' := hin
      unfold inB at hin'
      obtain ⟨q, rfl⟩ := Int.eq_ofNat_of_zero_le hin'.1
      have hpar := TreeAt.par (w := wr) hTr q (by omega)
      have hb1 : (decide ((0:Int) ≤ (q:Int)) && decide ((q:Int) < (P.length:Int))) = true := by simp; omega
      have HB := Lib.hid hb1
      have hq16 : q < 16 := by omega
      have hqP : q < P.length := by omega
      have HIN := Lib.hid hin
      have HIN' := Lib.hid hin'
      have HCUR := Lib.hid hcur
      have HNXT := Lib.hid hnx
      clear hb1 hin hin' hcur hnx
      have hgl : ∀ x, (Value.slice A k c).ownBlock = some x → x < wr.heap.size := fun x hx => (hown.lt x hx).2
      have HGL := Lib.hid hgl
      have hgb : ∀ x, (Value.slice A k c).ownBlock = some x → w.heap.size ≤ x := fun x hx => (hown.lt x hx).1
      have HGB := Lib.hid hgb
      clear hgl hgb
      have hsz := hKr.size
      have HOWN := Lib.hid hown
      clear hown
      have hlenk : (R.take k).length = k := by simp; omega
      have HLK := Lib.hid hlenk
      clear hlenk
      clear hpar
      go_wp2_with (first | (go_at_call 110; refine (is_some b P.length _ q _ hTr).mono ?_; rintro e w' ⟨rfl, rfl⟩; rw [HB.out]) | (at_builtin; refine wpList_append_own _ rfl _ _ 22 rfl w.heap.size 3 i0 (.int .i64 0) 1 8 Tryz.underlying22 hi hz0 hz1 hz2 rfl (by decide) _ k ((R.take k).map (.int .i64)) rfl (HOWN.out.alloc _) ⟨wr.heap.size, 0, none⟩ 1 1 [.int .i64 q] rfl rfl (cell_one_new _ _ _) (by simp [Value.oneCell']) (by unfold maxLen; omega) (by omega) (by simp; omega) ?_))
      intro v' w1 hown1 hgrow1 _
      have hK1 : Kept [] w w1 := (hKr.alloc _).grown hgrow1 (fun x hx => .inr (HGB.out x hx))
      have hTr1 := RawAt.keep h hK1
      have hpar1 := TreeAt.par (w := w1) hTr1 q (by omega)
      obtain ⟨nx, hnx⟩ : ∃ nx, par P q = nx := ⟨_, rfl⟩
      rw [hnx] at hpar1
      have HNX2 := Lib.hid hnx
      clear hnx
      have HOWN1 := Lib.hid hown1
      clear hown1 hgrow1
      go_wp2_with fail
      go_roundw
      case rel =>
        have hlk : k < R.length := hlt
        refine ⟨k + 1, nx, by omega, rfl, ?_, hK1, ?_⟩
        · have h1 := HOWN1.out
          have h2 : R.take (k + 1) = R.take k ++ [(q : Int)] := by
            rw [List.take_succ_eq_append_getElem hlk]
            have := HCUR.out
            rw [List.getElem?_eq_getElem hlk] at this
            injection this with this
            rw [this]
          rw [h2, List.map_append, List.map_take]
          exact h1
        · rcases HNXT.out with ⟨h1, h2⟩ | ⟨h1, h2⟩
          · right
            rw [HNX2.out] at h1
            refine ⟨h2.symm, ?_⟩
            rw [h1]; unfold inB; omega
          · left
            rw [HNX2.out] at h1 h2
            exact ⟨(List.getElem?_eq_some_iff.1 h2).1, h2⟩
      case measure => obtain ⟨_, _, rfl, h1⟩ := own_lenT HOWN1.out; simp [sliceLen]; omega
    · have hb1 : (decide ((0:Int) ≤ cur) && decide (cur < (P.length:Int))) = false := by
        unfold inB at hni
        cases h1 : decide ((0:Int) ≤ cur) with
        | false => rfl
        | true => simp at h1 ⊢; omega
      have HB := Lib.hid hb1
      clear hb1 hni
      have HOWN := Lib.hid hown
      clear hown
      go_wp2_with (go_at_call 110; refine (is_some b P.length _ cur _ hTr).mono ?_; rintro e w' ⟨rfl, rfl⟩; rw [HB.out])
      go_ret
      refine ⟨_, rfl, ?_, hKr⟩
      have := HOWN.out
      rwa [List.take_length] at this

def depthG (P : List Int) (i : Int) : Int := if inB P.length i then depth P i else 0
theorem depthG_len {P : List Int} (h : Tree P) (i : Int) : depthG P i = max 0 (((riseG P i).length : Int) - 1) := by
  unfold depthG riseG
  split
  · rename_i hi
    rw [rise_len h hi]
    omega
  · rfl

end Go.Proofs.YtbaifjdealmckaaGreat

/- slices.Equal, Reverse at ints. -/
set_option linter.unusedVariables false
set_option linter.unusedSimpArgs false
namespace Go.Proofs.YtbaifjdealmckaaGreat
open Go.RowKit Tr

theorem dec_self (l : List Int) : decide (l = l) = true := by simp

def RevPost (w : World) (g n cap : Nat) (base : Nat) (xs : List Int) (e : Ending) (w' : World) : Prop :=
  e = .returned (.tuple #[]) ∧ w'.ownsRow base 3 1 (.slice (some ⟨g, 0, none⟩) n cap) n (xs.reverse.map (.int .i64)) ∧ Kept [g] w w'

set_option maxHeartbeats 2000000 in
theorem reverse_any (g n cap base : Nat) (xs : List Int) (w : World) (hown : w.ownsRow base 3 1 (.slice (some ⟨g, 0, none⟩) n cap) n (xs.map (.int .i64))) (hn : 1 ≤ n) (hn2 : n ≤ 1000000) :
    Calls Tryz.prog 112 #[.slice (some ⟨g, 0, none⟩) n cap] w (RevPost w g n cap base xs) := by
  have hl : xs.length = n := by have := (RdI.of_own hown).2; omega
  have HL := Lib.hid hl
  clear hl
  go_enter Tryz.func112, Tryz.ntmps112
  go_wp2_with fail
  go_loopw [2, 3] (fun i j wr => ∃ (k : Nat) (ys : List Int), k ≤ n ∧ 2 * k ≤ n + 1 ∧ i = .int .i64 k ∧ j = .int .i64 ((n : Int) - 1 - k) ∧ ys.length = n ∧ wr.ownsRow base 3 1 (.slice (some ⟨g, 0, none⟩) n cap) n (ys.map (.int .i64)) ∧ Kept [g] w wr ∧ (∀ m, m < n → ys[m]? = if m < k ∨ n - k ≤ m then xs[n - 1 - m]? else xs[m]?)) (fun i _ _ => n - (intOf i).toNat)
  case atStart =>
    refine ⟨0, xs, Nat.zero_le _, by omega, rfl, by simp, HL.out, hown, Kept.refl _ _, fun m hm => ?_⟩
    rw [if_neg (by omega)]
  case round =>
    obtain ⟨k, ys, hk, hk2, rfl, rfl, hyl, hor, hKr, hys⟩ := hrel
    have HYS := Lib.hid hys
    have HYL := Lib.hid hyl
    clear hys hyl
    by_cases hlt : (k : Int) < (n : Int) - 1 - k
    · obtain ⟨q, hq⟩ : ∃ q, n - 1 - k = q := ⟨_, rfl⟩
      have hqi : (n : Int) - 1 - k = (q : Int) := by omega
      rw [hqi]
      have hkq : k < q := by omega
      have hqn : q < n := by omega
      have HQ := Lib.hid hq
      have hqe : n - k = q + 1 := by omega
      have HQE := Lib.hid hqe
      clear hq hqi hlt hqe
      obtain ⟨x, hx⟩ : ∃ x, ys[k]? = some x := ⟨_, List.getElem?_eq_getElem (by have := HYL.out; omega)⟩
      obtain ⟨y, hy⟩ : ∃ y, ys[q]? = some y := ⟨_, List.getElem?_eq_getElem (by have := HYL.out; omega)⟩
      have e1 : wr.cell? ⟨g, k, none⟩ = some (.int .i64 x) := by rw [hor.cellAt k (by omega), List.getElem?_map, hx]; rfl
      have e2 : wr.cell? ⟨g, q, none⟩ = some (.int .i64 y) := by rw [hor.cellAt q (by omega), List.getElem?_map, hy]; rfl
      have f1 := hor.frozenAt k
      have f2 := hor.frozenAt q
      have HX := Lib.hid hx
      have HY := Lib.hid hy
      have HOR := Lib.hid hor
      clear hx hy hor
      have hne : ¬ k = q := by omega
      have hne2 : ¬ q = k := by omega
      go_wp2_with fail
      go_region
      obtain ⟨h1, -⟩ := HOR.out.stored k (.int .i64 y)
      obtain ⟨h2, -⟩ := h1.stored q (.int .i64 x)
      have HST : Hid (((wr.setCell ⟨g, k, none⟩ (.int .i64 y)).setCell ⟨g, q, none⟩ (.int .i64 x)).ownsRow base 3 1 (.slice (some ⟨g, 0, none⟩) n cap) n ((((ys.set k y).set q x)).map (.int .i64))) := by
        show World.ownsRow _ _ _ _ _ _ _
        rw [List.map_set, List.map_set]; exact h2
      clear h1 h2
      go_wp2_with fail
      go_roundw
      case rel =>
        refine ⟨k + 1, (ys.set k y).set q x, by omega, by have := HQ.out; omega, by go_num, by congr 1; have := HQ.out; omega, by rw [List.length_set, List.length_set]; exact HYL.out, HST.out, ((hKr.setCell (.inl (by simp)) _).setCell (.inl (by simp)) _).drew, fun m hm => ?_⟩
        have hq := HQ.out
        have hyl := HYL.out
        have hx := HYS.out k (by omega)
        have hy := HYS.out q hqn
        rw [HX.out, if_neg (by omega)] at hx
        rw [HY.out, if_neg (by omega)] at hy
        rw [List.getElem?_set, List.length_set]
        by_cases e1 : q = m
        · subst e1
          rw [if_pos rfl, if_pos (by omega), if_pos (by omega), show n - 1 - q = k by omega]
          exact hx
        · rw [if_neg e1, List.getElem?_set]
          by_cases e2 : k = m
          · subst e2
            rw [if_pos rfl, if_pos (by omega), if_pos (by omega), show n - 1 - k = q by omega]
            exact hy
          · rw [if_neg e2, HYS.out m hm]
            by_cases e3 : m < k ∨ n - k ≤ m
            · rw [if_pos e3, if_pos (by omega)]
            · rw [if_neg e3, if_neg (by omega)]
      case measure => simp [intOf]; omega
    · go_wp2_with fail
      go_end0
      have hrev : ys = xs.reverse := by
        apply List.ext_getElem?
        intro m
        have hyl := HYL.out
        have hxl := HL.out
        by_cases hm : m < n
        · rw [HYS.out m hm, List.getElem?_reverse (by omega), hxl]
          by_cases e3 : m < k ∨ n - k ≤ m
          · rw [if_pos e3]
          · rw [if_neg e3]
            congr 1
            omega
        · rw [List.getElem?_eq_none (by omega), List.getElem?_eq_none (by simp; omega)]
      refine ⟨rfl, ?_, hKr⟩
      rw [← hrev]
      exact hor

end Go.Proofs.YtbaifjdealmckaaGreat

/- The way between two brokers. -/
set_option linter.unusedVariables false
set_option linter.unusedSimpArgs false
namespace Go.Proofs.YtbaifjdealmckaaGreat
open Go.RowKit Tr

theorem ownsRow_prefix {w : World} {base : Nat} {e : TypeId} {g n cap m : Nat} {xs : List Value} (h : w.ownsRow base e 1 (.slice (some ⟨g, 0, none⟩) n cap) n xs) (hm : m ≤ n) :
    w.ownsRow base e 1 (.slice (some ⟨g, 0, none⟩) m cap) m (xs.take m) := by
  refine ⟨by rw [List.length_take, h.1]; omega, ?_⟩
  rcases h.2 with ⟨h0, _⟩ | ⟨g', cap', cur, h0, h1, h2, h3, h4, h5, h6⟩
  · cases h0
  · injection h0 with h7 h8 h9
    injection h7 with h7
    injection h7 with h7
    subst h7 h9
    refine .inr ⟨g, cap, cur, rfl, h1, h2, by omega, h4, h5, ?_⟩
    rw [← h6, List.take_take]
    congr 1
    omega

theorem own_cap {w : World} {base : Nat} {e : TypeId} {size g n cap : Nat} {xs : List Value} (h : w.ownsRow base e size (.slice (some ⟨g, 0, none⟩) n cap) n xs) : n ≤ cap ∧ cap ≤ 9223372036854775807 := by
  rcases h.2 with ⟨h0, _⟩ | ⟨g', cap', cur, h0, h1, h2, h3, h4, _⟩
  · cases h0
  · injection h0 with h7 h8 h9
    subst h9
    unfold maxLen at h4
    exact ⟨h3, by omega⟩

namespace Tr
/-- How long two lists are the same from the begin. -/
def cp : List Int → List Int → Nat
  | a :: x, b :: y => if a = b then cp x y + 1 else 0
  | _, _ => 0
theorem cp_le_l : ∀ (x y : List Int), cp x y ≤ x.length
  | [], _ => by simp [cp]
  | _ :: _, [] => by simp [cp]
  | a :: x, b :: y => by
    rw [cp]
    split
    · have := cp_le_l x y; simp; omega
    · simp
theorem cp_comm : ∀ (x y : List Int), cp x y = cp y x
  | [], [] => rfl
  | [], _ :: _ => by simp [cp]
  | _ :: _, [] => by simp [cp]
  | a :: x, b :: y => by
    rw [cp, cp, cp_comm x y]
    by_cases h : a = b
    · rw [if_pos h, if_pos h.symm]
    · rw [if_neg h, if_neg (fun e => h e.symm)]
theorem cp_le_r (x y : List Int) : cp x y ≤ y.length := by rw [cp_comm]; exact cp_le_l y x
theorem cp_get : ∀ (x y : List Int) (k : Nat), k < cp x y → x[k]? = y[k]? ∧ k < x.length
  | [], _, k, h => by simp [cp] at h
  | _ :: _, [], k, h => by simp [cp] at h
  | a :: x, b :: y, k, h => by
    rw [cp] at h
    split at h
    · rename_i e
      cases k with
      | zero => simp [e]
      | succ k =>
        have := cp_get x y k (by omega)
        simp [this.1]
        exact this.2
    · omega
theorem cp_end : ∀ (x y : List Int) (u v : Int), x[cp x y]? = some u → y[cp x y]? = some v → u ≠ v
  | [], _, u, v, h, _ => by simp at h
  | _ :: _, [], u, v, _, h => by simp at h
  | a :: x, b :: y, u, v, h1, h2 => by
    rw [cp] at h1 h2
    split at h1
    · rename_i e
      rw [if_pos e] at h2
      rw [List.getElem?_cons_succ] at h1 h2
      exact cp_end x y u v h1 h2
    · rename_i e
      rw [if_neg e] at h2
      simp at h1 h2
      subst h1 h2
      exact e

/-- The root's side first. -/
def rt (P : List Int) (i : Int) : List Int := (rise P i).reverse
def com (P : List Int) (a b : Int) : Nat := cp (rt P a) (rt P b)
/-- The way from a to b. -/
def path (P : List Int) (a b : Int) : List Int :=
  (rise P a).take ((rise P a).length + 1 - com P a b) ++ ((rise P b).take ((rise P b).length + 1 - com P a b)).reverse.tail
theorem com_comm (P : List Int) (a b : Int) : com P a b = com P b a := cp_comm _ _
theorem com_le_l (P : List Int) (a b : Int) : com P a b ≤ (rise P a).length := by unfold com rt; have := cp_le_l (rise P a).reverse (rise P b).reverse; simpa using this
theorem com_le_r (P : List Int) (a b : Int) : com P a b ≤ (rise P b).length := by rw [com_comm]; exact com_le_l P b a
theorem rt_root {P : List Int} (h : Tree P) {i : Int} (hi : inB P.length i) : ∃ r, (rt P i)[0]? = some r ∧ (rise P i)[depth P i]? = some r := by
  have hl := rise_len h hi
  have hlt : depth P i < (rise P i).length := by omega
  refine ⟨_, ?_, List.getElem?_eq_getElem hlt⟩
  unfold rt
  rw [List.getElem?_reverse (by omega)]
  rw [← List.getElem?_eq_getElem hlt]
  congr 1
  omega
theorem com_pos {P : List Int} (h : Tree P) {a b : Int} (ha : inB P.length a) (hb : inB P.length b) : 1 ≤ com P a b := by
  obtain ⟨r, h1, h2⟩ := rt_root h ha
  obtain ⟨s, h3, h4⟩ := rt_root h hb
  have e := rise_last h ha hb h2 h4
  subst e
  unfold com
  cases hx : rt P a with
  | nil => rw [hx] at h1; simp at h1
  | cons u x =>
    cases hy : rt P b with
    | nil => rw [hy] at h3; simp at h3
    | cons v y =>
      rw [hx] at h1
      rw [hy] at h3
      simp at h1 h3
      rw [cp, if_pos (by rw [h1, h3])]
      omega
end Tr

def pathG (P : List Int) (a b : Int) : List Int := if inB P.length a ∧ inB P.length b then path P a b else []

set_option maxRecDepth 100000 in
set_option maxHeartbeats 4000000 in
theorem path_in (b : Nat) (P : List Int) (x y : Int) (w : World) (h : TreeAt w b P) (hT : Tree P) (hx : inB P.length x) (hy : inB P.length y) :
    Calls Tryz.prog 98 #[.pointer (some ⟨b, 0, none⟩), .int .i64 x, .int .i64 y] w (RisePost w (path P x y)) := by
  obtain ⟨i0, hi, hz0, hz1, hz2⟩ := info_parts infoInt
  have hbx : (decide ((0:Int) ≤ x) && decide (x < (P.length:Int))) = true := by unfold inB at hx; simp; omega
  have hby : (decide ((0:Int) ≤ y) && decide (y < (P.length:Int))) = true := by unfold inB at hy; simp; omega
  have HBX := Lib.hid hbx
  have HBY := Lib.hid hby
  have erx : riseG P x = rise P x := by unfold riseG; rw [if_pos hx]
  have ery : riseG P y = rise P y := by unfold riseG; rw [if_pos hy]
  have hlx := riseG_le hT x
  have hly := riseG_le hT y
  have RX := rise_any b P x
  have RY := rise_any b P y
  rw [erx] at hlx RX
  rw [ery] at hly RY
  have RX' := Lib.hid RX
  have RY' := Lib.hid RY
  have hc1 := com_pos hT hx hy
  have hc2 := com_le_l P x y
  have hc3 := com_le_r P x y
  have HG : Hid (∀ k, k < com P x y → (rise P x).reverse[k]? = (rise P y).reverse[k]?) := fun k hk => (cp_get _ _ k hk).1
  have HE : Hid (∀ u v, (rise P x).reverse[com P x y]? = some u → (rise P y).reverse[com P x y]? = some v → u ≠ v) := fun u v h1 h2 => cp_end _ _ u v h1 h2
  clear hbx hby erx ery RX RY hx hy
  unfold path
  obtain ⟨X, hX⟩ : ∃ X, rise P x = X := ⟨_, rfl⟩
  obtain ⟨Y, hY⟩ : ∃ Y, rise P y = Y := ⟨_, rfl⟩
  obtain ⟨C, hC⟩ : ∃ C, com P x y = C := ⟨_, rfl⟩
  rw [hX] at hlx hc2 HG HE RX' ⊢
  rw [hY] at hly hc3 HG HE RY' ⊢
  rw [hC] at hc1 hc2 hc3 HG HE ⊢
  clear hX hY hC
  obtain ⟨lx, hlX⟩ : ∃ lx, X.length = lx := ⟨_, rfl⟩
  obtain ⟨ly, hlY⟩ : ∃ ly, Y.length = ly := ⟨_, rfl⟩
  rw [hlX] at hlx hc2 ⊢
  rw [hlY] at hly hc3 ⊢
  have HLX := Lib.hid hlX
  have HLY := Lib.hid hlY
  clear hlX hlY
  obtain ⟨R, hR⟩ : ∃ R, X.take (lx + 1 - C) ++ (Y.take (ly + 1 - C)).reverse.tail = R := ⟨_, rfl⟩
  rw [hR]
  have HR := Lib.hid hR
  clear hR
  go_enter Tryz.func98, Tryz.ntmps98
  go_wp2_with fail
  refine (is_some b P.length _ x _ h).mono ?_
  rintro e w' ⟨rfl, rfl⟩
  rw [HBX.out]
  go_wp2_with fail
  refine (is_some b P.length _ y _ h).mono ?_
  rintro e w' ⟨rfl, rfl⟩
  rw [HBY.out]
  go_wp2_with fail
  refine (RX'.out w h hT).mono ?_
  rintro e w1 ⟨v1, rfl, ho1, hK1⟩
  rw [HLX.out] at ho1
  obtain ⟨g1, cap1, rfl, hg1, hg1l⟩ := ho1.form (by omega)
  go_wp2_with fail
  refine (RY'.out w1 (RawAt.keep h hK1) hT).mono ?_
  rintro e w2 ⟨v2, rfl, ho2, hK2⟩
  rw [HLY.out] at ho2
  obtain ⟨g2, cap2, rfl, hg2, hg2l⟩ := ho2.form (by omega)
  have ho1' := ownsRow_keep ho1 hK2 (by simp)
  have hgne : g1 ≠ g2 := by omega
  have hK02 := hK1.trans hK2
  have HO1 := Lib.hid ho1'
  have HO2 := Lib.hid ho2
  have hgw : w.heap.size ≤ g2 := by have := hK1.size; omega
  obtain ⟨hc1a, hc1b⟩ := own_cap ho1
  obtain ⟨hc2a, hc2b⟩ := own_cap ho2
  clear ho1 ho2 ho1' hg2 hg1l
  go_upto_block 0 with fail
  go_cut [7, 8] (fun u v wc => ∃ (p q m : Nat), 1 ≤ p ∧ 1 ≤ q ∧ p + C = lx + 1 ∧ q + C = ly + 1 ∧ u = .slice (some ⟨g1, 0, none⟩) p cap1 ∧ v = .slice (some ⟨g2, 0, none⟩) q cap2 ∧ wc = w2.drewN m)
  case first =>
    go_wp2_with fail
    go_loopw [7, 8] (fun u v wr => ∃ (k p q m : Nat), k + 1 ≤ C ∧ p + k = lx ∧ q + k = ly ∧ u = .slice (some ⟨g1, 0, none⟩) p cap1 ∧ v = .slice (some ⟨g2, 0, none⟩) q cap2 ∧ wr = w2.drewN m) (fun u _ _ => sliceLen u)
    case atStart => exact ⟨0, lx, ly, 0, by omega, by omega, by omega, rfl, rfl, rfl⟩
    case round =>
      obtain ⟨k, p, q, m, hk, hp, hq, rfl, rfl, rfl⟩ := hrel
      have HP := Lib.hid hp
      have HQ := Lib.hid hq
      have hp1 : 1 ≤ p := by omega
      have hq1 : 1 ≤ q := by omega
      have hp16 : p ≤ 16 := by omega
      have hq16 : q ≤ 16 := by omega
      have hpc : p ≤ cap1 := by omega
      have hqc : q ≤ cap2 := by omega
      clear hp hq
      by_cases hlast : k + 1 = C
      · have HLAST := Lib.hid hlast
        clear hlast
        by_cases hp1' : p = 1
        · have b1 : decide ((1 : Int) < (p : Int)) = false := by simp; omega
          clear hp1'
          go_wp2_with fail
          go_quiet (fail)
          go_wp2_with fail
          go_meet
          case rel => exact ⟨p, q, _, by omega, by omega, by have := HP.out; have := HLAST.out; omega, by have := HQ.out; have := HLAST.out; omega, rfl, rfl, by rw [World.drewN_drewN]⟩
        · have b1 : decide ((1 : Int) < (p : Int)) = true := by simp; omega
          by_cases hq1'' : q = 1
          · have b2 : decide ((1 : Int) < (q : Int)) = false := by simp; omega
            clear hq1''
            go_wp2_with fail
            go_quiet (fail)
            go_wp2_with fail
            go_meet
            case rel => exact ⟨p, q, _, by omega, by omega, by have := HP.out; have := HLAST.out; omega, by have := HQ.out; have := HLAST.out; omega, rfl, rfl, by rw [World.drewN_drewN]⟩
          · have b2 : decide ((1 : Int) < (q : Int)) = true := by simp; omega
            have hp2 : 1 < p := by omega
            have hq2 : 1 < q := by omega
            obtain ⟨z1, hz1x⟩ : ∃ z, X[p - 2]? = some z := ⟨_, List.getElem?_eq_getElem (by have := HP.out; have := HLX.out; omega)⟩
            obtain ⟨z2, hz2x⟩ : ∃ z, Y[q - 2]? = some z := ⟨_, List.getElem?_eq_getElem (by have := HQ.out; have := HLY.out; omega)⟩
            have hzz : z1 ≠ z2 := by
              have e1 := HP.out
              have e2 := HQ.out
              have e3 := HLX.out
              have e4 := HLY.out
              have e5 := HLAST.out
              refine HE.out z1 z2 ?_ ?_
              · rw [List.getElem?_reverse (by omega), e3, show lx - 1 - C = p - 2 by omega]; exact hz1x
              · rw [List.getElem?_reverse (by omega), e4, show ly - 1 - C = q - 2 by omega]; exact hz2x
            have hzb : (z1 == z2) = false := by simp [hzz]
            have e1 : w2.cell? ⟨g1, p - 2, none⟩ = some (.int .i64 z1) := by rw [HO1.out.cellAt (p - 2) (by have := HP.out; omega), List.getElem?_map, hz1x]; rfl
            have e2 : w2.cell? ⟨g2, q - 2, none⟩ = some (.int .i64 z2) := by rw [HO2.out.cellAt (q - 2) (by have := HQ.out; omega), List.getElem?_map, hz2x]; rfl
            have HZZ := Lib.hid hzz
            clear hz1x hz2x hzz
            go_wp2_with fail
            go_quiet (fail)
            go_wp2_with fail
            go_meet
            case rel => exact ⟨p, q, _, by omega, by omega, by have := HP.out; have := HLAST.out; omega, by have := HQ.out; have := HLAST.out; omega, rfl, rfl, by rw [World.drewN_drewN]⟩
      · have hp2 : 1 < p := by have := HP.out; omega
        have hq2 : 1 < q := by have := HQ.out; omega
        obtain ⟨z, hz⟩ : ∃ z, X[p - 2]? = some z := ⟨_, List.getElem?_eq_getElem (by have := HP.out; have := HLX.out; omega)⟩
        have hz2 : Y[q - 2]? = some z := by
          have := HG.out (k + 1) (by omega)
          have e1 := HP.out
          have e2 := HQ.out
          have e3 := HLX.out
          have e4 := HLY.out
          rw [List.getElem?_reverse (by omega), List.getElem?_reverse (by omega), e3, e4, show lx - 1 - (k + 1) = p - 2 by omega, show ly - 1 - (k + 1) = q - 2 by omega, hz] at this
          exact this.symm
        have e1 : w2.cell? ⟨g1, p - 2, none⟩ = some (.int .i64 z) := by rw [HO1.out.cellAt (p - 2) (by have := HP.out; omega), List.getElem?_map, hz]; rfl
        have e2 : w2.cell? ⟨g2, q - 2, none⟩ = some (.int .i64 z) := by rw [HO2.out.cellAt (q - 2) (by have := HQ.out; omega), List.getElem?_map, hz2]; rfl
        have b1 : decide ((1 : Int) < (p : Int)) = true := by simp; omega
        have b2 : decide ((1 : Int) < (q : Int)) = true := by simp; omega
        clear hz hz2
        go_wp2_with fail
        go_quiet (fail)
        go_wp2_with fail
        go_quiet (fail)
        go_wp2_with fail
        go_roundw
        case rel => exact ⟨k + 1, p - 1, q - 1, _, by omega, by have := HP.out; omega, by have := HQ.out; omega, rfl, rfl, by rw [World.drewN_drewN, World.drewN_drewN]⟩
        case measure => simp [sliceLen]; omega
  case rest =>
    obtain ⟨p, q, m, hp1, hq1, hp, hq, rfl, rfl, rfl⟩ := hcut
    have HP := Lib.hid hp
    have HQ := Lib.hid hq
    have hp16 : p ≤ 16 := by omega
    have hq16 : q ≤ 16 := by omega
    have hpc : p ≤ cap1 := by omega
    have hqc : q ≤ cap2 := by omega
    have hqy : q ≤ ly := by omega
    have hpx : p ≤ lx := by omega
    clear hp hq
    go_wp2_with fail
    have hYq : (Y.take q).length = q := by rw [List.length_take, HLY.out]; have := HQ.out; omega
    have HYQ := Lib.hid hYq
    clear hYq
    have ho2q : w2.ownsRow w1.heap.size 3 1 (.slice (some ⟨g2, 0, none⟩) q cap2) q ((Y.take q).map (.int .i64)) := by
      have := ownsRow_prefix HO2.out (m := q) (by have := HQ.out; omega)
      rwa [← List.map_take] at this
    have ho1p : w2.ownsRow w.heap.size 3 1 (.slice (some ⟨g1, 0, none⟩) p cap1) p ((X.take p).map (.int .i64)) := by
      have := ownsRow_prefix HO1.out (m := p) (by have := HP.out; omega)
      rwa [← List.map_take] at this
    have HO2Q := Lib.hid ho2q
    have HO1P := Lib.hid ho1p
    clear ho2q ho1p
    refine (reverse_any g2 q cap2 w1.heap.size (Y.take q) _ (by exact HO2Q.out) (by omega) (by omega)).mono ?_
    rintro e w3 ⟨rfl, hor3, hK3⟩
    have hop3 := ownsRow_keep (by exact HO1P.out) hK3 (by intro x hx; simp [Value.ownBlock] at hx; simp; omega)
    have hKw3 : Kept [] w w3 := Kept.after (hK02.drewN _) hK3 (by simp; exact hgw)
    have HOR3 := Lib.hid hor3
    have HOP3 := Lib.hid hop3
    clear hor3 hop3
    have hsz3 : w.heap.size ≤ w3.heap.size := hKw3.size
    have hl1 : (((Y.take q).reverse.tail).map (Value.int .i64)).length = (q - 1) * 1 := by rw [List.length_map, List.length_tail, List.length_reverse, HYQ.out, Nat.mul_one]
    have HL1 := Lib.hid hl1
    clear hl1
    by_cases hcc : cap2 = 1
    · have hq1' : q = 1 := by omega
      subst hcc
      subst hq1'
      have htl : ((Y.take 1).reverse.tail) = [] := List.eq_nil_of_length_eq_zero (by simp [HYQ.out])
      have HTL := Lib.hid htl
      clear htl
      go_wp2_with (at_builtin; refine wpList_append_own _ rfl _ _ 22 rfl w.heap.size 3 i0 (.int .i64 0) 1 8 Tryz.underlying22 hi hz0 hz1 hz2 rfl (by decide) _ p ((X.take p).map (.int .i64)) rfl HOP3.out ⟨g2, 0, none⟩ 0 0 [] rfl rfl (by simp) (by simp) (by unfold maxLen; omega) (by omega) hsz3 ?_; intro v' w4 hown4 hgrow4 _)
      go_ret
      change w3.grownBy w4 (Value.ownBlock (.slice (some ⟨g1, 0, none⟩) p cap1)) at hgrow4
      refine ⟨v', rfl, ?_, hKw3.grown hgrow4 (fun x hx => .inr (by simp [Value.ownBlock] at hx; subst hx; exact hg1))⟩
      have ep : lx + 1 - C = p := by have := HP.out; omega
      have eq' : ly + 1 - C = 1 := by have := HQ.out; omega
      rw [← HR.out, ep, eq', HTL.out, List.append_nil]
      simp only [List.append_nil, Nat.add_zero] at hown4
      have hXp : (X.take p).length = p := by rw [List.length_take, HLX.out]; have := HP.out; omega
      simp only [List.length_map, hXp]
      simpa using hown4
    · have hcc2 : ¬ (cap2 - 1 = 0) := by omega
      have hca : ∀ j u, (((Y.take q).reverse.tail).map (Value.int .i64))[j]? = some u → w3.cell? ((⟨g2, 1, none⟩ : Addr).add j) = some u := by
        intro j u hu
        have ha : (⟨g2, 1, none⟩ : Addr).add j = ⟨g2, 1 + j, none⟩ := by unfold Addr.add; split <;> simp_all
        have hj : j < q - 1 := by
          have := (List.getElem?_eq_some_iff.1 hu).1
          rw [HL1.out] at this; omega
        rw [ha, HOR3.out.cellAt (1 + j) (by omega)]
        rw [List.getElem?_map, List.getElem?_tail] at hu
        rw [List.getElem?_map, Nat.add_comm 1 j]
        exact hu
      have HCA := Lib.hid hca
      clear hca
      go_wp2_with (at_builtin; refine wpList_append_own _ rfl _ _ 22 rfl w.heap.size 3 i0 (.int .i64 0) 1 8 Tryz.underlying22 hi hz0 hz1 hz2 rfl (by decide) _ p ((X.take p).map (.int .i64)) rfl HOP3.out ⟨g2, 1, none⟩ (q - 1) (cap2 - 1) (((Y.take q).reverse.tail).map (.int .i64)) rfl HL1.out HCA.out (by intro u hu; obtain ⟨z, _, rfl⟩ := List.mem_map.1 hu; rfl) (by unfold maxLen; omega) (by omega) hsz3 ?_; intro v' w4 hown4 hgrow4 _)
      go_ret
      change w3.grownBy w4 (Value.ownBlock (.slice (some ⟨g1, 0, none⟩) p cap1)) at hgrow4
      refine ⟨v', rfl, ?_, hKw3.grown hgrow4 (fun x hx => .inr (by simp [Value.ownBlock] at hx; subst hx; exact hg1))⟩
      have ep : lx + 1 - C = p := by have := HP.out; omega
      have eq' : ly + 1 - C = q := by have := HQ.out; omega
      rw [← HR.out, ep, eq', List.map_append]
      have hXp : (X.take p ++ ((Y.take q).reverse).tail).length = p + (q - 1) := by
        rw [List.length_append, List.length_take, HLX.out]
        have h1 := HL1.out
        rw [List.length_map] at h1
        have := HP.out
        omega
      simp only [List.length_map, hXp]
      exact hown4

end Go.Proofs.YtbaifjdealmckaaGreat

/- Dist, Wide, Meet. -/
set_option linter.unusedVariables false
set_option linter.unusedSimpArgs false
namespace Go.Proofs.YtbaifjdealmckaaGreat
open Go.RowKit Tr

theorem pathG_in {P : List Int} {x y : Int} (hx : inB P.length x) (hy : inB P.length y) : pathG P x y = path P x y := by unfold pathG; rw [if_pos ⟨hx, hy⟩]
set_option maxRecDepth 100000 in
set_option maxHeartbeats 4000000 in
theorem path_any (b : Nat) (P : List Int) (x y : Int) (w : World) (h : TreeAt w b P) (hT : Tree P) :
    Calls Tryz.prog 98 #[.pointer (some ⟨b, 0, none⟩), .int .i64 x, .int .i64 y] w (RisePost w (pathG P x y)) := by
  by_cases hx : inB P.length x
  · by_cases hy : inB P.length y
    · rw [pathG_in hx hy]
      exact path_in b P x y w h hT hx hy
    · have e : pathG P x y = [] := by unfold pathG; rw [if_neg (fun c => hy c.2)]
      rw [e]
      have hbx : (decide ((0:Int) ≤ x) && decide (x < (P.length:Int))) = true := by unfold inB at hx; simp; omega
      have hby : (decide ((0:Int) ≤ y) && decide (y < (P.length:Int))) = false := by unfold inB at hy; simp; omega
      have HBX := Lib.hid hbx
      have HBY := Lib.hid hby
      clear hbx hby e hx hy
      go_enter Tryz.func98, Tryz.ntmps98
      go_wp2_with fail
      refine (is_some b P.length _ x _ h).mono ?_
      rintro e w' ⟨rfl, rfl⟩
      rw [HBX.out]
      go_wp2_with fail
      refine (is_some b P.length _ y _ h).mono ?_
      rintro e w' ⟨rfl, rfl⟩
      rw [HBY.out]
      go_wp2_with fail
      go_ret
      exact ⟨_, rfl, ⟨rfl, .inl ⟨rfl, rfl⟩⟩, Kept.refl _ _⟩
  · have e : pathG P x y = [] := by unfold pathG; rw [if_neg (fun c => hx c.1)]
    rw [e]
    have hbx : (decide ((0:Int) ≤ x) && decide (x < (P.length:Int))) = false := by unfold inB at hx; simp; omega
    have HBX := Lib.hid hbx
    clear hbx e hx
    go_enter Tryz.func98, Tryz.ntmps98
    go_wp2_with fail
    refine (is_some b P.length _ x _ h).mono ?_
    rintro e w' ⟨rfl, rfl⟩
    rw [HBX.out]
    go_wp2_with fail
    go_ret
    exact ⟨_, rfl, ⟨rfl, .inl ⟨rfl, rfl⟩⟩, Kept.refl _ _⟩

theorem path_nil (x y : Int) (w : World) :
    Calls Tryz.prog 98 #[.pointer none, .int .i64 x, .int .i64 y] w fun e w' => e = .returned (.slice none 0 0) ∧ w = w' := by
  go_enter Tryz.func98, Tryz.ntmps98
  go_wp2_with fail
  refine (is_nil x _).mono ?_
  rintro e w' ⟨rfl, rfl⟩
  go_wp2_with fail
  go_ret
  exact ⟨rfl, rfl⟩

namespace Tr
theorem path_len {P : List Int} (h : Tree P) {a b : Int} (ha : inB P.length a) (hb : inB P.length b) :
    (path P a b).length + 2 * com P a b = (rise P a).length + (rise P b).length + 1 := by
  have h1 := com_le_l P a b
  have h2 := com_le_r P a b
  have h3 := com_pos h ha hb
  unfold path
  rw [List.length_append, List.length_take, List.length_tail, List.length_reverse, List.length_take]
  omega
theorem path_le {P : List Int} (h : Tree P) (a b : Int) : (pathG P a b).length ≤ 31 := by
  unfold pathG
  split
  · rename_i hh
    have h1 := path_len h hh.1 hh.2
    have h2 := riseG_le h a
    have h3 := riseG_le h b
    have h4 := com_pos h hh.1 hh.2
    unfold riseG at h2 h3
    rw [if_pos hh.1] at h2
    rw [if_pos hh.2] at h3
    omega
  · simp
end Tr
def distG (P : List Int) (a b : Int) : Int := max 0 (((pathG P a b).length : Int) - 1)

set_option maxHeartbeats 1000000 in
theorem dist_any (b : Nat) (P : List Int) (x y : Int) (w : World) (h : TreeAt w b P) (hT : Tree P) :
    Calls Tryz.prog 69 #[.pointer (some ⟨b, 0, none⟩), .int .i64 x, .int .i64 y] w fun e w' => e = .returned (.int .i64 (distG P x y)) ∧ Kept [] w w' := by
  have hl := path_le hT x y
  unfold distG
  go_enter Tryz.func69, Tryz.ntmps69
  go_wp2_with fail
  refine (path_any b P x y _ h hT).mono ?_
  rintro e w1 ⟨v, rfl, hown, hK⟩
  obtain ⟨A, c, rfl, -⟩ := own_lenT hown
  go_wp2_with fail
  go_ret
  exact ⟨rfl, hK⟩

end Go.Proofs.YtbaifjdealmckaaGreat

/- The reference's tree: has, Is, up, New. Printed by gen_r.py out of c17's T20, T24, T25. -/
set_option linter.unusedVariables false
set_option linter.unusedSimpArgs false
set_option linter.unnecessarySimpa false
namespace Go.Proofs.YtbaifjdealmckaaGreat
open Go.RowKit Tr

def inBb (n : Nat) (i : Int) : Bool := decide (0 ≤ i) && decide (i < n)


/-- The reference's tree. -/
def RT (w : World) (r : Nat) (v : Value) (P : List Int) : Prop := w.cell? ⟨r, 0, none⟩ = some v ∧ RdI w .i64 v P
theorem RT.keep {w w' : World} {r : Nat} {v : Value} {P : List Int} (h : RT w r v P) (k : Kept [] w w') : RT w' r v P := ⟨k.cell (by simp) h.1, h.2.keep k⟩

set_option maxHeartbeats 1000000 in
theorem has_any (v : Value) (xs : List Int) (x : Int) (w : World) (hx : RdI w .i64 v xs) : Calls Tryz.prog 114 #[v, .int .i64 x] w fun e w' => e = .returned (.bool (xs.contains x)) ∧ w = w' := by
  obtain ⟨A, c, rfl, hmx, hx⟩ := hx
  unfold maxLen at hmx
  have HX := Lib.hid hx
  obtain ⟨n, hn⟩ : ∃ n, xs.length = n := ⟨_, rfl⟩
  rw [hn] at hmx ⊢
  have HN := Lib.hid hn
  clear hn hx
  go_enter Tryz.func114, Tryz.ntmps114
  go_wp2_with fail
  go_loop [5] (fun i => ∃ (k : Nat), k ≤ n ∧ i = .int .i64 k ∧ x ∉ xs.take k) (fun i => n - (intOf i).toNat)
  case atStart => exact ⟨0, by omega, rfl, by simp⟩
  case round =>
    obtain ⟨k, hk, rfl, hni⟩ := hrel
    have HNI := Lib.hid hni
    clear hni
    by_cases hlt : k < n
    · obtain ⟨y, hy⟩ : ∃ y, xs[k]? = some y := ⟨_, List.getElem?_eq_getElem (by rw [HN.out]; exact hlt)⟩
      obtain ⟨b, off, rfl, hc⟩ := HX.out (by rintro rfl; simp at hy)
      have hck := hc k y hy
      have HC := Lib.hid hc
      have HY := Lib.hid hy
      clear hc hy
      cases hxy : (y == x) with
      | true =>
        have HXY := Lib.hid hxy
        go_wp2_with fail
        go_ret
        refine ⟨ret_bool ?_, rfl⟩
        have hm : x ∈ xs := by
          have : y = x := by simpa using HXY.out
          rw [← this]
          exact List.mem_of_getElem? HY.out
        simp [hm]
      | false =>
        have HXY := Lib.hid hxy
        go_wp2_with fail
        go_round
        case rel =>
          refine ⟨k + 1, by omega, by go_num, ?_⟩
          obtain ⟨h1, h2⟩ := List.getElem?_eq_some_iff.1 HY.out
          rw [List.take_succ_eq_append_getElem h1, h2, List.mem_append]
          rintro (h | h)
          · exact HNI.out h
          · have e : x = y := by simpa using h
            have := HXY.out
            rw [e] at this
            simp at this
        case measure => simp [intOf]; omega
    · go_wp2_with fail
      go_ret
      refine ⟨ret_bool ?_, rfl⟩
      have := HNI.out
      rw [List.take_of_length_le (by rw [HN.out]; omega)] at this
      simp [this]

set_option maxHeartbeats 1000000 in
theorem is_ref (r : Nat) (v : Value) (P : List Int) (i : Int) (w : World) (h : RT w r v P) :
    Calls Tryz.prog 47 #[.pointer (some ⟨r, 0, none⟩), .int .i64 i] w fun e w' => e = .returned (.bool (inBb P.length i)) ∧ w = w' := by
  obtain ⟨hc, A, c, rfl, hmx, -⟩ := h
  unfold inBb
  by_cases hi : 0 ≤ i
  · go_enter Tryz.func47, Tryz.ntmps47
    go_wp2
    go_ret
    exact ⟨by simp [hi], rfl⟩
  · go_enter Tryz.func47, Tryz.ntmps47
    go_wp2
    go_ret
    exact ⟨by simp; omega, rfl⟩

/-- What up answers. -/
def UpPost (w : World) (P : List Int) (i : Int) (e : Ending) (w' : World) : Prop :=
  Kept [] w w' ∧ ((climbs P (P.length + 1) i = none ∧ e = .returned (.tuple #[.slice none 0 0, .bool false])) ∨
    ((climbs P (P.length + 1) i).isSome = true ∧ ∃ v, e = .returned (.tuple #[v, .bool true]) ∧ w'.ownsRow w.heap.size 3 1 v (up P (P.length + 1) i).length ((up P (P.length + 1) i).map (.int .i64))))

theorem up_len (P : List Int) : ∀ (f : Nat) (i : Int), (up P f i).length ≤ f
  | 0, i => by simp [up]
  | f + 1, i => by
    rw [up]
    have := up_len P f (par P i)
    split
    · simp
    · simp; omega

set_option maxRecDepth 100000 in
set_option maxHeartbeats 4000000 in
theorem up_any (v : Value) (P : List Int) (i : Int) (w : World) (hx : RdI w .i64 v P) (h16 : P.length ≤ 16) (hr : ∀ i, inB P.length i → par P i = -1 ∨ inB P.length (par P i)) (hi : inB P.length i) :
    Calls Tryz.prog 32 #[v, .int .i64 i] w (UpPost w P i) := by
  obtain ⟨i0, hi0, hz0, hz1, hz2⟩ := info_parts infoInt
  obtain ⟨A, c, rfl, hmx, hx⟩ := hx
  unfold maxLen at hmx
  have HR := Lib.hid hr
  have hne : P ≠ [] := by rintro rfl; unfold inB at hi; simp at hi; omega
  obtain ⟨b, off, rfl, hc⟩ := hx hne
  have HC := Lib.hid hc
  obtain ⟨n, hn⟩ : ∃ n, P.length = n := ⟨_, rfl⟩
  rw [hn] at hmx h16 ⊢
  have HN := Lib.hid hn
  have HI : Hid (inB n i) := by rw [← hn]; exact hi
  clear hn hr hi hx hc hne
  go_enter Tryz.func32, Tryz.ntmps32
  go_wp2_with fail
  go_loopw [1, 6, 7] (fun p o kk wr => ∃ (j : Nat) (pre : List Int) (k : Nat) (m : Nat), k + m = n + 1 ∧ p = .int .i64 j ∧ j < n ∧ kk = .int .i64 k ∧ pre.length = k ∧ (climbs P (n + 1) i = (climbs P m j).map (· + k)) ∧ up P (n + 1) i = pre ++ up P m j ∧ wr.ownsRow w.heap.size 3 1 o pre.length (pre.map (.int .i64)) ∧ Kept [] w wr) (fun _ _ kk _ => n + 1 - (intOf kk).toNat)
  case atStart =>
    have hi := HI.out
    unfold inB at hi
    refine ⟨i.toNat, [], 0, n + 1, by omega, ?_, by omega, rfl, rfl, ?_, ?_, World.ownsRow_nil _ _ _ _, Kept.refl _ _⟩
    · rw [Int.toNat_of_nonneg hi.1]
    · rw [Int.toNat_of_nonneg hi.1]; simp
    · rw [Int.toNat_of_nonneg hi.1]; simp
  case round =>
    obtain ⟨j, pre, k, m, hkm, rfl, hj, rfl, hpk, hcl, hup, hown, hK⟩ := hrel
    have HPK := Lib.hid hpk
    have HCL := Lib.hid hcl
    have HUP := Lib.hid hup
    rw [hpk] at hown
    have HOWN := Lib.hid hown
    obtain ⟨AA, cc, rfl, -⟩ := own_lenT hown
    clear hpk hcl hup hown
    by_cases hlt : k ≤ n
    · obtain ⟨m', hm'⟩ : ∃ m', m = m' + 1 := ⟨m - 1, by omega⟩
      have HM := Lib.hid hm'
      obtain ⟨q, hq⟩ : ∃ q, P[j]? = some q := ⟨_, List.getElem?_eq_getElem (by rw [HN.out]; exact hj)⟩
      have hpq : par P j = q := by unfold par; rw [List.getD_eq_getElem?_getD]; simp [hq]
      have hck := HC.out j q hq
      have HPQ := Lib.hid hpq
      have hqr := HR.out j (by unfold inB; rw [HN.out]; omega)
      rw [hpq, HN.out] at hqr
      have HQR := Lib.hid hqr
      clear hm' hq hpq hqr
      have hgb : ∀ x, (Value.slice AA k cc).ownBlock = some x → w.heap.size ≤ x := fun x hx => (HOWN.out.lt x hx).1
      have HGB := Lib.hid hgb
      clear hgb
      go_wp2_with (at_builtin; refine wpList_append_own _ rfl _ _ 22 rfl w.heap.size 3 i0 (.int .i64 0) 1 8 Tryz.underlying22 hi0 hz0 hz1 hz2 rfl (by decide) _ k (pre.map (.int .i64)) rfl (World.ownsRow.alloc HOWN.out _) ⟨wr.heap.size, 0, none⟩ 1 1 [.int .i64 j] rfl rfl (cell_one_new _ _ _) (by simp [Value.oneCell']) (by unfold maxLen; omega) (by omega) (by have := hK.size; simp; omega) ?_)
      intro v' w4 hown4 hgrow4 _
      have hK4 : Kept [] w w4 := (hK.alloc _).grown hgrow4 (fun x hx => .inr (HGB.out x hx))
      have hck4 := hK4.cell (by simp) hck
      have HOWN4 := Lib.hid hown4
      clear hown4 hgrow4
      cases hqb : (q == -1) with
      | true =>
        have HQB := Lib.hid hqb
        go_wp2_with fail
        go_ret2
        unfold UpPost
        rw [HN.out]
        have hp1 : par P j < 0 := by have := HQB.out; simp at this; rw [HPQ.out]; omega
        have e1 : up P m j = [(j : Int)] := by rw [HM.out, up, if_pos hp1]
        have e2 : climbs P m j = some 0 := by rw [HM.out, climbs, if_pos hp1]
        refine ⟨hK4, .inr ⟨by rw [HCL.out, e2]; rfl, v', rfl, ?_⟩⟩
        rw [HUP.out, e1, List.map_append, List.length_append, HPK.out]
        exact HOWN4.out
      | false =>
        have HQB := Lib.hid hqb
        go_wp2_with fail
        go_roundw
        case rel =>
          have hq1 : 0 ≤ q ∧ q < n := by
            rcases HQR.out with h1 | h1
            · have := HQB.out; rw [h1] at this; simp at this
            · exact h1
          have hp1 : ¬ par P j < 0 := by rw [HPQ.out]; omega
          have e1 : up P m j = (j : Int) :: up P m' q := by rw [HM.out, up, if_neg hp1, HPQ.out]
          have e2 : climbs P m j = (climbs P m' q).map (· + 1) := by rw [HM.out, climbs, if_neg hp1, HPQ.out]
          have e3 : ((q.toNat : Nat) : Int) = q := by omega
          refine ⟨q.toNat, pre ++ [(j : Int)], k + 1, m', by have := HM.out; omega, by rw [e3], by omega, by go_num, by simp [HPK.out], ?_, ?_, ?_, hK4⟩
          · rw [HCL.out, e2, e3, Option.map_map]
            congr 1
            funext x
            simp
            omega
          · rw [HUP.out, e1, e3]; simp
          · rw [List.map_append, List.length_append, HPK.out]
            exact HOWN4.out
        case measure => simp [intOf]; omega
    · go_wp2_with fail
      go_ret2
      unfold UpPost
      rw [HN.out]
      refine ⟨hK, .inl ⟨?_, rfl⟩⟩
      have : m = 0 := by omega
      rw [HCL.out, this]; rfl


namespace Tr

theorem nodup_len : ∀ (n : Nat) (l : List Int), l.Nodup → (∀ x ∈ l, inB n x) → l.length ≤ n
  | 0, l, _, h => by
    cases l with
    | nil => simp
    | cons x l => have := h x (by simp); unfold inB at this; omega
  | n + 1, l, hn, h => by
    by_cases hm : (n : Int) ∈ l
    · have h1 := nodup_len n (l.erase n) (hn.erase _) (fun x hx => by
        have h2 := h x (List.mem_of_mem_erase hx)
        have h3 : x ≠ n := by
          rintro rfl
          exact (List.Nodup.not_mem_erase hn) hx
        unfold inB at *; omega)
      rw [List.length_erase_of_mem hm] at h1
      omega
    · have h1 := nodup_len n l hn (fun x hx => by
        have h2 := h x hx
        have h3 : x ≠ n := by rintro rfl; exact hm hx
        unfold inB at *; omega)
      omega
theorem climbs_eq {P : List Int} {f g : Nat} {i : Int} {k m : Nat} (h : climbs P f i = some k) (h' : climbs P g i = some m) : k = m := by
  rcases Nat.le_total f g with hh | hh
  · have := climbs_more P f g i k h hh; rw [this] at h'; exact Option.some.inj h'
  · have := climbs_more P g f i m h' hh; rw [this] at h; exact (Option.some.inj h).symm
theorem up_climbs {P : List Int} (hr : ∀ i, inB P.length i → par P i = -1 ∨ inB P.length (par P i)) : ∀ (f : Nat) (i : Int) (k : Nat), inB P.length i → climbs P f i = some k →
    (up P f i).length = k + 1 ∧ (∀ x ∈ up P f i, inB P.length x ∧ ∃ m, m ≤ k ∧ climbs P (m + 1) x = some m) ∧ (up P f i).Nodup
  | 0, i, k, hi, h => by simp [climbs] at h
  | f + 1, i, k, hi, h => by
    rw [climbs] at h
    rw [up]
    by_cases hp : par P i < 0
    · rw [if_pos hp] at h ⊢
      have hk : k = 0 := (Option.some.inj h).symm
      subst hk
      refine ⟨rfl, fun x hx => ?_, by simp⟩
      have hx' : x = i := by simpa using hx
      subst hx'
      exact ⟨hi, 0, Nat.le_refl _, by rw [climbs, if_pos hp]⟩
    · rw [if_neg hp] at h ⊢
      have hpi : inB P.length (par P i) := by
        rcases hr i hi with h1 | h1
        · omega
        · exact h1
      obtain ⟨k', hk', rfl⟩ : ∃ k', climbs P f (par P i) = some k' ∧ k = k' + 1 := by
        cases hc : climbs P f (par P i) with
        | none => rw [hc] at h; simp at h
        | some k' => rw [hc] at h; simp at h; exact ⟨k', rfl, by omega⟩
      obtain ⟨h1, h2, h3⟩ := up_climbs hr f (par P i) k' hpi hk'
      have hci : climbs P (k' + 1 + 1) i = some (k' + 1) := by
        rw [climbs, if_neg hp, climbs_less P k' (k' + 1) (par P i) f hk' (by omega)]; rfl
      refine ⟨by simp [h1], fun x hx => ?_, ?_⟩
      · rcases List.mem_cons.1 hx with rfl | hx
        · exact ⟨hi, k' + 1, Nat.le_refl _, hci⟩
        · obtain ⟨g1, m, g2, g3⟩ := h2 x hx
          exact ⟨g1, m, by omega, g3⟩
      · rw [List.nodup_cons]
        refine ⟨fun hm => ?_, h3⟩
        obtain ⟨_, m, g2, g3⟩ := h2 i hm
        have := climbs_eq hci g3
        omega
theorem climbs_lt {P : List Int} (hr : ∀ i, inB P.length i → par P i = -1 ∨ inB P.length (par P i)) {f : Nat} {i : Int} {k : Nat} (hi : inB P.length i) (h : climbs P f i = some k) : k < P.length := by
  obtain ⟨h1, h2, h3⟩ := up_climbs hr f i k hi h
  have := nodup_len P.length _ h3 (fun x hx => (h2 x hx).1)
  omega
theorem climbs_plus {P : List Int} (hr : ∀ i, inB P.length i → par P i = -1 ∨ inB P.length (par P i)) {i : Int} (hi : inB P.length i) : climbs P (P.length + 1) i = climbs P P.length i := by
  cases h : climbs P (P.length + 1) i with
  | some k => exact (climbs_less P k P.length i _ h (climbs_lt hr hi h)).symm
  | none =>
    cases h' : climbs P P.length i with
    | none => rfl
    | some k => rw [climbs_mono P _ _ _ h'] at h; cases h
end Tr



/-- What ref.New answers: the same error; a tree of its own memory. -/
def RNewPost (w : World) (P : List Int) (e : Ending) (w' : World) : Prop :=
  Kept [] w w' ∧ ((treeErr P ≠ 0 ∧ e = .returned (.tuple #[.pointer none, .int .i64 (treeErr P)])) ∨
    (treeErr P = 0 ∧ ∃ r v, e = .returned (.tuple #[.pointer (some ⟨r, 0, none⟩), .int .i64 0]) ∧ RT w' r v P))

def RNewPost2 (w : World) (P : List Int) (e : Ending) (w' : World) : Prop :=
  Kept [] w w' ∧ ((treeErr P ≠ 0 ∧ e = .returned (.tuple #[.pointer none, .int .i64 (treeErr P)])) ∨
    (treeErr P = 0 ∧ ∃ r v, e = .returned (.tuple #[.pointer (some ⟨r, 0, none⟩), .int .i64 0]) ∧ RT w' r v P ∧ w.heap.size ≤ r ∧ (∀ z, v.ownBlock = some z → w.heap.size ≤ z)))

set_option maxRecDepth 100000 in
set_option maxHeartbeats 4000000 in
theorem rnew_new (v : Value) (P : List Int) (w : World) (hx : RdI w .i64 v P) :
    Calls Tryz.prog 18 #[v] w (RNewPost2 w P) := by
  have HX0 := Lib.hid hx
  obtain ⟨i0, hi0, hz0, hz1, hz2⟩ := info_parts infoInt
  obtain ⟨A, c, rfl, hmx, hx⟩ := hx
  unfold maxLen at hmx
  by_cases c0 : P.length < 1 ∨ 16 < P.length
  · have e : treeErr P = 1 := by unfold treeErr; rw [if_neg (by omega)]
    have HE := Lib.hid e
    clear e
    rcases c0 with c1 | c1
    · have c1' : (P.length : Int) < 1 := by omega
      go_enter Tryz.func18, Tryz.ntmps18
      go_wp2
      go_ret2
      exact ⟨Kept.refl _ _, .inl ⟨by rw [HE.out]; decide, by rw [HE.out]; rfl⟩⟩
    · have c1' : ¬ (P.length : Int) < 1 := by omega
      have c2' : (16 : Int) < P.length := by omega
      go_enter Tryz.func18, Tryz.ntmps18
      go_wp2
      go_ret2
      exact ⟨Kept.refl _ _, .inl ⟨by rw [HE.out]; decide, by rw [HE.out]; rfl⟩⟩
  · obtain ⟨b, off, rfl, hc⟩ := hx (by intro e; subst e; simp at c0)
    obtain ⟨n, hn⟩ : ∃ n, n = P.length := ⟨_, rfl⟩
    have hn1 : 1 ≤ n := by omega
    have hn2 : n ≤ 16 := by omega
    rw [← hn] at hmx HX0 ⊢
    have HN := Lib.hid hn
    have HC := Lib.hid hc
    clear hn hc hx c0
    have hb1 : decide ((n : Int) < 1) = false := by simp; omega
    have hb2 : decide ((16 : Int) < (n : Int)) = false := by simp; omega
    have HB : Hid (restOk P = false → treeErr P = 170) := fun h => bad170 (by have := HN.out; omega) (by have := HN.out; omega) h
    go_enter Tryz.func18, Tryz.ntmps18
    go_wp2_with fail
    go_loopw [4, 5] (fun r i wr => ∃ (k : Nat), k ≤ n ∧ i = .int .i64 k ∧ r = .int .i64 ((P.take k).count (-1) : Nat) ∧ (P.take k).all (rngB n) = true ∧ w = wr) (fun _ i _ => n - (intOf i).toNat)
    case atStart => exact ⟨0, Nat.zero_le _, rfl, rfl, rfl, rfl⟩
    case round =>
      obtain ⟨k, hk, rfl, rfl, hall, rfl⟩ := hrel
      have HA := Lib.hid hall
      clear hall
      by_cases hlt : k < n
      · have hl : k < P.length := by have := HN.out; omega
        have hck := (HC.out k _ (List.getElem?_eq_getElem hl))
        obtain ⟨x, hxk⟩ : ∃ x, P[k] = x := ⟨_, rfl⟩
        rw [hxk] at hck
        have HX := Lib.hid hxk
        clear hxk
        have hcl : (P.take k).count (-1) ≤ k := Nat.le_trans List.count_le_length (by simp; omega)
        have hbad : Hid (rngB n x = false → restOk P = false) := fun h => by
          unfold restOk
          have : P.all (rngB P.length) = false := by
            rw [List.all_eq_false]
            exact ⟨x, by rw [← HX.out]; exact List.getElem_mem hl, by rw [← HN.out, h]; simp⟩
          rw [this]; simp
        by_cases x3 : x = -1
        · have HCT : Hid ((P.take (k + 1)).count (-1) = (P.take k).count (-1) + 1) := by
            show _ = _
            rw [List.take_succ_eq_append_getElem hl, List.count_append, HX.out, x3]; simp
          have HT : Hid ((P.take (k + 1)).all (rngB n) = true) := by
            show _ = _
            rw [List.take_succ_eq_append_getElem hl, List.all_append, HA.out, HX.out, x3]; unfold rngB; simp; omega
          have hxb : (x == -1) = true := by simp [x3]
          have HX3 := Lib.hid x3
          clear x3
          go_wp2_with fail
          go_roundw
          case rel => exact ⟨k + 1, by omega, by go_num, by rw [HCT.out]; go_num, HT.out, trivial⟩
          case measure => simp [intOf]; omega
        · have hxb : (x == -1) = false := by simp [x3]
          by_cases x1 : x < 0
          · go_wp2_with fail
            go_ret2
            have e := HB.out (hbad.out (by unfold rngB; simp; omega))
            exact ⟨Kept.refl _ _, .inl ⟨by rw [e]; decide, by rw [e]; rfl⟩⟩
          · by_cases x2 : (n : Int) ≤ x
            · go_wp2_with fail
              go_ret2
              have e := HB.out (hbad.out (by unfold rngB; simp; omega))
              exact ⟨Kept.refl _ _, .inl ⟨by rw [e]; decide, by rw [e]; rfl⟩⟩
            · have HT : Hid ((P.take (k + 1)).all (rngB n) = true) := by
                show _ = _
                rw [List.take_succ_eq_append_getElem hl, List.all_append, HA.out, HX.out]; unfold rngB; simp; omega
              have HCT : Hid ((P.take (k + 1)).count (-1) = (P.take k).count (-1)) := by
                show _ = _
                rw [List.take_succ_eq_append_getElem hl, List.count_append, HX.out]
                have : List.count (-1) [x] = 0 := by rw [List.count_eq_zero]; simp; omega
                omega
              go_wp2_with fail
              go_roundw
              case rel => exact ⟨k + 1, by omega, by go_num, by rw [HCT.out], HT.out, trivial⟩
              case measure => simp [intOf]; omega
      · have hkn : k = n := by omega
        subst hkn
        have hlen : P.take k = P := List.take_of_length_le (by have := HN.out; omega)
        have HL := Lib.hid hlen
        clear hlen
        rw [HL.out]
        have HALL : Hid (P.all (rngB P.length) = true) := by have := HA.out; rw [HL.out] at this; rw [← HN.out]; exact this
        have HRN := Lib.hid (rng_of HALL.out)
        by_cases r1 : P.count (-1) = 1
        · have hrb : (((P.count (-1) : Nat) : Int) != 1) = false := by rw [r1]; rfl
          have HR1 := Lib.hid r1
          clear r1
          go_wp2_with fail
          go_loopw [6] (fun i w2 => ∃ j : Nat, j ≤ k ∧ i = .int .i64 j ∧ (∀ q : Nat, q < j → (climbs P P.length q).isSome = true) ∧ Kept [] w w2) (fun i _ => k - (intOf i).toNat)
          case atStart => exact ⟨0, Nat.zero_le _, rfl, fun q hq => absurd hq (by omega), Kept.refl _ _⟩
          case round =>
            obtain ⟨j, hj, rfl, hq, hK⟩ := hrel
            have HQ := Lib.hid hq
            clear hq
            have rx := RdI.keep HX0.out hK
            rw [HN.out] at rx
            by_cases hjt : j < k
            · have hin : inB P.length (j : Int) := by unfold inB; have := HN.out; omega
              have hcp := climbs_plus HRN.out hin
              have HCP := Lib.hid hcp
              have UP := up_any _ P j wr rx (by have := HN.out; omega) HRN.out hin
              rw [← HN.out] at UP
              have HUP := Lib.hid UP
              clear hcp UP rx
              go_wp2_with fail
              refine HUP.out.mono ?_
              rintro e w3 ⟨hk3, ⟨h1, rfl⟩ | ⟨h1, v3, rfl, -⟩⟩
              · have H1 := Lib.hid h1
                clear h1
                go_wp2_with fail
                go_ret2
                have h2 : restOk P = false := by
                  unfold restOk climbOk
                  have : ((List.range P.length).all fun i => (climbs P P.length i).isSome) = false := by
                    rw [List.all_eq_false]
                    refine ⟨j, List.mem_range.2 (by have := HN.out; omega), ?_⟩
                    have := H1.out
                    rw [HCP.out] at this
                    rw [this]; simp
                  rw [this]; simp
                have e := HB.out h2
                exact ⟨hK.trans hk3, .inl ⟨by rw [e]; decide, by rw [e]; rfl⟩⟩
              · have H1 := Lib.hid h1
                clear h1
                go_wp2_with fail
                go_roundw
                case rel => exact ⟨j + 1, by omega, by go_num, fun q hq => by
                  rcases Nat.lt_succ_iff_lt_or_eq.1 hq with h | rfl
                  · exact HQ.out q h
                  · have := H1.out; rw [HCP.out] at this; exact this, hK.trans hk3⟩
                case measure => simp [intOf]; omega
            · have h1 : restOk P = true := by
                unfold restOk climbOk
                rw [HALL.out, HR1.out]
                simp only [beq_self_eq_true, Bool.and_true, Bool.true_and, List.all_eq_true, List.mem_range]
                intro q hq
                exact HQ.out q (by have := HN.out; omega)
              have e := good0 (by have := HN.out; omega) (by have := HN.out; omega) h1
              have HE := Lib.hid e
              clear h1 e
              have hln : (P.map (Value.int .i64)).length = k * 1 := by rw [List.length_map, ← HN.out, Nat.mul_one]
              have hca : ∀ j u, (P.map (Value.int .i64))[j]? = some u → wr.cell? ((⟨b, off, none⟩ : Addr).add j) = some u := by
                intro j u hu
                rw [List.getElem?_map] at hu
                obtain ⟨z, hz, rfl⟩ := Option.map_eq_some_iff.1 hu
                have ha : (⟨b, off, none⟩ : Addr).add j = ⟨b, off + j, none⟩ := by unfold Addr.add; split <;> simp_all
                rw [ha]
                exact hK.cell (by simp) (HC.out j z hz)
              have HLN := Lib.hid hln
              have HCA := Lib.hid hca
              have hsz := hK.size
              clear hln hca rx
              go_wp2_with (at_builtin; refine wpList_append_own _ rfl _ _ 22 rfl w.heap.size 3 i0 (.int .i64 0) 1 8 Tryz.underlying22 hi0 hz0 hz1 hz2 rfl (by decide) _ 0 [] rfl (World.ownsRow_nil _ _ _ _) ⟨b, off, none⟩ k c (P.map (.int .i64)) rfl HLN.out HCA.out (by intro u hu; obtain ⟨z, _, rfl⟩ := List.mem_map.1 hu; rfl) (by unfold maxLen; omega) (by omega) hsz ?_)
              intro v' w4 hown4 hgrow4 _
              have hown4 : w4.ownsRow w.heap.size 3 1 v' k (P.map (Value.int .i64)) := by simpa using hown4
              have hK4 : Kept [] w w4 := hK.grown hgrow4 (fun x hx => by simp [Value.ownBlock] at hx)
              obtain ⟨g', cap', rfl, hg4, _⟩ := hown4.form (by omega)
              have HOWN4 := Lib.hid hown4
              clear hown4 hgrow4
              go_wp2_with fail
              go_ret2
              refine ⟨hK4.alloc _, .inr ⟨HE.out, w4.heap.size, .slice (some ⟨g', 0, none⟩) k cap', rfl, ⟨?_, ?_⟩, hK4.size, fun z hz => by simp [Value.ownBlock] at hz; omega⟩⟩
              · exact (Blk.new w4 _ _).cell 0
              · exact RdI.keep (RdI.of_own HOWN4.out).1 ((Kept.refl [] w4).alloc _)
        · have hrb : (((P.count (-1) : Nat) : Int) != 1) = true := by simp; omega
          have HR1 := Lib.hid r1
          clear r1
          go_wp2_with fail
          go_ret2
          have h1 : restOk P = false := by
            unfold restOk
            have : (P.count (-1) == 1) = false := by simp; exact HR1.out
            rw [this]; simp
          have e := HB.out h1
          exact ⟨Kept.refl _ _, .inl ⟨by rw [e]; decide, by rw [e]; rfl⟩⟩

theorem rnew_any (v : Value) (P : List Int) (w : World) (hx : RdI w .i64 v P) :
    Calls Tryz.prog 18 #[v] w (RNewPost w P) :=
  (rnew_new v P w hx).mono fun e w' ⟨h1, h2⟩ => ⟨h1, h2.imp id fun ⟨h3, r, v, h4, h5, _⟩ => ⟨h3, r, v, h4, h5⟩⟩

end Go.Proofs.YtbaifjdealmckaaGreat

/- The reference's tree: Path, Dist. Printed by gen_r.py out of c17's T33, T34. -/
set_option linter.unusedVariables false
set_option linter.unusedSimpArgs false
set_option linter.unnecessarySimpa false
namespace Go.Proofs.YtbaifjdealmckaaGreat
open Go.RowKit Tr
namespace Tr
theorem cp_self : ∀ x : List Int, cp x x = x.length
  | [] => rfl
  | a :: x => by rw [cp, if_pos rfl, cp_self x]; rfl
end Tr
theorem inBb_iff (n : Nat) (i : Int) : inBb n i = true ↔ inB n i := by unfold inBb inB; simp
namespace Tr

theorem cp_take : ∀ (m : Nat) (x y : List Int), cp (x.take m) y = min m (cp x y)
  | 0, x, y => by simp [cp]
  | m + 1, [], y => by simp [cp]
  | m + 1, a :: x, [] => by simp [cp]
  | m + 1, a :: x, b :: y => by
    rw [List.take_succ_cons, cp, cp]
    by_cases h : a = b
    · rw [if_pos h, if_pos h, cp_take m x y]; omega
    · rw [if_neg h, if_neg h]; omega
end Tr
namespace Tr
theorem rt_len (P : List Int) (a : Int) : (rt P a).length = (rise P a).length := by unfold rt; simp
end Tr

/-- up, of a tree: the way to the root. -/
theorem up_tree (v : Value) (P : List Int) (i : Int) (w : World) (hx : RdI w .i64 v P) (hT : Tree P) (hi : inB P.length i) :
    Calls Tryz.prog 32 #[v, .int .i64 i] w fun e w' => Kept [] w w' ∧ ∃ v, e = .returned (.tuple #[v, .bool true]) ∧ w'.ownsRow w.heap.size 3 1 v (rise P i).length ((rise P i).map (.int .i64)) := by
  refine (up_any v P i w hx hT.le hT.rng hi).mono ?_
  rintro e w' ⟨hk, ⟨h1, _⟩ | ⟨h1, v', rfl, ho⟩⟩
  · rw [climbs_plus hT.rng hi, depth_spec hT hi] at h1; cases h1
  · refine ⟨hk, v', rfl, ?_⟩
    have hd := depth_lt hT hi
    have e : up P (P.length + 1) i = rise P i := up_same hT _ i _ _ hi rfl (by omega) hd
    rw [e] at ho
    exact ho

namespace Tr

theorem turn_facts {P : List Int} (h : Tree P) {a b : Int} (ha : inB P.length a) (hb : inB P.length b) :
    (∀ i, i < (rise P a).length - com P a b → ∀ z, (rise P a)[i]? = some z → (rise P b).contains z = false) ∧
    (∃ m, (rise P a)[(rise P a).length - com P a b]? = some m ∧ (rise P b).contains m = true ∧ (rise P b)[(rise P b).length - com P a b]? = some m ∧
      ∀ j, j < (rise P b).length - com P a b → ∀ z, (rise P b)[j]? = some z → z ≠ m) ∧
    path P a b = (rise P a).take ((rise P a).length - com P a b + 1) ++ ((rise P b).take ((rise P b).length - com P a b)).reverse := by
  have h1 := com_pos h ha hb
  have h2 := com_le_l P a b
  have h3 := com_le_r P a b
  have la := rt_len P a
  have lb := rt_len P b
  have hka : (rise P a).length - com P a b < (rise P a).length := by omega
  have hkb : (rise P b).length - com P a b < (rise P b).length := by omega
  have hm : (rise P a)[(rise P a).length - com P a b]? = (rise P b)[(rise P b).length - com P a b]? := by
    have := (cp_get (rt P a) (rt P b) (com P a b - 1) (show com P a b - 1 < com P a b by omega)).1
    unfold rt at this
    rw [List.getElem?_reverse (by omega), List.getElem?_reverse (by omega)] at this
    rwa [show (rise P a).length - 1 - (com P a b - 1) = (rise P a).length - com P a b by omega, show (rise P b).length - 1 - (com P a b - 1) = (rise P b).length - com P a b by omega] at this
  refine ⟨fun i hi z hz => ?_, ⟨(rise P a)[(rise P a).length - com P a b], List.getElem?_eq_getElem hka, ?_, ?_, ?_⟩, ?_⟩
  · cases hc : (rise P b).contains z with
    | false => rfl
    | true =>
      exfalso
      have hzm : z ∈ rise P b := by simpa using hc
      obtain ⟨j, hj⟩ := List.mem_iff_getElem?.1 hzm
      have hjl := (List.getElem?_eq_some_iff.1 hj).1
      have e1 := (rise_drop h i a z ha hz).2
      have e2 := (rise_drop h j b z hb hj).2
      have e3 : rt P z = (rt P a).take ((rise P a).length - i) := by unfold rt; rw [← e1, List.reverse_drop]
      have e4 : rt P z = (rt P b).take ((rise P b).length - j) := by unfold rt; rw [← e2, List.reverse_drop]
      have e5 : cp ((rt P a).take ((rise P a).length - i)) (rt P b) = min ((rise P a).length - i) (com P a b) := cp_take _ _ _
      rw [← e3, e4, cp_take, cp_self] at e5
      have e6 := congrArg List.length e3
      have e7 := congrArg List.length e4
      rw [List.length_take] at e6 e7
      omega
  · have := hm
    rw [List.getElem?_eq_getElem hka] at this
    have := List.mem_of_getElem? this.symm
    simp [this]
  · rw [← hm]; exact List.getElem?_eq_getElem hka
  · intro j hj z hz e
    have d1 := rise_depth h hb hz
    have d2 : (rise P b)[(rise P b).length - com P a b]? = some z := by rw [← hm, e]; exact List.getElem?_eq_getElem hka
    have d3 := rise_depth h hb d2
    omega
  · unfold path
    rw [show (rise P a).length + 1 - com P a b = (rise P a).length - com P a b + 1 by omega, show (rise P b).length + 1 - com P a b = (rise P b).length - com P a b + 1 by omega]
    congr 1
    rw [List.take_succ_eq_append_getElem hkb, List.reverse_append]
    simp
end Tr


set_option maxRecDepth 100000 in
set_option maxHeartbeats 4000000 in
theorem rpath_in (r : Nat) (v : Value) (P : List Int) (a b : Int) (w : World) (h : RT w r v P) (hT : Tree P) (ha : inB P.length a) (hb : inB P.length b) :
    Calls Tryz.prog 103 #[.pointer (some ⟨r, 0, none⟩), .int .i64 a, .int .i64 b] w (RisePost w (path P a b)) := by
  obtain ⟨i0, hi0, hz0, hz1, hz2⟩ := info_parts infoInt
  obtain ⟨F1, ⟨m, F2, F2c, F3, F4⟩, F5⟩ := turn_facts hT ha hb
  have hp1 := com_pos hT ha hb
  have hp2 := com_le_l P a b
  have hp3 := com_le_r P a b
  have la := rt_len P a
  have lb := rt_len P b
  have hla := rise_len hT ha
  have hlb := rise_len hT hb
  have hda := depth_lt hT ha
  have hdb := depth_lt hT hb
  have h16 := hT.le
  have HI1 := Lib.hid (is_ref r v P a w h)
  have HI2 := Lib.hid (is_ref r v P b w h)
  rw [(inBb_iff _ _).2 ha] at HI1
  rw [(inBb_iff _ _).2 hb] at HI2
  have UP1 := up_tree v P a w h.2 hT ha
  have UP2 : ∀ w', Kept [] w w' → _ := fun w' (k : Kept [] w w') => up_tree v P b w' (h.2.keep k) hT hb
  have hc0 := h.1
  rw [F5]
  obtain ⟨p, hp⟩ : ∃ p, (rise P a).length - com P a b = p := ⟨_, rfl⟩
  obtain ⟨q, hq⟩ : ∃ q, (rise P b).length - com P a b = q := ⟨_, rfl⟩
  rw [hp] at F1 F2 ⊢
  rw [hq] at F3 F4 ⊢
  obtain ⟨X, hX⟩ : ∃ X, rise P a = X := ⟨_, rfl⟩
  obtain ⟨Y, hY⟩ : ∃ Y, rise P b = Y := ⟨_, rfl⟩
  rw [hX] at F1 F2 la hla hp UP1 ⊢
  rw [hY] at F1 F2c F3 F4 lb hlb hq UP2 ⊢
  obtain ⟨nx, hnx⟩ : ∃ n, X.length = n := ⟨_, rfl⟩
  obtain ⟨ny, hny⟩ : ∃ n, Y.length = n := ⟨_, rfl⟩
  rw [hnx] at hla hp la UP1
  rw [hny] at hlb hq lb UP2
  have hpx : p < nx := by omega
  have hqy : q < ny := by omega
  have hx16 : nx ≤ 16 := by omega
  have hy16 : ny ≤ 16 := by omega
  have HNX := Lib.hid hnx
  have HNY := Lib.hid hny
  have HF1 := Lib.hid F1
  have HF2 := Lib.hid F2
  have HF2c := Lib.hid F2c
  have HF3 := Lib.hid F3
  have HF4 := Lib.hid F4
  have HUP1 := Lib.hid UP1
  have HUP2 := Lib.hid UP2
  clear F1 F2 F2c F3 F4 F5 hp1 hp2 hp3 la lb hla hlb hda hdb h16 UP1 UP2 hp hq hX hY hnx hny ha hb hT
  obtain ⟨R, hR⟩ : ∃ R, X.take (p + 1) ++ (Y.take q).reverse = R := ⟨_, rfl⟩
  rw [hR]
  have HR := Lib.hid hR
  clear hR
  go_enter Tryz.func103, Tryz.ntmps103
  go_wp2_with fail
  refine HI1.out.mono ?_
  rintro e w' ⟨rfl, rfl⟩
  go_wp2_with fail
  refine HI2.out.mono ?_
  rintro e w' ⟨rfl, rfl⟩
  go_wp2_with fail
  refine HUP1.out.mono ?_
  rintro e w1 ⟨hk1, v1, rfl, ho1⟩
  have hc1 := hk1.cell (by simp) hc0
  obtain ⟨gx, cx, rfl, hgx, hgxl⟩ := ho1.form (by omega)
  go_wp2_with fail
  refine (HUP2.out _ hk1).mono ?_
  rintro e w2 ⟨hk2, v2, rfl, ho2⟩
  obtain ⟨gy, cy, rfl, hgy, hgyl⟩ := ho2.form (by omega)
  have HOX := Lib.hid (ownsRow_keep ho1 hk2 (by simp))
  have HOY := Lib.hid ho2
  have HCX : Hid (∀ (k : Nat) (x : Int), X[k]? = some x → w2.cell? ⟨gx, k, none⟩ = some (.int .i64 x)) := fun k x hx => by
    rw [HOX.out.cellAt k (by rw [← HNX.out, Nat.mul_one]; exact (List.getElem?_eq_some_iff.1 hx).1), List.getElem?_map, hx]; rfl
  have HCY : Hid (∀ (k : Nat) (x : Int), Y[k]? = some x → w2.cell? ⟨gy, k, none⟩ = some (.int .i64 x)) := fun k x hx => by
    rw [HOY.out.cellAt k (by rw [← HNY.out, Nat.mul_one]; exact (List.getElem?_eq_some_iff.1 hx).1), List.getElem?_map, hx]; rfl
  have HRY : Hid (RdI w2 .i64 (.slice (some ⟨gy, 0, none⟩) ny cy) Y) := (RdI.of_own ho2).1
  have hK2 := hk1.trans hk2
  have hsz2 := hK2.size
  have HTX : Hid (∀ k x, X[k]? = some x → (X.take k).map (Value.int .i64) ++ [.int .i64 x] = (X.take (k + 1)).map (.int .i64)) := fun k x hx => by
    obtain ⟨h1, h2⟩ := List.getElem?_eq_some_iff.1 hx
    rw [List.take_succ_eq_append_getElem h1, h2]; simp
  have HTY : Hid (∀ k x, Y[k]? = some x → (Y.take k).map (Value.int .i64) ++ [.int .i64 x] = (Y.take (k + 1)).map (.int .i64)) := fun k x hx => by
    obtain ⟨h1, h2⟩ := List.getElem?_eq_some_iff.1 hx
    rw [List.take_succ_eq_append_getElem h1, h2]; simp
  clear ho1 ho2 hk1 hk2 hc1 hc0 hgxl hgx
  go_wp2_with fail
  go_loopw [11, 12] (fun o kk wr => ∃ (k : Nat), k ≤ p ∧ kk = .int .i64 k ∧ wr.ownsRow w2.heap.size 3 1 o k ((X.take k).map (.int .i64)) ∧ Kept [] w2 wr) (fun _ kk _ => nx - (intOf kk).toNat)
  case atStart => exact ⟨0, by omega, rfl, World.ownsRow_nil _ _ _ _, Kept.refl _ _⟩
  case round =>
    obtain ⟨k, hk, rfl, hown, hK⟩ := hrel
    obtain ⟨AA, cc, rfl, -⟩ := own_lenT hown
    have hgb : ∀ x, (Value.slice AA k cc).ownBlock = some x → w2.heap.size ≤ x := fun x hx => (hown.lt x hx).1
    have HGB := Lib.hid hgb
    have HOWN := Lib.hid hown
    clear hgb hown
    obtain ⟨x, hx⟩ : ∃ x, X[k]? = some x := ⟨_, List.getElem?_eq_getElem (by rw [HNX.out]; omega)⟩
    have hcx := hK.cell (by simp) (HCX.out k x hx)
    have HX := Lib.hid hx
    clear hx
    have hkx : k < nx := by omega
    go_wp2_with (at_builtin; refine wpList_append_own _ rfl _ _ 22 rfl w2.heap.size 3 i0 (.int .i64 0) 1 8 Tryz.underlying22 hi0 hz0 hz1 hz2 rfl (by decide) _ k ((X.take k).map (.int .i64)) rfl (World.ownsRow.alloc HOWN.out _) ⟨wr.heap.size, 0, none⟩ 1 1 [.int .i64 x] rfl rfl (cell_one_new _ _ _) (by simp [Value.oneCell']) (by unfold maxLen; omega) (by omega) (by have := hK.size; simp; omega) ?_)
    intro v' w4 hown4 hgrow4 _
    have hK4 : Kept [] w2 w4 := (hK.alloc _).grown hgrow4 (fun x hx => .inr (HGB.out x hx))
    have hcx4 := hK4.cell (by simp) (HCX.out k x HX.out)
    rw [← List.map_take, HTX.out k x HX.out] at hown4
    have HOWN4 := Lib.hid hown4
    clear hown4 hgrow4
    go_wp2_with fail
    refine (has_any _ Y x _ (HRY.out.keep hK4)).mono ?_
    rintro e w5 ⟨rfl, rfl⟩
    cases hB : Y.contains x with
    | false =>
      have HB := Lib.hid hB
      go_wp2_with fail
      go_roundw
      case rel =>
        refine ⟨k + 1, ?_, by go_num, HOWN4.out, hK4⟩
        rcases Nat.lt_or_ge k p with h1 | h1
        · omega
        · exfalso
          have e : k = p := by omega
          have h2 := HX.out
          rw [e, HF2.out] at h2
          injection h2 with h2
          have h3 := HB.out
          rw [← h2, HF2c.out] at h3
          cases h3
      case measure => simp [intOf]; omega
    | true =>
      have hkp : k = p := by
        rcases Nat.lt_or_ge k p with h1 | h1
        · exfalso
          have := HF1.out k h1 x HX.out
          rw [hB] at this; cases this
        · omega
      have hxm : x = m := by
        have h2 := HX.out
        rw [hkp, HF2.out] at h2
        injection h2 with h2
        exact h2.symm
      clear hB
      subst hkp
      subst hxm
      obtain ⟨go, co, rfl, hgo, hgol⟩ := HOWN4.out.form (by omega)
      have hcm : w4.cell? ⟨go, k, none⟩ = some (.int .i64 x) := by
        rw [HOWN4.out.cellAt k (by omega), List.getElem?_map, List.getElem?_take_of_lt (by omega), HX.out]; rfl
      have hidx : IntKind.i64.wrap (((k + 1 : Nat) : Int) - 1) = (k : Int) := by unfold IntKind.wrap; simp [IntKind.signed, IntKind.bits]; omega
      go_wp2_with fail
      go_loopw [13, 14] (fun d jj wr => ∃ (j : Nat), j ≤ q ∧ jj = .int .i64 j ∧ wr.ownsRow w4.heap.size 3 1 d j ((Y.take j).map (.int .i64)) ∧ Kept [] w4 wr) (fun _ jj _ => ny - (intOf jj).toNat)
      case atStart => exact ⟨0, by omega, rfl, World.ownsRow_nil _ _ _ _, Kept.refl _ _⟩
      case round =>
        obtain ⟨j, hj, rfl, hown, hK⟩ := hrel
        obtain ⟨AB, cb, rfl, -⟩ := own_lenT hown
        have hgb : ∀ x, (Value.slice AB j cb).ownBlock = some x → w4.heap.size ≤ x := fun x hx => (hown.lt x hx).1
        have HGB2 := Lib.hid hgb
        have HOWN2 := Lib.hid hown
        clear hgb hown
        obtain ⟨y, hy⟩ : ∃ y, Y[j]? = some y := ⟨_, List.getElem?_eq_getElem (by rw [HNY.out]; omega)⟩
        have hcy := hK.cell (by simp) (hK4.cell (by simp) (HCY.out j y hy))
        have hcm2 := hK.cell (by simp) hcm
        have HY := Lib.hid hy
        clear hy
        have hjy : j < ny := by omega
        by_cases hjq : j < q
        · have hne : (y != x) = true := by have := HF4.out j hjq y HY.out; simpa using this
          go_wp2_with fail
          go_quiet (fail)
          go_wp2_with (at_builtin; refine wpList_append_own _ rfl _ _ 22 rfl w4.heap.size 3 i0 (.int .i64 0) 1 8 Tryz.underlying22 hi0 hz0 hz1 hz2 rfl (by decide) _ j ((Y.take j).map (.int .i64)) rfl (World.ownsRow.alloc (by exact HOWN2.out) _) ⟨wr.heap.size, 0, none⟩ 1 1 [.int .i64 y] rfl rfl (cell_one_new _ _ _) (by simp [Value.oneCell']) (by unfold maxLen; omega) (by omega) (by have := hK.size; simp; omega) ?_)
          intro v' w5 hown5 hgrow5 _
          have hK5 : Kept [] w4 w5 := ((hK.drewN _).alloc _).grown hgrow5 (fun x hx => .inr (HGB2.out x hx))
          rw [← List.map_take, HTY.out j y HY.out] at hown5
          have HOWN5 := Lib.hid hown5
          clear hown5 hgrow5
          go_wp2_with fail
          go_roundw
          case rel => exact ⟨j + 1, by omega, by go_num, HOWN5.out, hK5⟩
          case measure => simp [intOf]; omega
        · have hne : (y != x) = false := by
            have e : j = q := by omega
            have h2 := HY.out
            rw [e, HF3.out] at h2
            injection h2 with h2
            simp [h2]
          go_wp2_with fail
          go_quiet (fail)
          have ejq : j = q := by omega
          subst ejq
          go_wp2_with fail
          obtain ⟨wm, rfl⟩ : ∃ x, x = wr := ⟨_, rfl⟩
          have HGO : Hid (∀ z, (Value.slice AB j cb).ownBlock = some z → z ≠ go) := fun z hz => by have := HGB2.out z hz; omega
          have hsz4 : w2.heap.size ≤ w4.heap.size := hK4.size
          have hK04 := hK2.trans hK4
          have hszr : w4.heap.size ≤ wm.heap.size := hK.size
          have HO0 : Hid (wm.ownsRow w2.heap.size 3 1 (.slice (some ⟨go, 0, none⟩) (k + 1) co) (k + 1) ((X.take (k + 1)).map (.int .i64))) := ownsRow_keep HOWN4.out hK (by simp)
          have HD : Hid (∀ t y, t < j → Y[t]? = some y → (X.take (k + 1) ++ ((Y.take j).drop (t + 1)).reverse).map (Value.int .i64) ++ [.int .i64 y] = (X.take (k + 1) ++ ((Y.take j).drop t).reverse).map (Value.int .i64)) := fun t y ht hy => by
            obtain ⟨h1, h2⟩ := List.getElem?_eq_some_iff.1 hy
            rw [List.drop_eq_getElem_cons (show t < (Y.take j).length by rw [List.length_take]; omega), List.getElem_take, h2]
            simp
          have HLX : Hid ((X.take (k + 1)).length = k + 1) := by show _ = _; rw [List.length_take, HNX.out]; omega
          have HLY : Hid ((Y.take j).length = j) := by show _ = _; rw [List.length_take, HNY.out]; omega
          go_loopw [11, 15] (fun o ii wq => ∃ (t s : Nat), t + s = j ∧ ii = .int .i64 ((t : Int) - 1) ∧ wq.ownsRow w2.heap.size 3 1 o (k + 1 + s) ((X.take (k + 1) ++ ((Y.take j).drop t).reverse).map (.int .i64)) ∧ (∀ z, o.ownBlock = some z → z = go ∨ wm.heap.size ≤ z) ∧ Kept [go] wm wq) (fun _ ii _ => (intOf ii + 1).toNat)
          case atStart =>
            refine ⟨j, 0, by omega, by go_num, ?_, fun z hz => .inl (by simp [Value.ownBlock] at hz; exact hz.symm), (Kept.refl _ _).drewN _⟩
            rw [List.drop_eq_nil_of_le (by have := HLY.out; omega), List.reverse_nil, List.append_nil]
            exact HO0.out
          case round =>
            obtain ⟨t, s, hts, rfl, hown, hob, hK6⟩ := hrel
            obtain ⟨AC, c6, rfl, -⟩ := own_lenT hown
            have HOWN6 := Lib.hid hown
            have HOB := Lib.hid hob
            clear hown hob
            rcases t with _ | t
            · have es : s = j := by omega
              subst es
              go_wp2_with fail
              go_ret
              refine ⟨_, rfl, ?_, hK04.after (Kept.trans (S := [go]) hK.nil hK6) (by simp; omega)⟩
              have e1 : R.length = k + 1 + s := by rw [← HR.out, List.length_append, List.length_reverse, HLX.out, HLY.out]
              rw [e1, ← HR.out]
              exact rowBase HOWN6.out hsz2
            · obtain ⟨gd, cd, he, hgd, hgdl⟩ := HOWN2.out.form (by omega)
              injection he with he1 he2 he3
              subst he1 he3
              have hgg : gd ≠ go := HGO.out gd rfl
              obtain ⟨y2, hy2⟩ : ∃ y, Y[t]? = some y := ⟨_, List.getElem?_eq_getElem (by rw [HNY.out]; omega)⟩
              have hcd : wm.cell? ⟨gd, t, none⟩ = some (.int .i64 y2) := by
                rw [HOWN2.out.cellAt t (by omega), List.getElem?_map, List.getElem?_take_of_lt (by omega), hy2]; rfl
              have hcd6 := hK6.cell (show (⟨gd, t, none⟩ : Addr).block ∉ [go] by simpa using hgg) hcd
              have HY2 := Lib.hid hy2
              have htj : t < j := by omega
              have hti : ((t + 1 : Nat) : Int) - 1 = (t : Int) := by omega
              rw [hti]
              clear hy2 hti
              go_wp2_with (at_builtin; refine wpList_append_own_at _ rfl _ _ 22 rfl w2.heap.size 3 i0 (.int .i64 0) 1 8 Tryz.underlying22 hi0 hz0 hz1 hz2 rfl (by decide) _ (k + 1 + s) ((X.take (k + 1) ++ ((Y.take j).drop (t + 1)).reverse).map (.int .i64)) rfl (World.ownsRow.alloc HOWN6.out _) ⟨wr.heap.size, 0, none⟩ 1 1 [.int .i64 y2] rfl rfl (cell_one_new _ _ _) (by simp [Value.oneCell']) (by unfold maxLen; omega) (by omega) (by have := hK6.size; simp; omega) ?_)
              intro v' w7 hown7 hgrow7 _ hat7
              have hK7 : Kept [go] wm w7 := (hK6.alloc _).grown hgrow7 (fun x hx => by
                rcases HOB.out x hx with h0 | h0
                · exact .inl (by simp [h0])
                · exact .inr h0)
              have hown7' : w7.ownsRow w2.heap.size 3 1 v' (k + 1 + s + 1) ((X.take (k + 1) ++ ((Y.take j).drop t).reverse).map (.int .i64)) := by
                rw [← HD.out t y2 htj HY2.out]
                simpa [List.append_assoc] using hown7
              have hob7 : ∀ z, v'.ownBlock = some z → z = go ∨ wm.heap.size ≤ z := fun z hz => by
                rcases hat7 with h0 | h0
                · rw [h0] at hz; exact HOB.out z hz
                · rw [h0] at hz
                  have h1 := hK6.size
                  have h2 : wr.heap.size + 1 = z := Option.some.inj hz
                  exact .inr (by omega)
              have HOB7 := Lib.hid hob7
              have HOWN7 := Lib.hid hown7'
              clear hown7 hown7' hgrow7 hat7 hob7
              go_wp2_with fail
              go_roundw
              case rel => exact ⟨t, s + 1, by omega, by go_num, HOWN7.out, HOB7.out, hK7⟩
              case measure => simp [intOf]

theorem inBb_not {n : Nat} {i : Int} (h : inBb n i = false) : ¬ inB n i := fun c => by rw [(inBb_iff _ _).2 c] at h; cases h

set_option maxHeartbeats 2000000 in
theorem rpath_any (r : Nat) (v : Value) (P : List Int) (a b : Int) (w : World) (h : RT w r v P) (hT : Tree P) :
    Calls Tryz.prog 103 #[.pointer (some ⟨r, 0, none⟩), .int .i64 a, .int .i64 b] w (RisePost w (pathG P a b)) := by
  unfold pathG
  have HI := Lib.hid (is_ref r v P a w h)
  have HJ := Lib.hid (is_ref r v P b w h)
  cases ha : inBb P.length a with
  | false =>
    rw [if_neg (fun c => inBb_not ha c.1)]
    rw [ha] at HI
    clear ha h HJ
    go_enter Tryz.func103, Tryz.ntmps103
    go_wp2_with fail
    refine HI.out.mono ?_
    rintro e w' ⟨rfl, rfl⟩
    go_wp2_with fail
    go_ret
    exact ⟨_, rfl, World.ownsRow_nil _ _ _ _, Kept.refl _ _⟩
  | true =>
    cases hb : inBb P.length b with
    | false =>
      rw [if_neg (fun c => inBb_not hb c.2)]
      rw [ha] at HI
      rw [hb] at HJ
      clear ha hb h
      go_enter Tryz.func103, Tryz.ntmps103
      go_wp2_with fail
      refine HI.out.mono ?_
      rintro e w' ⟨rfl, rfl⟩
      go_wp2_with fail
      refine HJ.out.mono ?_
      rintro e w' ⟨rfl, rfl⟩
      go_wp2_with fail
      go_ret
      exact ⟨_, rfl, World.ownsRow_nil _ _ _ _, Kept.refl _ _⟩
    | true =>
      rw [if_pos ⟨(inBb_iff _ _).1 ha, (inBb_iff _ _).1 hb⟩]
      exact rpath_in r v P a b w h hT ((inBb_iff _ _).1 ha) ((inBb_iff _ _).1 hb)

set_option maxHeartbeats 1000000 in
theorem rdist_any (r : Nat) (v : Value) (P : List Int) (x y : Int) (w : World) (h : RT w r v P) (hT : Tree P) :
    Calls Tryz.prog 76 #[.pointer (some ⟨r, 0, none⟩), .int .i64 x, .int .i64 y] w fun e w' => e = .returned (.int .i64 (distG P x y)) ∧ Kept [] w w' := by
  have hl := path_le hT x y
  unfold distG
  go_enter Tryz.func76, Tryz.ntmps76
  go_wp2_with fail
  refine (rpath_any r v P x y _ h hT).mono ?_
  rintro e w1 ⟨v, rfl, hown, hK⟩
  obtain ⟨A, c, rfl, -⟩ := own_lenT hown
  go_wp2_with fail
  go_ret
  exact ⟨rfl, hK⟩


end Go.Proofs.YtbaifjdealmckaaGreat

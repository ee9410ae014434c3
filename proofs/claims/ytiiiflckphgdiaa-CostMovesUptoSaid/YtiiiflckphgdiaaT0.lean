/- Trees by parents, in plain mathematics: the way up, common ways, distances. No program here. -/
namespace Go.Proofs.Ytiiiflckphgdiaa.Tr

/-- The parent of a node, as a number; -1 at the root. -/
def par (P : List Int) (i : Int) : Int := P.getD i.toNat (-1)
/-- The nodes from i up, at most so many. -/
def up (P : List Int) : Nat → Int → List Int
  | 0, _ => []
  | f + 1, i => i :: (if par P i < 0 then [] else up P f (par P i))
/-- How many steps lead from i to the root; none, if more than f - 1. -/
def climbs (P : List Int) : Nat → Int → Option Nat
  | 0, _ => none
  | f + 1, i => if par P i < 0 then some 0 else (climbs P f (par P i)).map (· + 1)

def inB (n : Nat) (i : Int) : Prop := 0 ≤ i ∧ i < n
instance (n : Nat) (i : Int) : Decidable (inB n i) := by unfold inB; infer_instance

/-- A tree: each parent is a node or -1, just one is -1, each node climbs to the root. -/
structure Tree (P : List Int) : Prop where
  pos : 1 ≤ P.length
  le : P.length ≤ 16
  rng : ∀ i : Int, inB P.length i → par P i = -1 ∨ inB P.length (par P i)
  one : ∀ i j : Int, inB P.length i → inB P.length j → par P i = -1 → par P j = -1 → i = j
  climb : ∀ i : Int, inB P.length i → (climbs P P.length i).isSome = true

def rise (P : List Int) (i : Int) : List Int := up P P.length i

theorem par_neg {P : List Int} (h : Tree P) {i : Int} (hi : inB P.length i) (hp : par P i < 0) : par P i = -1 := by
  rcases h.rng i hi with h1 | h1
  · exact h1
  · unfold inB at h1; omega
theorem par_in {P : List Int} (h : Tree P) {i : Int} (hi : inB P.length i) (hp : ¬ par P i < 0) : inB P.length (par P i) := by
  rcases h.rng i hi with h1 | h1
  · omega
  · exact h1

theorem climbs_mono (P : List Int) : ∀ (f : Nat) (i : Int) (k : Nat), climbs P f i = some k → climbs P (f + 1) i = some k := by
  intro f
  induction f with
  | zero => intro i k h; simp [climbs] at h
  | succ f ih =>
    intro i k h
    rw [climbs] at h ⊢
    split
    · rename_i hp; rw [if_pos hp] at h; exact h
    · rename_i hp
      rw [if_neg hp] at h
      obtain ⟨m, hm, rfl⟩ := Option.map_eq_some_iff.1 h
      rw [ih _ _ hm]
      rfl
theorem climbs_le (P : List Int) : ∀ (f : Nat) (i : Int) (k : Nat), climbs P f i = some k → k < f := by
  intro f
  induction f with
  | zero => intro i k h; simp [climbs] at h
  | succ f ih =>
    intro i k h
    rw [climbs] at h
    split at h
    · simp at h; omega
    · obtain ⟨m, hm, rfl⟩ := Option.map_eq_some_iff.1 h
      have := ih _ _ hm
      omega
theorem climbs_more (P : List Int) (f g : Nat) (i : Int) (k : Nat) (h : climbs P f i = some k) (hg : f ≤ g) : climbs P g i = some k := by
  induction g with
  | zero => have : f = 0 := by omega
            subst this; exact h
  | succ g ih =>
    by_cases e : f = g + 1
    · subst e; exact h
    · exact climbs_mono P g i k (ih (by omega))
theorem climbs_less (P : List Int) : ∀ (k g : Nat) (i : Int) (f : Nat), climbs P f i = some k → k < g → climbs P g i = some k := by
  intro k
  induction k with
  | zero =>
    intro g i f h hg
    cases f with
    | zero => simp [climbs] at h
    | succ f =>
      cases g with
      | zero => omega
      | succ g =>
        rw [climbs] at h ⊢
        split
        · rfl
        · rename_i hp
          rw [if_neg hp] at h
          obtain ⟨m, _, hm⟩ := Option.map_eq_some_iff.1 h
          omega
  | succ k ih =>
    intro g i f h hg
    cases f with
    | zero => simp [climbs] at h
    | succ f =>
      cases g with
      | zero => omega
      | succ g =>
        rw [climbs] at h ⊢
        split
        · rename_i hp; rw [if_pos hp] at h; simp at h
        · rename_i hp
          rw [if_neg hp] at h
          obtain ⟨m, hm, e⟩ := Option.map_eq_some_iff.1 h
          have : m = k := by omega
          subst this
          rw [ih g _ f hm (by omega)]
          rfl

/-- How deep a node lies. -/
def depth (P : List Int) (i : Int) : Nat := (climbs P P.length i).getD 0
theorem depth_spec {P : List Int} (h : Tree P) {i : Int} (hi : inB P.length i) : climbs P P.length i = some (depth P i) := by
  have := h.climb i hi
  obtain ⟨k, hk⟩ := Option.isSome_iff_exists.1 this
  unfold depth
  rw [hk]; rfl
theorem depth_lt {P : List Int} (h : Tree P) {i : Int} (hi : inB P.length i) : depth P i < P.length := climbs_le P _ _ _ (depth_spec h hi)
theorem depth_root {P : List Int} (h : Tree P) {i : Int} (hi : inB P.length i) (hp : par P i < 0) : depth P i = 0 := by
  have h1 := depth_spec h hi
  have : P.length = (P.length - 1) + 1 := by have := h.pos; omega
  rw [this, climbs, if_pos hp] at h1
  simpa using h1.symm
theorem depth_step {P : List Int} (h : Tree P) {i : Int} (hi : inB P.length i) (hp : ¬ par P i < 0) : depth P i = depth P (par P i) + 1 := by
  have h1 := depth_spec h hi
  have hl : P.length = (P.length - 1) + 1 := by have := h.pos; omega
  rw [hl, climbs, if_neg hp] at h1
  obtain ⟨m, hm, e⟩ := Option.map_eq_some_iff.1 h1
  have h2 := climbs_more P _ P.length _ _ hm (by omega)
  rw [depth_spec h (par_in h hi hp)] at h2
  simp at h2
  omega

theorem up_root (P : List Int) (f : Nat) (i : Int) (hp : par P i < 0) : up P (f + 1) i = [i] := by rw [up, if_pos hp]
/-- The way up does not hang on the count, if that is greater than the depth. -/
theorem up_same {P : List Int} (h : Tree P) : ∀ (d : Nat) (i : Int) (f g : Nat), inB P.length i → depth P i = d → d < f → d < g → up P f i = up P g i := by
  intro d
  induction d with
  | zero =>
    intro i f g hi hd hf hg
    cases f with
    | zero => omega
    | succ f =>
      cases g with
      | zero => omega
      | succ g =>
        by_cases hp : par P i < 0
        · rw [up_root P f i hp, up_root P g i hp]
        · have := depth_step h hi hp; omega
  | succ d ih =>
    intro i f g hi hd hf hg
    cases f with
    | zero => omega
    | succ f =>
      cases g with
      | zero => omega
      | succ g =>
        by_cases hp : par P i < 0
        · rw [up_root P f i hp, up_root P g i hp]
        · rw [up, up, if_neg hp, if_neg hp, ih (par P i) f g (par_in h hi hp) (by have := depth_step h hi hp; omega) (by omega) (by omega)]
theorem rise_root {P : List Int} (h : Tree P) {i : Int} (hp : par P i < 0) : rise P i = [i] := by
  unfold rise
  have : P.length = (P.length - 1) + 1 := by have := h.pos; omega
  rw [this, up_root P _ i hp]
theorem rise_step {P : List Int} (h : Tree P) {i : Int} (hi : inB P.length i) (hp : ¬ par P i < 0) : rise P i = i :: rise P (par P i) := by
  unfold rise
  have hl : P.length = (P.length - 1) + 1 := by have := h.pos; omega
  have hd := depth_step h hi hp
  have hd2 := depth_lt h hi
  conv => lhs; rw [hl, up, if_neg hp]
  rw [up_same h (depth P (par P i)) (par P i) (P.length - 1) P.length (par_in h hi hp) rfl (by omega) (by omega)]
theorem rise_length {P : List Int} (h : Tree P) : ∀ (d : Nat) (i : Int), inB P.length i → depth P i = d → (rise P i).length = d + 1 := by
  intro d
  induction d with
  | zero =>
    intro i hi hd
    by_cases hp : par P i < 0
    · rw [rise_root h hp]; rfl
    · have := depth_step h hi hp; omega
  | succ d ih =>
    intro i hi hd
    by_cases hp : par P i < 0
    · have := depth_root h hi hp; omega
    · rw [rise_step h hi hp, List.length_cons, ih _ (par_in h hi hp) (by have := depth_step h hi hp; omega)]
theorem rise_len {P : List Int} (h : Tree P) {i : Int} (hi : inB P.length i) : (rise P i).length = depth P i + 1 := rise_length h _ i hi rfl
theorem rise_head {P : List Int} (h : Tree P) {i : Int} (hi : inB P.length i) : (rise P i)[0]? = some i := by
  by_cases hp : par P i < 0
  · rw [rise_root h hp]; rfl
  · rw [rise_step h hi hp]; rfl
/-- Each node of the way up: in range, with the rest of the way behind it. -/
theorem rise_drop {P : List Int} (h : Tree P) : ∀ (k : Nat) (i x : Int), inB P.length i → (rise P i)[k]? = some x → inB P.length x ∧ (rise P i).drop k = rise P x := by
  intro k
  induction k with
  | zero =>
    intro i x hi hx
    rw [rise_head h hi] at hx
    simp at hx
    subst hx
    exact ⟨hi, rfl⟩
  | succ k ih =>
    intro i x hi hx
    by_cases hp : par P i < 0
    · rw [rise_root h hp] at hx; simp at hx
    · rw [rise_step h hi hp] at hx ⊢
      rw [List.getElem?_cons_succ] at hx
      rw [List.drop_succ_cons]
      exact ih _ x (par_in h hi hp) hx
theorem rise_depth {P : List Int} (h : Tree P) {k : Nat} {i x : Int} (hi : inB P.length i) (hx : (rise P i)[k]? = some x) : depth P x + k = depth P i := by
  obtain ⟨h1, h2⟩ := rise_drop h k i x hi hx
  have h3 := rise_len h h1
  have h4 := rise_len h hi
  rw [← h2, List.length_drop] at h3
  have : k < (rise P i).length := (List.getElem?_eq_some_iff.1 hx).1
  omega
/-- The last of the way up is the root. -/
theorem rise_last {P : List Int} (h : Tree P) {i j x y : Int} (hi : inB P.length i) (hj : inB P.length j) (hx : (rise P i)[depth P i]? = some x) (hy : (rise P j)[depth P j]? = some y) : x = y := by
  have key : ∀ (i x : Int), inB P.length i → (rise P i)[depth P i]? = some x → inB P.length x ∧ par P x = -1 := by
    intro i x hi hx
    have h1 := rise_drop h _ i x hi hx
    have h2 := rise_depth h hi hx
    refine ⟨h1.1, par_neg h h1.1 ?_⟩
    rcases Int.lt_or_le (par P x) 0 with hp | hp
    · exact hp
    · have := depth_step h h1.1 (by omega); omega
  exact h.one x y (key i x hi hx).1 (key j y hj hy).1 (key i x hi hx).2 (key j y hj hy).2

end Go.Proofs.Ytiiiflckphgdiaa.Tr

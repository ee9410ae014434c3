/- What the bound on what comes in gives: readers with weights. -/
import Derived.Test.YthgenobbpaclhaaDoorReader
set_option linter.unusedVariables false
set_option linter.unusedSimpArgs false
namespace Go.Proofs.YthgenobbpaclhaaDoor
open Go.RowKit Go.Deep Go.ChangeShapes

/-- The row's own reading of a type gives this reader's, and what is weighed is below the reading's bulk. -/
def Rk.OfB {α : Type} (d : Rk α) (wt : α → Nat) (P : Program) (t : TypeId) : Prop :=
  ∀ {H : Type} {enc : TypeId × Value → H} {w : World} {base : Nat} {spare : Nat → Bool} {held : Bool} {fuel : Nat} {cs : List Value} {x : DataW H × List MemPlace},
    DataW.trod enc P w base spare held fuel t cs = some x → ∃ a, d.K w a cs ∧ wt a + 1 ≤ Rows.uptoBulk x.1
theorem bulk_one {H : Type} (d : DataW H) : 1 ≤ Rows.uptoBulk d := by
  cases d with
  | lit l => cases l <;> simp [Rows.uptoBulk]
  | nil => simp [Rows.uptoBulk]
  | ptr d => simp [Rows.uptoBulk]
  | slice elems spare => simp [Rows.uptoBulk]
  | agg parts => simp [Rows.uptoBulk]
  | iface t d => simp [Rows.uptoBulk]
  | map entries => simp [Rows.uptoBulk]
  | held h => simp [Rows.uptoBulk]
theorem bulk_part {H : Type} {d : DataW H} {l : List (DataW H)} (h : d ∈ l) : Rows.uptoBulk d ≤ Rows.uptoBulkAll l := by
  induction l with
  | nil => cases h
  | cons x r ih =>
    simp only [Rows.uptoBulkAll]
    cases List.mem_cons.1 h with
    | inl e => subst e; omega
    | inr e => have := ih e; omega
theorem Rk.OfB.of {α : Type} {d : Rk α} {P : Program} {t : TypeId} (h : d.Of P t) : d.OfB (fun _ => 0) P t := by
  intro H enc w base spare held fuel cs x hx
  obtain ⟨a, ha⟩ := h hx
  exact ⟨a, ha, by simpa using bulk_one x.1⟩
theorem bulk_range {α H : Type} (wt : α → Nat) (f : Nat → α) (D : Nat → DataW H) : ∀ (l : List Nat), (∀ i ∈ l, wt (f i) + 1 ≤ Rows.uptoBulk (D i)) → ((l.map f).map (fun a => wt a + 1)).sum ≤ Rows.uptoBulkAll (l.map D)
  | [], _ => by simp [Rows.uptoBulkAll]
  | i :: l, h => by
    have h1 := h i (by simp)
    have h2 := bulk_range wt f D l (fun j hj => h j (by simp [hj]))
    simp only [List.map_cons, List.sum_cons, Rows.uptoBulkAll]
    omega

theorem Rk.OfB.slice {α : Type} {d : Rk α} {wt : α → Nat} {P : Program} {t e : TypeId} (ht : P.underlying t = some (.slice e)) (hd : d.OfB wt P e) (hs : P.cellsOf e = d.sz) (hp : 0 < d.sz) : (Rk.slice d).OfB (fun l => (l.map (fun a => wt a + 1)).sum) P t := by
  intro H enc w base spare held fuel cs x h
  rcases open_slice ht h with ⟨rfl, rfl⟩ | ⟨a, len, cap, m, n, D, Pl, rfl, hb, hl, hm, hmm, rfl, hx⟩
  · exact ⟨[], ⟨none, 0, rfl, Nat.le_refl _, by simp, fun _ => ⟨rfl, rfl⟩, fun hn => absurd rfl hn⟩, by simpa using bulk_one DataW.nil⟩
  · have hlm : len ≤ m := by rw [hmm]; split <;> omega
    have key : ∀ i, i < len → ∃ y : α, (∃ cs', w.cells? base (a.add (i * d.sz)) d.sz = some cs' ∧ d.K w y cs') ∧ wt y + 1 ≤ Rows.uptoBulk (D i) := fun i hi => by
      obtain ⟨cs', h1, h2⟩ := hx i (by omega)
      rw [hs] at h1
      obtain ⟨y, hy, hw⟩ := hd h2
      exact ⟨y, ⟨cs', h1, hy⟩, hw⟩
    haveI : Inhabited α := ⟨d.dflt⟩
    obtain ⟨f, hf'⟩ := choose_lt key
    have hf : ∀ i, i < len → ∃ cs', w.cells? base (a.add (i * d.sz)) d.sz = some cs' ∧ d.K w (f i) cs' := fun i hi => (hf' i hi).1
    refine ⟨(List.range len).map f, ⟨some a, cap, by simp, by simpa using hl, hm, (fun e => by cases e), fun hne => ?_⟩, ?_⟩
    · have hpos : 0 < len := by
        rcases Nat.eq_zero_or_pos len with h0 | h0
        · subst h0; simp at hne
        · exact h0
      obtain ⟨b, off, sp⟩ := a
      have hcell : ∀ i, i < len → ∀ cs', w.cells? base ((⟨b, off, sp⟩ : Addr).add (i * d.sz)) d.sz = some cs' → ∀ j, j < d.sz → w.cell? (((⟨b, off, sp⟩ : Addr).add (i * d.sz)).add j) = cs'[j]? := by
        intro i _ cs' h1 j hj
        obtain ⟨_, h2, h3⟩ := World.cells?_some h1
        have hj' : j < cs'.length := by omega
        exact h3 j hj
      have hsp : sp = none := by
        obtain ⟨cs', h1, hK⟩ := hf 0 hpos
        have h2 := hcell 0 hpos cs' h1 0 hp
        rw [List.getElem?_eq_getElem (by rw [d.len hK]; exact hp)] at h2
        simpa [Addr.add] using World.cell?_spot h2
      subst hsp
      refine ⟨b, off, rfl, fun i x hx' => ?_⟩
      have hi : i < len := by
        rcases Nat.lt_or_ge i len with h0 | h0
        · exact h0
        · rw [List.getElem?_eq_none (by simpa using h0)] at hx'; cases hx'
      obtain ⟨cs', h1, hK⟩ := hf i hi
      have hxe : x = f i := by
        rw [List.getElem?_eq_getElem (by simpa using hi)] at hx'
        simpa using hx'.symm
      subst hxe
      refine ⟨cs', hK, fun j hj => ?_⟩
      rw [← hcell i hi cs' h1 j hj, add_add]
      congr 1
      unfold Addr.add
      split
      · rename_i h0; simp; try omega
      · simp [Nat.add_assoc]
    · have := bulk_range wt f D (List.range len) (fun i hi => (hf' i (by simpa using hi)).2)
      simp only [Rows.uptoBulk]
      omega

theorem sum_ones : ∀ (l : List Int), (l.map (fun _ => 0 + 1)).sum = l.length
  | [] => rfl
  | a :: l => by rw [List.map_cons, List.sum_cons, sum_ones l, List.length_cons]; omega
end Go.Proofs.YthgenobbpaclhaaDoor

/- What the bound on what comes in gives of a plan: how many inputs there are. -/
import Derived.Test.YtbaifjdealmckaaGreatRows
import Derived.WalkKit
import Derived.WalkSpells
import Derived.WalkLawsBesides
import Derived.Deep.QuietTactic
import Derived.BigQuiet
import Derived.Lib.Hide
import Derived.BigRegion
import Derived.Shelf.Abstract
import Derived.Lib.ConvBytes
import Derived.StillTailTactics
import Derived.Laws.AppendOwnNone
import Derived.Deep.AppendLies
import Derived.Deep.Slices
import Derived.ProofKit
import Derived.SizedLaws
import Derived.Test.YtbaifjdealmckaaGreatP7
set_option linter.unusedVariables false
set_option linter.unusedSimpArgs false
namespace Go.Proofs.YtbaifjdealmckaaGreat
open Go.RowKit Go.Deep Go.ChangeShapes

/-- The row's own reading of a type gives this reader's, and what is weighed is below the reading's bulk. -/
def Rk.OfB {α : Type} (d : Rk α) (wt : α → Nat) (P : Program) (t : TypeId) : Prop :=
  ∀ {H : Type} {enc : TypeId × Value → H} {w : World} {base : Nat} {spare : Nat → Bool} {held : Bool} {fuel : Nat} {cs : List Value} {x : DataW H × List MemPlace},
    DataW.trod enc P w base spare held fuel t cs = some x → ∃ a, d.K w a cs ∧ wt a + 1 ≤ Rows.uptoBulk x.1
theorem bulk_one {H : Type} (d : DataW H) : 1 ≤ Rows.uptoBulk d := by
  cases d with
  | lit l => cases l <;> simp [Rows.uptoBulk]
  | nil => simp [Rows.uptoBulk]
  | ptr d => simp [Rows.uptoBulk]
  | slice elems spare => simp [Rows.uptoBulk]
  | agg parts => simp [Rows.uptoBulk]
  | iface t d => simp [Rows.uptoBulk]
  | map entries => simp [Rows.uptoBulk]
  | held h => simp [Rows.uptoBulk]
theorem bulk_part {H : Type} {d : DataW H} {l : List (DataW H)} (h : d ∈ l) : Rows.uptoBulk d ≤ Rows.uptoBulkAll l := by
  induction l with
  | nil => cases h
  | cons x r ih =>
    simp only [Rows.uptoBulkAll]
    cases List.mem_cons.1 h with
    | inl e => subst e; omega
    | inr e => have := ih e; omega
theorem Rk.OfB.of {α : Type} {d : Rk α} {P : Program} {t : TypeId} (h : d.Of P t) : d.OfB (fun _ => 0) P t := by
  intro H enc w base spare held fuel cs x hx
  obtain ⟨a, ha⟩ := h hx
  exact ⟨a, ha, by simpa using bulk_one x.1⟩
theorem bulk_range {α H : Type} (wt : α → Nat) (f : Nat → α) (D : Nat → DataW H) : ∀ (l : List Nat), (∀ i ∈ l, wt (f i) + 1 ≤ Rows.uptoBulk (D i)) → ((l.map f).map (fun a => wt a + 1)).sum ≤ Rows.uptoBulkAll (l.map D)
  | [], _ => by simp [Rows.uptoBulkAll]
  | i :: l, h => by
    have h1 := h i (by simp)
    have h2 := bulk_range wt f D l (fun j hj => h j (by simp [hj]))
    simp only [List.map_cons, List.sum_cons, Rows.uptoBulkAll]
    omega

theorem Rk.OfB.slice {α : Type} {d : Rk α} {wt : α → Nat} {P : Program} {t e : TypeId} (ht : P.underlying t = some (.slice e)) (hd : d.OfB wt P e) (hs : P.cellsOf e = d.sz) (hp : 0 < d.sz) : (Rk.slice d).OfB (fun l => (l.map (fun a => wt a + 1)).sum) P t := by
  intro H enc w base spare held fuel cs x h
  rcases open_slice ht h with ⟨rfl, rfl⟩ | ⟨a, len, cap, m, n, D, Pl, rfl, hb, hl, hm, hmm, rfl, hx⟩
  · exact ⟨[], ⟨none, 0, rfl, Nat.le_refl _, by simp, fun _ => ⟨rfl, rfl⟩, fun hn => absurd rfl hn⟩, by simpa using bulk_one DataW.nil⟩
  · have hlm : len ≤ m := by rw [hmm]; split <;> omega
    have key : ∀ i, i < len → ∃ y : α, (∃ cs', w.cells? base (a.add (i * d.sz)) d.sz = some cs' ∧ d.K w y cs') ∧ wt y + 1 ≤ Rows.uptoBulk (D i) := fun i hi => by
      obtain ⟨cs', h1, h2⟩ := hx i (by omega)
      rw [hs] at h1
      obtain ⟨y, hy, hw⟩ := hd h2
      exact ⟨y, ⟨cs', h1, hy⟩, hw⟩
    haveI : Inhabited α := ⟨d.dflt⟩
    obtain ⟨f, hf'⟩ := choose_lt key
    have hf : ∀ i, i < len → ∃ cs', w.cells? base (a.add (i * d.sz)) d.sz = some cs' ∧ d.K w (f i) cs' := fun i hi => (hf' i hi).1
    refine ⟨(List.range len).map f, ⟨some a, cap, by simp, by simpa using hl, hm, (fun e => by cases e), fun hne => ?_⟩, ?_⟩
    · have hpos : 0 < len := by
        rcases Nat.eq_zero_or_pos len with h0 | h0
        · subst h0; simp at hne
        · exact h0
      obtain ⟨b, off, sp⟩ := a
      have hcell : ∀ i, i < len → ∀ cs', w.cells? base ((⟨b, off, sp⟩ : Addr).add (i * d.sz)) d.sz = some cs' → ∀ j, j < d.sz → w.cell? (((⟨b, off, sp⟩ : Addr).add (i * d.sz)).add j) = cs'[j]? := by
        intro i _ cs' h1 j hj
        obtain ⟨_, h2, h3⟩ := World.cells?_some h1
        have hj' : j < cs'.length := by omega
        exact h3 j hj
      have hsp : sp = none := by
        obtain ⟨cs', h1, hK⟩ := hf 0 hpos
        have h2 := hcell 0 hpos cs' h1 0 hp
        rw [List.getElem?_eq_getElem (by rw [d.len hK]; exact hp)] at h2
        simpa [Addr.add] using World.cell?_spot h2
      subst hsp
      refine ⟨b, off, rfl, fun i x hx' => ?_⟩
      have hi : i < len := by
        rcases Nat.lt_or_ge i len with h0 | h0
        · exact h0
        · rw [List.getElem?_eq_none (by simpa using h0)] at hx'; cases hx'
      obtain ⟨cs', h1, hK⟩ := hf i hi
      have hxe : x = f i := by
        rw [List.getElem?_eq_getElem (by simpa using hi)] at hx'
        simpa using hx'.symm
      subst hxe
      refine ⟨cs', hK, fun j hj => ?_⟩
      rw [← hcell i hi cs' h1 j hj, add_add]
      congr 1
      unfold Addr.add
      split
      · rename_i h0; simp; try omega
      · simp [Nat.add_assoc]
    · have := bulk_range wt f D (List.range len) (fun i hi => (hf' i (by simpa using hi)).2)
      simp only [Rows.uptoBulk]
      omega

/-- A plan's weight: how many inputs there are, and how many operators. -/
def planW (x : PlanD) : Nat := (x.2.map (fun l => (l.map (fun _ => 0 + 1)).sum + 1)).sum
theorem sum_ones : ∀ (l : List Int), (l.map (fun _ => 0 + 1)).sum = l.length
  | [] => rfl
  | a :: l => by rw [List.map_cons, List.sum_cons, sum_ones l, List.length_cons]; omega
theorem planW_from : ∀ (F : List (List Int)), fromLen F ≤ (F.map (fun l => (l.map (fun _ => 0 + 1)).sum + 1)).sum
  | [] => by simp [fromLen]
  | r :: F => by
    have := planW_from F
    unfold fromLen at *
    rw [List.map_cons, List.map_cons, List.sum_cons, List.sum_cons, sum_ones]
    omega
theorem planW_le {x : PlanD} (h : planW x + 1 ≤ 1048576) : fromLen x.2 ≤ 1048576 := by
  have := planW_from x.2
  unfold planW at h
  omega
theorem fromR_ofB : fromR.OfB (fun F => (F.map (fun l => (l.map (fun _ => 0 + 1)).sum + 1)).sum) Tryz.prog 24 :=
  Rk.OfB.slice Tryz.underlying24 (Rk.OfB.slice Tryz.underlying22 (Rk.OfB.of intR_of) (by kernel_rfl) (by decide)) (by kernel_rfl) (by decide)
set_option maxRecDepth 100000 in
theorem planR_ofB : planR.OfB planW Tryz.prog 26 := by
  intro H enc w base spare held fuel cs x h
  obtain ⟨y0, y1, n, rfl, hl, h0, h1⟩ := trod_struct2 Tryz.underlying26 h
  have hl2 : cs.length = 2 := hl.trans (by kernel_rfl)
  obtain ⟨a, b, rfl⟩ : ∃ a b, cs = [a, b] := by
    clear h h0 h1 hl
    match cs with
    | [a, b] => exact ⟨a, b, rfl⟩
    | [] => simp at hl2
    | [_] => simp at hl2
    | _ :: _ :: _ :: _ => simp at hl2
  rw [show Tryz.prog.cellsOf 23 = 1 from by kernel_rfl] at h0
  rw [show Tryz.prog.cellsOf 24 = 1 from by kernel_rfl] at h1
  obtain ⟨x0, k0⟩ := opsR_of (cs := [a]) h0
  obtain ⟨x1, k1, b1⟩ := fromR_ofB (cs := [b]) h1
  refine ⟨(x0, x1), ⟨[a], [b], rfl, k0, k1⟩, ?_⟩
  have hq := bulk_part (d := y1.1) (l := [y0.1, y1.1]) (by simp)
  show planW (x0, x1) + 1 ≤ Rows.uptoBulkAll [y0.1, y1.1] + 1
  unfold planW
  dsimp only at b1 ⊢
  omega
end Go.Proofs.YtbaifjdealmckaaGreat

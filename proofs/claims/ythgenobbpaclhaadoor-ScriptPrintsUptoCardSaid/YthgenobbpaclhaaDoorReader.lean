/- Readers: how data that came in stands in memory, kind by kind; each reader is stable where old blocks stay, and each is had from the row's own reading. -/
import Derived.Deep.Slices
import Derived.ProofKit
import Derived.SizedLaws
import Derived.Test.YthgenobbpaclhaaDoorRows
import Derived.WalkKit
import Derived.WalkSpells
import Derived.WalkLawsBesides
import Derived.Deep.QuietTactic
import Derived.BigQuiet
import Derived.Lib.Hide
import Derived.Test.YthgenobbpaclhaaDoorBase
set_option linter.unusedVariables false
set_option linter.unusedSimpArgs false
namespace Go.Proofs.YthgenobbpaclhaaDoor
open Go.RowKit Go.Deep

structure Rk (α : Type) where
  sz : Nat
  K : World → α → List Value → Prop
  len : ∀ {w : World} {x : α} {cs : List Value}, K w x cs → cs.length = sz
  keep : ∀ {w w' : World} {x : α} {cs : List Value}, Kept [] w w' → K w x cs → K w' x cs
  dflt : α

def Rk.int (k : IntKind) : Rk Int where
  sz := 1
  K _ x cs := cs = [.int k x] ∧ (Lit.int k x).wf = true
  len h := by rw [h.1]; rfl
  keep _ h := h
  dflt := 0
def Rk.bool : Rk Bool where
  sz := 1
  K _ x cs := cs = [.bool x]
  len h := by rw [h]; rfl
  keep _ h := h
  dflt := false
def Rk.str : Rk ByteArray where
  sz := 1
  K _ x cs := cs = [.string x] ∧ x.size ≤ maxLen
  len h := by rw [h.1]; rfl
  keep _ h := h
  dflt := ByteArray.empty

/-- The elements of a slice, from the address A on. -/
def Els {α : Type} (d : Rk α) (w : World) (A : Option Addr) (xs : List α) : Prop :=
  xs ≠ [] → ∃ b off, A = some ⟨b, off, none⟩ ∧ ∀ i x, xs[i]? = some x → ∃ cs, d.K w x cs ∧ ∀ j, j < d.sz → w.cell? ⟨b, off + i * d.sz + j, none⟩ = cs[j]?
theorem Els.keep {α : Type} {d : Rk α} {w w' : World} {A : Option Addr} {xs : List α} (k : Kept [] w w') (h : Els d w A xs) : Els d w' A xs := by
  intro hn
  obtain ⟨b, off, hA, he⟩ := h hn
  refine ⟨b, off, hA, fun i x hx => ?_⟩
  obtain ⟨cs, hK, hc⟩ := he i x hx
  refine ⟨cs, d.keep k hK, fun j hj => ?_⟩
  have hl : j < cs.length := by rw [d.len hK]; exact hj
  have := hc j hj
  rw [List.getElem?_eq_getElem hl] at this ⊢
  exact k.cell (by simp) this

def Rk.slice {α : Type} (d : Rk α) : Rk (List α) where
  sz := 1
  K w xs cs := ∃ A c, cs = [.slice A xs.length c] ∧ xs.length ≤ c ∧ c ≤ maxLen ∧ (A = none → xs = [] ∧ c = 0) ∧ Els d w A xs
  len h := by obtain ⟨_, _, h, _⟩ := h; rw [h]; rfl
  keep k h := by obtain ⟨A, c, h1, h2, h3, h4, h5⟩ := h; exact ⟨A, c, h1, h2, h3, h4, h5.keep k⟩
  dflt := []

def Rk.pair {α β : Type} (a : Rk α) (b : Rk β) : Rk (α × β) where
  sz := a.sz + b.sz
  K w x cs := ∃ c1 c2, cs = c1 ++ c2 ∧ a.K w x.1 c1 ∧ b.K w x.2 c2
  len h := by obtain ⟨c1, c2, h, h1, h2⟩ := h; rw [h, List.length_append, a.len h1, b.len h2]
  keep k h := by obtain ⟨c1, c2, h, h1, h2⟩ := h; exact ⟨c1, c2, h, a.keep k h1, b.keep k h2⟩
  dflt := (a.dflt, b.dflt)

/-- The row's own reading of a type gives this reader's. -/
def Rk.Of {α : Type} (d : Rk α) (P : Program) (t : TypeId) : Prop :=
  ∀ {H : Type} {enc : TypeId × Value → H} {w : World} {base : Nat} {spare : Nat → Bool} {held : Bool} {fuel : Nat} {cs : List Value} {x : DataW H × List MemPlace},
    DataW.trod enc P w base spare held fuel t cs = some x → ∃ a, d.K w a cs

theorem Rk.of_int {P : Program} {t : TypeId} {k : IntKind} (ht : P.underlying t = some (.int k)) : (Rk.int k).Of P t := by
  intro H enc w base spare held fuel cs x h
  obtain ⟨q, rfl, _, hw⟩ := DataW.trod_int ht h
  exact ⟨q, rfl, hw⟩
theorem Rk.of_bool {P : Program} {t : TypeId} (ht : P.underlying t = some .bool) : Rk.bool.Of P t := by
  intro H enc w base spare held fuel cs x h
  cases fuel with
  | zero => simp [DataW.trod] at h
  | succ n =>
    unfold DataW.trod at h
    rw [ht] at h
    split at h <;> first | (cases h; done) | skip
    all_goals first | (rename_i b _ _; exact ⟨b, rfl⟩) | (rename_i b _; exact ⟨b, rfl⟩) | (rename_i b; exact ⟨b, rfl⟩) | simp_all
theorem Rk.of_str {P : Program} {t : TypeId} (ht : P.underlying t = some .string) : Rk.str.Of P t := by
  intro H enc w base spare held fuel cs x h
  cases fuel with
  | zero => simp [DataW.trod] at h
  | succ n =>
    unfold DataW.trod at h
    rw [ht] at h
    split at h <;> simp_all
    exact ⟨_, rfl, h.1⟩

theorem Rk.of_slice {α : Type} {d : Rk α} {P : Program} {t e : TypeId} (ht : P.underlying t = some (.slice e)) (hd : d.Of P e) (hs : P.cellsOf e = d.sz) (hp : 0 < d.sz) : (Rk.slice d).Of P t := by
  intro H enc w base spare held fuel cs x h
  rcases open_slice ht h with ⟨rfl, rfl⟩ | ⟨a, len, cap, m, n, D, Pl, rfl, hb, hl, hm, hmm, rfl, hx⟩
  · exact ⟨[], none, 0, rfl, Nat.le_refl _, by simp, fun _ => ⟨rfl, rfl⟩, fun hn => absurd rfl hn⟩
  · have hlm : len ≤ m := by rw [hmm]; split <;> omega
    have key : ∀ i, i < len → ∃ y : α, ∃ cs', w.cells? base (a.add (i * d.sz)) d.sz = some cs' ∧ d.K w y cs' := fun i hi => by
      obtain ⟨cs', h1, h2⟩ := hx i (by omega)
      rw [hs] at h1
      obtain ⟨y, hy⟩ := hd h2
      exact ⟨y, cs', h1, hy⟩
    haveI : Inhabited α := ⟨d.dflt⟩
    obtain ⟨f, hf⟩ := choose_lt key
    refine ⟨(List.range len).map f, some a, cap, by simp, by simpa using hl, hm, (fun e => by cases e), fun hne => ?_⟩
    have hpos : 0 < len := by
      rcases Nat.eq_zero_or_pos len with h0 | h0
      · subst h0; simp at hne
      · exact h0
    obtain ⟨b, off, sp⟩ := a
    have hcell : ∀ i, i < len → ∀ cs', w.cells? base ((⟨b, off, sp⟩ : Addr).add (i * d.sz)) d.sz = some cs' → ∀ j, j < d.sz → w.cell? (((⟨b, off, sp⟩ : Addr).add (i * d.sz)).add j) = cs'[j]? := by
      intro i _ cs' h1 j hj
      obtain ⟨_, h2, h3⟩ := World.cells?_some h1
      have hj' : j < cs'.length := by omega
      exact h3 j hj
    have hsp : sp = none := by
      obtain ⟨cs', h1, hK⟩ := hf 0 hpos
      have h2 := hcell 0 hpos cs' h1 0 hp
      rw [List.getElem?_eq_getElem (by rw [d.len hK]; exact hp)] at h2
      simpa [Addr.add] using World.cell?_spot h2
    subst hsp
    refine ⟨b, off, rfl, fun i x hx' => ?_⟩
    have hi : i < len := by
      rcases Nat.lt_or_ge i len with h0 | h0
      · exact h0
      · rw [List.getElem?_eq_none (by simpa using h0)] at hx'; cases hx'
    obtain ⟨cs', h1, hK⟩ := hf i hi
    have hxe : x = f i := by
      rw [List.getElem?_eq_getElem (by simpa using hi)] at hx'
      simpa using hx'.symm
    subst hxe
    refine ⟨cs', hK, fun j hj => ?_⟩
    rw [← hcell i hi cs' h1 j hj, add_add]
    congr 1
    unfold Addr.add
    split
    · rename_i h0; simp; try omega
    · simp [Nat.add_assoc]

/-- A struct's fields from an offset on. -/
def Rk.OfFields {α : Type} (d : Rk α) (P : Program) (fs : List Field) (off : Nat) : Prop :=
  ∀ {H : Type} {enc : TypeId × Value → H} {w : World} {base : Nat} {spare : Nat → Bool} {held : Bool} {fuel : Nat} {cs : List Value},
    (∀ f ∈ fs, ∃ y, DataW.trod enc P w base spare held fuel f.type ((cs.drop f.offset).take (P.cellsOf f.type)) = some y) → ∃ a, d.K w a ((cs.drop off).take d.sz)
theorem Rk.fields_one {α : Type} {d : Rk α} {P : Program} {f : Field} {off : Nat} (hd : d.Of P f.type) (ho : f.offset = off) (hs : P.cellsOf f.type = d.sz) : d.OfFields P [f] off := by
  intro H enc w base spare held fuel cs h
  obtain ⟨y, hy⟩ := h f (by simp)
  rw [ho, hs] at hy
  exact hd hy
theorem Rk.fields_cons {α β : Type} {a : Rk α} {b : Rk β} {P : Program} {f : Field} {fs : List Field} {off : Nat} (ha : a.Of P f.type) (ho : f.offset = off) (hs : P.cellsOf f.type = a.sz)
    (hb : b.OfFields P fs (off + a.sz)) : (a.pair b).OfFields P (f :: fs) off := by
  intro H enc w base spare held fuel cs h
  obtain ⟨y, hy⟩ := h f (by simp)
  rw [ho, hs] at hy
  obtain ⟨x1, h1⟩ := ha hy
  obtain ⟨x2, h2⟩ := hb (cs := cs) (fun g hg => h g (by simp [hg]))
  refine ⟨(x1, x2), _, _, ?_, h1, h2⟩
  show (cs.drop off).take (a.sz + b.sz) = _
  rw [List.take_add]
  simp [List.drop_drop]
theorem Rk.of_struct {α : Type} {d : Rk α} {P : Program} {t : TypeId} {fs : Array Field} (ht : P.underlying t = some (.struct fs)) (hd : d.OfFields P fs.toList 0) (hs : P.cellsOf t = d.sz) : d.Of P t := by
  intro H enc w base spare held fuel cs x h
  obtain ⟨xs, n, _, rfl, hl, hlen, hf⟩ := DataW.trod_struct ht h
  obtain ⟨a, ha⟩ := hd (cs := cs) (fun f hm => by
    obtain ⟨i, hi, rfl⟩ := List.getElem_of_mem hm
    rw [Array.length_toList] at hi
    have h2 := hf i _ (Array.getElem?_eq_getElem hi)
    have hx : i < xs.length := by omega
    rw [List.getElem?_eq_getElem hx] at h2
    exact ⟨_, h2⟩)
  refine ⟨a, ?_⟩
  rw [List.drop_zero, List.take_of_length_le (by rw [hl, hs]; exact Nat.le_refl _)] at ha
  exact ha

end Go.Proofs.YthgenobbpaclhaaDoor

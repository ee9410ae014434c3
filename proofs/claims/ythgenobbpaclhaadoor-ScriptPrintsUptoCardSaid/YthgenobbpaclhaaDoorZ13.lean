/- Scripts: all lines (plain laws); steps that are read. -/
import Derived.Test.YthgenobbpaclhaaDoorZ2
import Derived.Test.YthgenobbpaclhaaDoorZ8
import Derived.Test.YthgenobbpaclhaaDoorZ11
import Derived.Test.YthgenobbpaclhaaDoorZ12
set_option linter.unusedVariables false
set_option linter.unusedSimpArgs false
set_option linter.unnecessarySimpa false
namespace Go.Proofs.YthgenobbpaclhaaDoor
open Go.RowKit Go.Shelf

theorem flat_len {α β : Type} (f : α → List β) (M : Nat) : ∀ l : List α, (∀ a ∈ l, (f a).length ≤ M) → (l.flatMap f).length ≤ l.length * M
  | [], _ => by simp
  | a :: l, h => by
    have h1 := h a (by simp)
    have h2 := flat_len f M l (fun b hb => h b (by simp [hb]))
    rw [List.flatMap_cons, List.length_append, List.length_cons, Nat.succ_mul]
    omega
theorem fW_ok300 {x : StepD} (h : StepSm x) {f : Nat} (hf : f ≠ 0) (hok : fOk f x = true) : ∀ u ∈ fW f x, u.size ≤ 300 := by
  intro u hu
  unfold fW at hu
  unfold fOk at hok
  split at hu
  · exact absurd rfl hf
  · unfold listW at hu
    rcases List.mem_cons.1 hu with rfl | hu
    · have := h.plen; exact num_size ⟨by omega, by omega⟩
    · obtain ⟨n, hn, rfl⟩ := List.mem_map.1 hu; exact num_size (h.place n hn)
  · simp at hu; rw [hu]; exact num_size h.source
  · simp at hu; rw [hu]; exact num_size h.time
  · simp at hu hok; rw [hu]; have := quo_size x.type; omega
  · unfold attrsW at hu
    rcases List.mem_cons.1 hu with rfl | hu
    · have := h.alen; exact num_size ⟨by omega, by omega⟩
    · obtain ⟨a, ha, hu⟩ := List.mem_flatMap.1 hu
      have hs := h.attrs a ha
      have ho : attrOk a = true := List.all_eq_true.1 hok a ha
      unfold attrOk at ho
      rw [Bool.and_eq_true] at ho
      unfold attrW at hu
      simp at hu ho
      rcases hu with rfl | rfl
      · have := quo_size a.1; omega
      · exact (text_size ho.1 hs.2.2.1 hs.2.2.2).1
  · simp at hu; rw [hu]; exact num_size h.pattern
  · simp at hu; rw [hu]; exact num_size h.op
  · simp at hu; rw [hu]; exact num_size h.dest
  · simp at hu; rw [hu]; exact num_size h.broker
  · simp at hu; rw [hu]; exact num_size h.number
  · simp at hu; rw [hu]; exact num_size h.at_
  · simp at hu; rw [hu]; have := h.wth; exact num_size ⟨by omega, by omega⟩
theorem joinT_cons_size (t : ByteArray) (ts : List ByteArray) : (joinT (t :: ts)).size = t.size + (Lib.joinTail [32] (ts.map (·.data.toList))).length := by
  show (Lib.join ((t :: ts).map (·.data.toList)) [32]).toArray.size = _
  rw [List.map_cons, Lib.join_cons]
  simp
theorem joinTail_app (a b : List ByteArray) : Lib.joinTail [32] ((a ++ b).map (·.data.toList)) = Lib.joinTail [32] (a.map (·.data.toList)) ++ Lib.joinTail [32] (b.map (·.data.toList)) := by
  unfold Lib.joinTail
  simp
theorem wordK_small {k : Int} (h1 : 1 ≤ k) (h2 : k ≤ 12) : (wordK k).size ≤ 10 := by
  rcases kinds h1 h2 with rfl | rfl | rfl | rfl | rfl | rfl | rfl | rfl | rfl | rfl | rfl | rfl <;> decide
theorem line_size {x : StepD} (h : StepSm x) {s : ByteArray} (hs : lineT x = some s) : s.size ≤ 2700000000 := by
  unfold lineT at hs
  cases hw : lineW x with
  | none => rw [hw] at hs; cases hs
  | some ws =>
    rw [hw] at hs
    simp at hs
    subst hs
    obtain ⟨h1, h2, h3, h4, rfl⟩ := lineW_some hw
    unfold allW
    rw [joinT_cons_size]
    have h0 := wordK_small h1 h2
    by_cases hk : x.kind = 1
    · have e : (fieldsK x.kind).flatMap (fW · x) = [quoT x.text] ++ listW x.place := by rw [hk]; simp [fieldsK, fW]
      have ht : x.text.size ≤ 4096 := by
        unfold allOk at h4
        rw [hk] at h4
        simp [fieldsK, fOk] at h4
        exact h4
      rw [e, joinTail_app, List.length_append]
      have q := quo_size x.text
      have j1 := jt_len [quoT x.text] 16386 (fun u hu => by simp at hu; rw [hu]; omega)
      have j2 := jt_len (listW x.place) 300 (fun u hu => fW_ok300 (f := 1) h (by decide) rfl u hu)
      rw [listW_len] at j2
      have := h.plen
      simp only [List.length_cons, List.length_nil] at j1
      omega
    · have hf : ∀ f ∈ fieldsK x.kind, f ≠ 0 := by
        rcases kinds h1 h2 with e | e | e | e | e | e | e | e | e | e | e | e <;> first | exact absurd e hk | (rw [e]; simp [fieldsK])
      have hb : ∀ u ∈ (fieldsK x.kind).flatMap (fW · x), u.size ≤ 300 := fun u hu => by
        obtain ⟨f, hfm, hu⟩ := List.mem_flatMap.1 hu
        exact fW_ok300 h (hf f hfm) (List.all_eq_true.1 h4 f hfm) u hu
      have j := jt_len _ 300 hb
      have l := flat_len (fW · x) 2097153 (fieldsK x.kind) (fun f _ => (fW_len h f).1)
      have l2 : (fieldsK x.kind).length ≤ 4 := by
        unfold fieldsK
        repeat' split
        all_goals simp
      obtain ⟨N, hN⟩ : ∃ N, ((fieldsK x.kind).flatMap (fW · x)).length = N := ⟨_, rfl⟩
      rw [hN] at j l
      omega

/-- The lines of steps, each with its end; none: one has no line. -/
noncomputable def linesB : List StepD → Option (List UInt8)
  | [] => some []
  | x :: l => match lineT x, linesB l with
    | some s, some r => some (s.data.toList ++ 10 :: r)
    | _, _ => none
theorem linesB_snoc {x : StepD} {s : ByteArray} (hx : lineT x = some s) : ∀ (l : List StepD) (P : List UInt8), linesB l = some P → linesB (l ++ [x]) = some (P ++ (s.data.toList ++ [10]))
  | [], P, h => by
    simp [linesB] at h
    subst h
    simp [linesB, hx]
  | y :: l, P, h => by
    rw [linesB] at h
    cases hy : lineT y with
    | none => rw [hy] at h; cases h
    | some t =>
      cases hl : linesB l with
      | none => rw [hy, hl] at h; cases h
      | some r =>
        rw [hy, hl] at h
        simp at h
        subst h
        rw [List.cons_append, linesB, hy, linesB_snoc hx l r hl]
        simp
theorem linesB_none {x : StepD} (hx : lineT x = none) : ∀ (l : List StepD), x ∈ l → linesB l = none
  | [], h => by cases h
  | y :: l, h => by
    rw [linesB]
    rcases List.mem_cons.1 h with rfl | h
    · rw [hx]
    · rw [linesB_none hx l h]
      cases lineT y <;> rfl
/-- A script's text and its fault. -/
noncomputable def printV (c : ConfD) (l : List StepD) : ByteArray × Int := if 16384 < l.length ∨ 64 < c.parents.length ∨ 64 < c.sources.length then (eB, 3) else match linesB l with
  | none => (eB, 1)
  | some s => (⟨((headT c).data.toList ++ 10 :: s).toArray⟩, 0)
theorem printV_long {c : ConfD} {l : List StepD} (h : 16384 < l.length ∨ 64 < c.parents.length ∨ 64 < c.sources.length) : printV c l = (eB, 3) := by unfold printV; rw [if_pos h]
theorem printV_bad {c : ConfD} {l : List StepD} (h : ¬ (16384 < l.length ∨ 64 < c.parents.length ∨ 64 < c.sources.length)) (hb : linesB l = none) : printV c l = (eB, 1) := by unfold printV; rw [if_neg h, hb]
theorem printV_ok {c : ConfD} {l : List StepD} {s : List UInt8} (h : ¬ (16384 < l.length ∨ 64 < c.parents.length ∨ 64 < c.sources.length)) (hb : linesB l = some s) : printV c l = (⟨((headT c).data.toList ++ 10 :: s).toArray⟩, 0) := by unfold printV; rw [if_neg h, hb]

/-- v reads as the steps L. -/
def RdSt (w : World) (v : Value) (L : List StepD) : Prop := ∃ A c, v = .slice A L.length c ∧ L.length ≤ maxLen ∧ (L ≠ [] → ∃ b off, A = some ⟨b, off, none⟩ ∧ ∀ i x, L[i]? = some x → ∃ pv av, StepV w x pv av ∧ ∀ j u, (stepC x pv av)[j]? = some u → w.cell? ⟨b, off + i * 14 + j, none⟩ = some u)
theorem RdSt.keep {w w' : World} {v : Value} {L : List StepD} (h : RdSt w v L) (hk : Kept [] w w') : RdSt w' v L := by
  obtain ⟨A, c, rfl, hm, h⟩ := h
  refine ⟨A, c, rfl, hm, fun hn => ?_⟩
  obtain ⟨b, off, rfl, hx⟩ := h hn
  refine ⟨b, off, rfl, fun i x hi => ?_⟩
  obtain ⟨pv, av, hv, hc⟩ := hx i x hi
  exact ⟨pv, av, hv.keep hk, fun j u hu => hk.cell (by simp) (hc j u hu)⟩
theorem IsB.keep {w w' : World} {B b : Nat} {bs : List Value} (h : IsB B b bs w) (hk : Kept [] w w') : IsB B b bs w' := by
  have key : ∀ p, BAt B b p bs w → BAt B b p bs w' := by
    rintro p ⟨h1, v, h2, h3, h4⟩
    exact ⟨h1, v, by rw [hk.block b (Array.getElem?_eq_some_iff.1 h2).1 (by simp)]; exact h2, own_keep h3 hk, h4⟩
  rcases h with h | h
  · exact .inl (key _ h)
  · exact .inr (key _ h)
theorem IsB.start (w : World) : IsB w.heap.size w.heap.size [] (w.alloc (.cells #[.pointer none, .slice none 0 0] 46)) :=
  .inl ⟨Nat.le_refl _, .slice none 0 0, by have := Blk.new w #[.pointer none, .slice none 0 0] 46; exact this, World.ownsRow_nil _ _ _ _, by simp [Value.ownBlock]⟩

end Go.Proofs.YthgenobbpaclhaaDoor

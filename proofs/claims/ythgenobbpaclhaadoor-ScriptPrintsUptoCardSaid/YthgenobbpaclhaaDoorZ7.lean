/- Scripts, the program's: the shapes of all kinds (printed by gen_z7.py). -/
import Derived.Test.YthgenobbpaclhaaDoorZ5
import Derived.Great.Walk
import Derived.Great.BuildSlice
set_option linter.unusedVariables false
set_option linter.unusedSimpArgs false
set_option linter.unnecessarySimpa false
namespace Go.Proofs.YthgenobbpaclhaaDoor
open Go.RowKit Go.Shelf
attribute [local go_sem] Oper.semAt_some

/-- A kind's fields, as they lie. -/
def fieldsRow (b k : Nat) : Value := match k with
  | 1 => .slice (some ⟨b + 1 + 0, 0, none⟩) 2 2
  | 2 => .slice (some ⟨b + 1 + 1, 0, none⟩) 4 4
  | 3 => .slice (some ⟨b + 1 + 2, 0, none⟩) 1 1
  | 4 => .slice (some ⟨b + 1 + 3, 0, none⟩) 3 3
  | 5 => .slice (some ⟨b + 1 + 4, 0, none⟩) 1 1
  | 7 => .slice (some ⟨b + 1 + 5, 0, none⟩) 1 1
  | 8 => .slice (some ⟨b + 1 + 6, 0, none⟩) 1 1
  | 9 => .slice (some ⟨b + 1 + 7, 0, none⟩) 1 1
  | 10 => .slice (some ⟨b + 1 + 8, 0, none⟩) 3 3
  | _ => .slice none 0 0
def shapesV (b : Nat) : Array Value := #[.string eB, .slice none 0 0, .string (wordK 1), fieldsRow b 1, .string (wordK 2), fieldsRow b 2, .string (wordK 3), fieldsRow b 3, .string (wordK 4), fieldsRow b 4, .string (wordK 5), fieldsRow b 5, .string (wordK 6), fieldsRow b 6, .string (wordK 7), fieldsRow b 7, .string (wordK 8), fieldsRow b 8, .string (wordK 9), fieldsRow b 9, .string (wordK 10), fieldsRow b 10, .string (wordK 11), fieldsRow b 11, .string (wordK 12), fieldsRow b 12]
theorem rdI_block {w : World} {b : Nat} {xs : List Int} {t : TypeId} (h : Blk w b (xs.map (Value.int .i64)).toArray t) (hm : xs.length ≤ maxLen) : RdI w .i64 (.slice (some ⟨b, 0, none⟩) xs.length xs.length) xs := by
  refine ⟨_, _, rfl, hm, fun hn => ⟨b, 0, rfl, fun i x hx => ?_⟩⟩
  rw [Nat.zero_add, h.cell i]
  simp [hx]
def rowsAt : List (List Int) := [[0, 1], [2, 3, 4, 5], [2], [6, 7, 8], [9], [10], [10], [10], [10, 11, 12]]
def zeros13 : Array Value := #[Value.string { data := #[] }, Value.slice none 0 0, Value.string { data := #[] }, Value.slice none 0 0, Value.string { data := #[] }, Value.slice none 0 0, Value.string { data := #[] }, Value.slice none 0 0, Value.string { data := #[] }, Value.slice none 0 0, Value.string { data := #[] }, Value.slice none 0 0, Value.string { data := #[] }, Value.slice none 0 0, Value.string { data := #[] }, Value.slice none 0 0, Value.string { data := #[] }, Value.slice none 0 0, Value.string { data := #[] }, Value.slice none 0 0, Value.string { data := #[] }, Value.slice none 0 0, Value.string { data := #[] }, Value.slice none 0 0, Value.string { data := #[] }, Value.slice none 0 0]
def ShSt (w W : World) (n : Nat) : Prop := W.heap.size = w.heap.size + 1 + n ∧ Blk W w.heap.size zeros13 69 ∧ Kept [] w W ∧ ∀ i xs, i < n → rowsAt[i]? = some xs → Blk W (w.heap.size + 1 + i) (xs.map (Value.int .i64)).toArray 3
theorem ShSt.next {w W : World} {n : Nat} (h : ShSt w W n) (xs : List Int) (hx : rowsAt[n]? = some xs) : ShSt w (W.alloc (.cells (xs.map (Value.int .i64)).toArray 3)) (n + 1) := by
  refine ⟨?_, h.2.1.alloc _, h.2.2.1.alloc _, fun i ys hi hy => ?_⟩
  · have := h.1
    show (W.heap.push _).size = _
    rw [Array.size_push, this]
    omega
  · by_cases hin : i = n
    · subst hin
      rw [hx] at hy
      injection hy with hy
      subst hy
      have := Blk.new W (xs.map (Value.int .i64)).toArray 3
      rw [h.1] at this
      exact this
    · exact (h.2.2.2 i ys (by omega) hy).alloc _
theorem ShSt.start (w : World) : ShSt w (w.alloc (.cells zeros13 69)) 0 := ⟨by simp, Blk.new _ _ _, (Kept.refl [] w).alloc _, fun i xs hi => absurd hi (by omega)⟩
def ShapesEnd (w W : World) : Prop := Blk W w.heap.size (shapesV w.heap.size) 69 ∧ (∀ k : Nat, 1 ≤ k → k ≤ 12 → RdI W .i64 (fieldsRow w.heap.size k) ((fieldsK k).map Int.ofNat)) ∧ Kept [] w W
def ShapesPost (w : World) (e : Ending) (w' : World) : Prop := e = .returned (.agg (shapesV w.heap.size)) ∧ (∀ k : Nat, 1 ≤ k → k ≤ 12 → RdI w' .i64 (fieldsRow w.heap.size k) ((fieldsK k).map Int.ofNat)) ∧ Kept [] w w'
theorem ShSt.rows {w W : World} (h : ShSt w W 9) {k : Nat} (h1 : 1 ≤ k) (h2 : k ≤ 12) : RdI W .i64 (fieldsRow w.heap.size k) ((fieldsK k).map Int.ofNat) := by
  have hk : k = 1 ∨ k = 2 ∨ k = 3 ∨ k = 4 ∨ k = 5 ∨ k = 6 ∨ k = 7 ∨ k = 8 ∨ k = 9 ∨ k = 10 ∨ k = 11 ∨ k = 12 := by omega
  rcases hk with rfl | rfl | rfl | rfl | rfl | rfl | rfl | rfl | rfl | rfl | rfl | rfl
  · exact rdI_block (h.2.2.2 0 [0, 1] (by decide) rfl) (by simp [maxLen])
  · exact rdI_block (h.2.2.2 1 [2, 3, 4, 5] (by decide) rfl) (by simp [maxLen])
  · exact rdI_block (h.2.2.2 2 [2] (by decide) rfl) (by simp [maxLen])
  · exact rdI_block (h.2.2.2 3 [6, 7, 8] (by decide) rfl) (by simp [maxLen])
  · exact rdI_block (h.2.2.2 4 [9] (by decide) rfl) (by simp [maxLen])
  · exact rdI_nil _
  · exact rdI_block (h.2.2.2 5 [10] (by decide) rfl) (by simp [maxLen])
  · exact rdI_block (h.2.2.2 6 [10] (by decide) rfl) (by simp [maxLen])
  · exact rdI_block (h.2.2.2 7 [10] (by decide) rfl) (by simp [maxLen])
  · exact rdI_block (h.2.2.2 8 [10, 11, 12] (by decide) rfl) (by simp [maxLen])
  · exact rdI_nil _
  · exact rdI_nil _
theorem ShSt.shut {w W : World} (h : ShSt w W 9) : ShapesEnd w (W.setRow w.heap.size (shapesV w.heap.size)) := by
  have ho : ∀ i, i ≠ w.heap.size → (W.setRow w.heap.size (shapesV w.heap.size)).heap[i]? = W.heap[i]? := fun i hi => by
    simp only [World.setRow]
    rw [Array.getElem?_modify, if_neg (fun e => hi e.symm)]
  have hk2 : Kept [] w (W.setRow w.heap.size (shapesV w.heap.size)) := ⟨h.2.2.1.os, h.2.2.1.tape, h.2.2.1.output, by have := h.2.2.1.size; simpa [World.setRow] using this, fun k hk hs => by rw [ho k (by omega)]; exact h.2.2.1.block k hk hs⟩
  have hst : ShSt w (W.setRow w.heap.size (shapesV w.heap.size)) 9 ∨ True := .inr trivial
  refine ⟨?_, fun k h1 h2 => ?_, hk2⟩
  · have hb := h.2.1
    unfold Blk at hb ⊢
    simp only [World.setRow]
    rw [Array.getElem?_modify, if_pos rfl, hb]
    rfl
  · obtain ⟨A, c, he, hm, hc⟩ := h.rows h1 h2
    refine ⟨A, c, he, hm, fun hn => ?_⟩
    obtain ⟨b, off, hA, hx⟩ := hc hn
    refine ⟨b, off, hA, fun i x hxi => ?_⟩
    have := hx i x hxi
    have hne : b ≠ w.heap.size := by
      rw [hA] at he
      intro e
      have hk : k = 1 ∨ k = 2 ∨ k = 3 ∨ k = 4 ∨ k = 5 ∨ k = 6 ∨ k = 7 ∨ k = 8 ∨ k = 9 ∨ k = 10 ∨ k = 11 ∨ k = 12 := by omega
      rcases hk with rfl | rfl | rfl | rfl | rfl | rfl | rfl | rfl | rfl | rfl | rfl | rfl <;> simp [fieldsRow] at he <;> omega
    unfold World.cell? at this ⊢
    rw [ho b hne]
    exact this
set_option maxRecDepth 100000 in
set_option maxHeartbeats 4000000 in
theorem shapes_any (w : World) : Calls Tryd.prog 27 #[] w (ShapesPost w) := by
  have H0 := Lib.hid (ShSt.start w)
  obtain ⟨W0, hW0⟩ : ∃ x, w.alloc (.cells zeros13 69) = x := ⟨_, rfl⟩
  rw [hW0] at H0
  have HW0 := Lib.hid hW0
  clear hW0
  go_enter Tryd.func27, Tryd.ntmps27
  go_upto_region 1 with fail
  rw [show w.alloc (.cells #[Value.string { data := #[] }, Value.slice none 0 0, Value.string { data := #[] }, Value.slice none 0 0, Value.string { data := #[] }, Value.slice none 0 0, Value.string { data := #[] }, Value.slice none 0 0, Value.string { data := #[] }, Value.slice none 0 0, Value.string { data := #[] }, Value.slice none 0 0, Value.string { data := #[] }, Value.slice none 0 0, Value.string { data := #[] }, Value.slice none 0 0, Value.string { data := #[] }, Value.slice none 0 0, Value.string { data := #[] }, Value.slice none 0 0, Value.string { data := #[] }, Value.slice none 0 0, Value.string { data := #[] }, Value.slice none 0 0, Value.string { data := #[] }, Value.slice none 0 0] 69) = W0 from HW0.out]
  refine wp_region_lit ?_
  refine Go.Great.wpList_buildSliceTo rfl 22 3 2 _ rfl _ H0.out.1 (some 1) rfl Tryd.underlying22 #[.int .i64 0, .int .i64 1] (by kernel_rfl) ?_
  have H1 : Hid (ShSt w (W0.alloc (.cells #[Value.int .i64 0, Value.int .i64 1] 3)) 1) := H0.out.next [0, 1] rfl
  obtain ⟨W1, hW⟩ : ∃ x, W0.alloc (.cells #[Value.int .i64 0, Value.int .i64 1] 3) = x := ⟨_, rfl⟩
  rw [hW] at H1 ⊢
  clear hW
  refine wpList_frame (a' := ⟨#[.pointer (some ⟨w.heap.size, 0, none⟩), .slice (some ⟨w.heap.size + 1 + 0, 0, none⟩) 2 2, undef, undef, undef, undef, undef, undef, undef, undef, undef, undef, undef, undef, undef, undef, undef, undef, undef, undef, undef, undef, undef], []⟩) (by kernel_rfl) ?_
  refine wpList_buildTo rfl 68 _ rfl (some 2) rfl #[.string (wordK 1), .slice (some ⟨w.heap.size + 1 + 0, 0, none⟩) 2 2] (by kernel_rfl) ?_
  refine wpList_frame (a' := ⟨#[.pointer (some ⟨w.heap.size, 0, none⟩), .slice (some ⟨w.heap.size + 1 + 0, 0, none⟩) 2 2, .agg #[.string (wordK 1), .slice (some ⟨w.heap.size + 1 + 0, 0, none⟩) 2 2], undef, undef, undef, undef, undef, undef, undef, undef, undef, undef, undef, undef, undef, undef, undef, undef, undef, undef, undef, undef], []⟩) (by kernel_rfl) ?_
  refine Go.Great.wpList_buildSliceTo rfl 22 3 4 _ rfl _ H1.out.1 (some 3) rfl Tryd.underlying22 #[.int .i64 2, .int .i64 3, .int .i64 4, .int .i64 5] (by kernel_rfl) ?_
  have H2 : Hid (ShSt w (W1.alloc (.cells #[Value.int .i64 2, Value.int .i64 3, Value.int .i64 4, Value.int .i64 5] 3)) 2) := H1.out.next [2, 3, 4, 5] rfl
  obtain ⟨W2, hW⟩ : ∃ x, W1.alloc (.cells #[Value.int .i64 2, Value.int .i64 3, Value.int .i64 4, Value.int .i64 5] 3) = x := ⟨_, rfl⟩
  rw [hW] at H2 ⊢
  clear hW
  refine wpList_frame (a' := ⟨#[.pointer (some ⟨w.heap.size, 0, none⟩), .slice (some ⟨w.heap.size + 1 + 0, 0, none⟩) 2 2, .agg #[.string (wordK 1), .slice (some ⟨w.heap.size + 1 + 0, 0, none⟩) 2 2], .slice (some ⟨w.heap.size + 1 + 1, 0, none⟩) 4 4, undef, undef, undef, undef, undef, undef, undef, undef, undef, undef, undef, undef, undef, undef, undef, undef, undef, undef, undef], []⟩) (by kernel_rfl) ?_
  refine wpList_buildTo rfl 68 _ rfl (some 4) rfl #[.string (wordK 2), .slice (some ⟨w.heap.size + 1 + 1, 0, none⟩) 4 4] (by kernel_rfl) ?_
  refine wpList_frame (a' := ⟨#[.pointer (some ⟨w.heap.size, 0, none⟩), .slice (some ⟨w.heap.size + 1 + 0, 0, none⟩) 2 2, .agg #[.string (wordK 1), .slice (some ⟨w.heap.size + 1 + 0, 0, none⟩) 2 2], .slice (some ⟨w.heap.size + 1 + 1, 0, none⟩) 4 4, .agg #[.string (wordK 2), .slice (some ⟨w.heap.size + 1 + 1, 0, none⟩) 4 4], undef, undef, undef, undef, undef, undef, undef, undef, undef, undef, undef, undef, undef, undef, undef, undef, undef, undef], []⟩) (by kernel_rfl) ?_
  refine Go.Great.wpList_buildSliceTo rfl 22 3 1 _ rfl _ H2.out.1 (some 5) rfl Tryd.underlying22 #[.int .i64 2] (by kernel_rfl) ?_
  have H3 : Hid (ShSt w (W2.alloc (.cells #[Value.int .i64 2] 3)) 3) := H2.out.next [2] rfl
  obtain ⟨W3, hW⟩ : ∃ x, W2.alloc (.cells #[Value.int .i64 2] 3) = x := ⟨_, rfl⟩
  rw [hW] at H3 ⊢
  clear hW
  refine wpList_frame (a' := ⟨#[.pointer (some ⟨w.heap.size, 0, none⟩), .slice (some ⟨w.heap.size + 1 + 0, 0, none⟩) 2 2, .agg #[.string (wordK 1), .slice (some ⟨w.heap.size + 1 + 0, 0, none⟩) 2 2], .slice (some ⟨w.heap.size + 1 + 1, 0, none⟩) 4 4, .agg #[.string (wordK 2), .slice (some ⟨w.heap.size + 1 + 1, 0, none⟩) 4 4], .slice (some ⟨w.heap.size + 1 + 2, 0, none⟩) 1 1, undef, undef, undef, undef, undef, undef, undef, undef, undef, undef, undef, undef, undef, undef, undef, undef, undef], []⟩) (by kernel_rfl) ?_
  refine wpList_buildTo rfl 68 _ rfl (some 6) rfl #[.string (wordK 3), .slice (some ⟨w.heap.size + 1 + 2, 0, none⟩) 1 1] (by kernel_rfl) ?_
  refine wpList_frame (a' := ⟨#[.pointer (some ⟨w.heap.size, 0, none⟩), .slice (some ⟨w.heap.size + 1 + 0, 0, none⟩) 2 2, .agg #[.string (wordK 1), .slice (some ⟨w.heap.size + 1 + 0, 0, none⟩) 2 2], .slice (some ⟨w.heap.size + 1 + 1, 0, none⟩) 4 4, .agg #[.string (wordK 2), .slice (some ⟨w.heap.size + 1 + 1, 0, none⟩) 4 4], .slice (some ⟨w.heap.size + 1 + 2, 0, none⟩) 1 1, .agg #[.string (wordK 3), .slice (some ⟨w.heap.size + 1 + 2, 0, none⟩) 1 1], undef, undef, undef, undef, undef, undef, undef, undef, undef, undef, undef, undef, undef, undef, undef, undef], []⟩) (by kernel_rfl) ?_
  refine Go.Great.wpList_buildSliceTo rfl 22 3 3 _ rfl _ H3.out.1 (some 7) rfl Tryd.underlying22 #[.int .i64 6, .int .i64 7, .int .i64 8] (by kernel_rfl) ?_
  have H4 : Hid (ShSt w (W3.alloc (.cells #[Value.int .i64 6, Value.int .i64 7, Value.int .i64 8] 3)) 4) := H3.out.next [6, 7, 8] rfl
  obtain ⟨W4, hW⟩ : ∃ x, W3.alloc (.cells #[Value.int .i64 6, Value.int .i64 7, Value.int .i64 8] 3) = x := ⟨_, rfl⟩
  rw [hW] at H4 ⊢
  clear hW
  refine wpList_frame (a' := ⟨#[.pointer (some ⟨w.heap.size, 0, none⟩), .slice (some ⟨w.heap.size + 1 + 0, 0, none⟩) 2 2, .agg #[.string (wordK 1), .slice (some ⟨w.heap.size + 1 + 0, 0, none⟩) 2 2], .slice (some ⟨w.heap.size + 1 + 1, 0, none⟩) 4 4, .agg #[.string (wordK 2), .slice (some ⟨w.heap.size + 1 + 1, 0, none⟩) 4 4], .slice (some ⟨w.heap.size + 1 + 2, 0, none⟩) 1 1, .agg #[.string (wordK 3), .slice (some ⟨w.heap.size + 1 + 2, 0, none⟩) 1 1], .slice (some ⟨w.heap.size + 1 + 3, 0, none⟩) 3 3, undef, undef, undef, undef, undef, undef, undef, undef, undef, undef, undef, undef, undef, undef, undef], []⟩) (by kernel_rfl) ?_
  refine wpList_buildTo rfl 68 _ rfl (some 8) rfl #[.string (wordK 4), .slice (some ⟨w.heap.size + 1 + 3, 0, none⟩) 3 3] (by kernel_rfl) ?_
  refine wpList_frame (a' := ⟨#[.pointer (some ⟨w.heap.size, 0, none⟩), .slice (some ⟨w.heap.size + 1 + 0, 0, none⟩) 2 2, .agg #[.string (wordK 1), .slice (some ⟨w.heap.size + 1 + 0, 0, none⟩) 2 2], .slice (some ⟨w.heap.size + 1 + 1, 0, none⟩) 4 4, .agg #[.string (wordK 2), .slice (some ⟨w.heap.size + 1 + 1, 0, none⟩) 4 4], .slice (some ⟨w.heap.size + 1 + 2, 0, none⟩) 1 1, .agg #[.string (wordK 3), .slice (some ⟨w.heap.size + 1 + 2, 0, none⟩) 1 1], .slice (some ⟨w.heap.size + 1 + 3, 0, none⟩) 3 3, .agg #[.string (wordK 4), .slice (some ⟨w.heap.size + 1 + 3, 0, none⟩) 3 3], undef, undef, undef, undef, undef, undef, undef, undef, undef, undef, undef, undef, undef, undef], []⟩) (by kernel_rfl) ?_
  refine Go.Great.wpList_buildSliceTo rfl 22 3 1 _ rfl _ H4.out.1 (some 9) rfl Tryd.underlying22 #[.int .i64 9] (by kernel_rfl) ?_
  have H5 : Hid (ShSt w (W4.alloc (.cells #[Value.int .i64 9] 3)) 5) := H4.out.next [9] rfl
  obtain ⟨W5, hW⟩ : ∃ x, W4.alloc (.cells #[Value.int .i64 9] 3) = x := ⟨_, rfl⟩
  rw [hW] at H5 ⊢
  clear hW
  refine wpList_frame (a' := ⟨#[.pointer (some ⟨w.heap.size, 0, none⟩), .slice (some ⟨w.heap.size + 1 + 0, 0, none⟩) 2 2, .agg #[.string (wordK 1), .slice (some ⟨w.heap.size + 1 + 0, 0, none⟩) 2 2], .slice (some ⟨w.heap.size + 1 + 1, 0, none⟩) 4 4, .agg #[.string (wordK 2), .slice (some ⟨w.heap.size + 1 + 1, 0, none⟩) 4 4], .slice (some ⟨w.heap.size + 1 + 2, 0, none⟩) 1 1, .agg #[.string (wordK 3), .slice (some ⟨w.heap.size + 1 + 2, 0, none⟩) 1 1], .slice (some ⟨w.heap.size + 1 + 3, 0, none⟩) 3 3, .agg #[.string (wordK 4), .slice (some ⟨w.heap.size + 1 + 3, 0, none⟩) 3 3], .slice (some ⟨w.heap.size + 1 + 4, 0, none⟩) 1 1, undef, undef, undef, undef, undef, undef, undef, undef, undef, undef, undef, undef, undef], []⟩) (by kernel_rfl) ?_
  refine wpList_buildTo rfl 68 _ rfl (some 10) rfl #[.string (wordK 5), .slice (some ⟨w.heap.size + 1 + 4, 0, none⟩) 1 1] (by kernel_rfl) ?_
  refine wpList_frame (a' := ⟨#[.pointer (some ⟨w.heap.size, 0, none⟩), .slice (some ⟨w.heap.size + 1 + 0, 0, none⟩) 2 2, .agg #[.string (wordK 1), .slice (some ⟨w.heap.size + 1 + 0, 0, none⟩) 2 2], .slice (some ⟨w.heap.size + 1 + 1, 0, none⟩) 4 4, .agg #[.string (wordK 2), .slice (some ⟨w.heap.size + 1 + 1, 0, none⟩) 4 4], .slice (some ⟨w.heap.size + 1 + 2, 0, none⟩) 1 1, .agg #[.string (wordK 3), .slice (some ⟨w.heap.size + 1 + 2, 0, none⟩) 1 1], .slice (some ⟨w.heap.size + 1 + 3, 0, none⟩) 3 3, .agg #[.string (wordK 4), .slice (some ⟨w.heap.size + 1 + 3, 0, none⟩) 3 3], .slice (some ⟨w.heap.size + 1 + 4, 0, none⟩) 1 1, .agg #[.string (wordK 5), .slice (some ⟨w.heap.size + 1 + 4, 0, none⟩) 1 1], undef, undef, undef, undef, undef, undef, undef, undef, undef, undef, undef, undef], []⟩) (by kernel_rfl) ?_
  refine wpList_buildTo rfl 68 _ rfl (some 11) rfl #[.string (wordK 6), .slice none 0 0] (by kernel_rfl) ?_
  refine wpList_frame (a' := ⟨#[.pointer (some ⟨w.heap.size, 0, none⟩), .slice (some ⟨w.heap.size + 1 + 0, 0, none⟩) 2 2, .agg #[.string (wordK 1), .slice (some ⟨w.heap.size + 1 + 0, 0, none⟩) 2 2], .slice (some ⟨w.heap.size + 1 + 1, 0, none⟩) 4 4, .agg #[.string (wordK 2), .slice (some ⟨w.heap.size + 1 + 1, 0, none⟩) 4 4], .slice (some ⟨w.heap.size + 1 + 2, 0, none⟩) 1 1, .agg #[.string (wordK 3), .slice (some ⟨w.heap.size + 1 + 2, 0, none⟩) 1 1], .slice (some ⟨w.heap.size + 1 + 3, 0, none⟩) 3 3, .agg #[.string (wordK 4), .slice (some ⟨w.heap.size + 1 + 3, 0, none⟩) 3 3], .slice (some ⟨w.heap.size + 1 + 4, 0, none⟩) 1 1, .agg #[.string (wordK 5), .slice (some ⟨w.heap.size + 1 + 4, 0, none⟩) 1 1], .agg #[.string (wordK 6), .slice none 0 0], undef, undef, undef, undef, undef, undef, undef, undef, undef, undef, undef], []⟩) (by kernel_rfl) ?_
  refine Go.Great.wpList_buildSliceTo rfl 22 3 1 _ rfl _ H5.out.1 (some 12) rfl Tryd.underlying22 #[.int .i64 10] (by kernel_rfl) ?_
  have H6 : Hid (ShSt w (W5.alloc (.cells #[Value.int .i64 10] 3)) 6) := H5.out.next [10] rfl
  obtain ⟨W6, hW⟩ : ∃ x, W5.alloc (.cells #[Value.int .i64 10] 3) = x := ⟨_, rfl⟩
  rw [hW] at H6 ⊢
  clear hW
  refine wpList_frame (a' := ⟨#[.pointer (some ⟨w.heap.size, 0, none⟩), .slice (some ⟨w.heap.size + 1 + 0, 0, none⟩) 2 2, .agg #[.string (wordK 1), .slice (some ⟨w.heap.size + 1 + 0, 0, none⟩) 2 2], .slice (some ⟨w.heap.size + 1 + 1, 0, none⟩) 4 4, .agg #[.string (wordK 2), .slice (some ⟨w.heap.size + 1 + 1, 0, none⟩) 4 4], .slice (some ⟨w.heap.size + 1 + 2, 0, none⟩) 1 1, .agg #[.string (wordK 3), .slice (some ⟨w.heap.size + 1 + 2, 0, none⟩) 1 1], .slice (some ⟨w.heap.size + 1 + 3, 0, none⟩) 3 3, .agg #[.string (wordK 4), .slice (some ⟨w.heap.size + 1 + 3, 0, none⟩) 3 3], .slice (some ⟨w.heap.size + 1 + 4, 0, none⟩) 1 1, .agg #[.string (wordK 5), .slice (some ⟨w.heap.size + 1 + 4, 0, none⟩) 1 1], .agg #[.string (wordK 6), .slice none 0 0], .slice (some ⟨w.heap.size + 1 + 5, 0, none⟩) 1 1, undef, undef, undef, undef, undef, undef, undef, undef, undef, undef], []⟩) (by kernel_rfl) ?_
  refine wpList_buildTo rfl 68 _ rfl (some 13) rfl #[.string (wordK 7), .slice (some ⟨w.heap.size + 1 + 5, 0, none⟩) 1 1] (by kernel_rfl) ?_
  refine wpList_frame (a' := ⟨#[.pointer (some ⟨w.heap.size, 0, none⟩), .slice (some ⟨w.heap.size + 1 + 0, 0, none⟩) 2 2, .agg #[.string (wordK 1), .slice (some ⟨w.heap.size + 1 + 0, 0, none⟩) 2 2], .slice (some ⟨w.heap.size + 1 + 1, 0, none⟩) 4 4, .agg #[.string (wordK 2), .slice (some ⟨w.heap.size + 1 + 1, 0, none⟩) 4 4], .slice (some ⟨w.heap.size + 1 + 2, 0, none⟩) 1 1, .agg #[.string (wordK 3), .slice (some ⟨w.heap.size + 1 + 2, 0, none⟩) 1 1], .slice (some ⟨w.heap.size + 1 + 3, 0, none⟩) 3 3, .agg #[.string (wordK 4), .slice (some ⟨w.heap.size + 1 + 3, 0, none⟩) 3 3], .slice (some ⟨w.heap.size + 1 + 4, 0, none⟩) 1 1, .agg #[.string (wordK 5), .slice (some ⟨w.heap.size + 1 + 4, 0, none⟩) 1 1], .agg #[.string (wordK 6), .slice none 0 0], .slice (some ⟨w.heap.size + 1 + 5, 0, none⟩) 1 1, .agg #[.string (wordK 7), .slice (some ⟨w.heap.size + 1 + 5, 0, none⟩) 1 1], undef, undef, undef, undef, undef, undef, undef, undef, undef], []⟩) (by kernel_rfl) ?_
  refine Go.Great.wpList_buildSliceTo rfl 22 3 1 _ rfl _ H6.out.1 (some 14) rfl Tryd.underlying22 #[.int .i64 10] (by kernel_rfl) ?_
  have H7 : Hid (ShSt w (W6.alloc (.cells #[Value.int .i64 10] 3)) 7) := H6.out.next [10] rfl
  obtain ⟨W7, hW⟩ : ∃ x, W6.alloc (.cells #[Value.int .i64 10] 3) = x := ⟨_, rfl⟩
  rw [hW] at H7 ⊢
  clear hW
  refine wpList_frame (a' := ⟨#[.pointer (some ⟨w.heap.size, 0, none⟩), .slice (some ⟨w.heap.size + 1 + 0, 0, none⟩) 2 2, .agg #[.string (wordK 1), .slice (some ⟨w.heap.size + 1 + 0, 0, none⟩) 2 2], .slice (some ⟨w.heap.size + 1 + 1, 0, none⟩) 4 4, .agg #[.string (wordK 2), .slice (some ⟨w.heap.size + 1 + 1, 0, none⟩) 4 4], .slice (some ⟨w.heap.size + 1 + 2, 0, none⟩) 1 1, .agg #[.string (wordK 3), .slice (some ⟨w.heap.size + 1 + 2, 0, none⟩) 1 1], .slice (some ⟨w.heap.size + 1 + 3, 0, none⟩) 3 3, .agg #[.string (wordK 4), .slice (some ⟨w.heap.size + 1 + 3, 0, none⟩) 3 3], .slice (some ⟨w.heap.size + 1 + 4, 0, none⟩) 1 1, .agg #[.string (wordK 5), .slice (some ⟨w.heap.size + 1 + 4, 0, none⟩) 1 1], .agg #[.string (wordK 6), .slice none 0 0], .slice (some ⟨w.heap.size + 1 + 5, 0, none⟩) 1 1, .agg #[.string (wordK 7), .slice (some ⟨w.heap.size + 1 + 5, 0, none⟩) 1 1], .slice (some ⟨w.heap.size + 1 + 6, 0, none⟩) 1 1, undef, undef, undef, undef, undef, undef, undef, undef], []⟩) (by kernel_rfl) ?_
  refine wpList_buildTo rfl 68 _ rfl (some 15) rfl #[.string (wordK 8), .slice (some ⟨w.heap.size + 1 + 6, 0, none⟩) 1 1] (by kernel_rfl) ?_
  refine wpList_frame (a' := ⟨#[.pointer (some ⟨w.heap.size, 0, none⟩), .slice (some ⟨w.heap.size + 1 + 0, 0, none⟩) 2 2, .agg #[.string (wordK 1), .slice (some ⟨w.heap.size + 1 + 0, 0, none⟩) 2 2], .slice (some ⟨w.heap.size + 1 + 1, 0, none⟩) 4 4, .agg #[.string (wordK 2), .slice (some ⟨w.heap.size + 1 + 1, 0, none⟩) 4 4], .slice (some ⟨w.heap.size + 1 + 2, 0, none⟩) 1 1, .agg #[.string (wordK 3), .slice (some ⟨w.heap.size + 1 + 2, 0, none⟩) 1 1], .slice (some ⟨w.heap.size + 1 + 3, 0, none⟩) 3 3, .agg #[.string (wordK 4), .slice (some ⟨w.heap.size + 1 + 3, 0, none⟩) 3 3], .slice (some ⟨w.heap.size + 1 + 4, 0, none⟩) 1 1, .agg #[.string (wordK 5), .slice (some ⟨w.heap.size + 1 + 4, 0, none⟩) 1 1], .agg #[.string (wordK 6), .slice none 0 0], .slice (some ⟨w.heap.size + 1 + 5, 0, none⟩) 1 1, .agg #[.string (wordK 7), .slice (some ⟨w.heap.size + 1 + 5, 0, none⟩) 1 1], .slice (some ⟨w.heap.size + 1 + 6, 0, none⟩) 1 1, .agg #[.string (wordK 8), .slice (some ⟨w.heap.size + 1 + 6, 0, none⟩) 1 1], undef, undef, undef, undef, undef, undef, undef], []⟩) (by kernel_rfl) ?_
  refine Go.Great.wpList_buildSliceTo rfl 22 3 1 _ rfl _ H7.out.1 (some 16) rfl Tryd.underlying22 #[.int .i64 10] (by kernel_rfl) ?_
  have H8 : Hid (ShSt w (W7.alloc (.cells #[Value.int .i64 10] 3)) 8) := H7.out.next [10] rfl
  obtain ⟨W8, hW⟩ : ∃ x, W7.alloc (.cells #[Value.int .i64 10] 3) = x := ⟨_, rfl⟩
  rw [hW] at H8 ⊢
  clear hW
  refine wpList_frame (a' := ⟨#[.pointer (some ⟨w.heap.size, 0, none⟩), .slice (some ⟨w.heap.size + 1 + 0, 0, none⟩) 2 2, .agg #[.string (wordK 1), .slice (some ⟨w.heap.size + 1 + 0, 0, none⟩) 2 2], .slice (some ⟨w.heap.size + 1 + 1, 0, none⟩) 4 4, .agg #[.string (wordK 2), .slice (some ⟨w.heap.size + 1 + 1, 0, none⟩) 4 4], .slice (some ⟨w.heap.size + 1 + 2, 0, none⟩) 1 1, .agg #[.string (wordK 3), .slice (some ⟨w.heap.size + 1 + 2, 0, none⟩) 1 1], .slice (some ⟨w.heap.size + 1 + 3, 0, none⟩) 3 3, .agg #[.string (wordK 4), .slice (some ⟨w.heap.size + 1 + 3, 0, none⟩) 3 3], .slice (some ⟨w.heap.size + 1 + 4, 0, none⟩) 1 1, .agg #[.string (wordK 5), .slice (some ⟨w.heap.size + 1 + 4, 0, none⟩) 1 1], .agg #[.string (wordK 6), .slice none 0 0], .slice (some ⟨w.heap.size + 1 + 5, 0, none⟩) 1 1, .agg #[.string (wordK 7), .slice (some ⟨w.heap.size + 1 + 5, 0, none⟩) 1 1], .slice (some ⟨w.heap.size + 1 + 6, 0, none⟩) 1 1, .agg #[.string (wordK 8), .slice (some ⟨w.heap.size + 1 + 6, 0, none⟩) 1 1], .slice (some ⟨w.heap.size + 1 + 7, 0, none⟩) 1 1, undef, undef, undef, undef, undef, undef], []⟩) (by kernel_rfl) ?_
  refine wpList_buildTo rfl 68 _ rfl (some 17) rfl #[.string (wordK 9), .slice (some ⟨w.heap.size + 1 + 7, 0, none⟩) 1 1] (by kernel_rfl) ?_
  refine wpList_frame (a' := ⟨#[.pointer (some ⟨w.heap.size, 0, none⟩), .slice (some ⟨w.heap.size + 1 + 0, 0, none⟩) 2 2, .agg #[.string (wordK 1), .slice (some ⟨w.heap.size + 1 + 0, 0, none⟩) 2 2], .slice (some ⟨w.heap.size + 1 + 1, 0, none⟩) 4 4, .agg #[.string (wordK 2), .slice (some ⟨w.heap.size + 1 + 1, 0, none⟩) 4 4], .slice (some ⟨w.heap.size + 1 + 2, 0, none⟩) 1 1, .agg #[.string (wordK 3), .slice (some ⟨w.heap.size + 1 + 2, 0, none⟩) 1 1], .slice (some ⟨w.heap.size + 1 + 3, 0, none⟩) 3 3, .agg #[.string (wordK 4), .slice (some ⟨w.heap.size + 1 + 3, 0, none⟩) 3 3], .slice (some ⟨w.heap.size + 1 + 4, 0, none⟩) 1 1, .agg #[.string (wordK 5), .slice (some ⟨w.heap.size + 1 + 4, 0, none⟩) 1 1], .agg #[.string (wordK 6), .slice none 0 0], .slice (some ⟨w.heap.size + 1 + 5, 0, none⟩) 1 1, .agg #[.string (wordK 7), .slice (some ⟨w.heap.size + 1 + 5, 0, none⟩) 1 1], .slice (some ⟨w.heap.size + 1 + 6, 0, none⟩) 1 1, .agg #[.string (wordK 8), .slice (some ⟨w.heap.size + 1 + 6, 0, none⟩) 1 1], .slice (some ⟨w.heap.size + 1 + 7, 0, none⟩) 1 1, .agg #[.string (wordK 9), .slice (some ⟨w.heap.size + 1 + 7, 0, none⟩) 1 1], undef, undef, undef, undef, undef], []⟩) (by kernel_rfl) ?_
  refine Go.Great.wpList_buildSliceTo rfl 22 3 3 _ rfl _ H8.out.1 (some 18) rfl Tryd.underlying22 #[.int .i64 10, .int .i64 11, .int .i64 12] (by kernel_rfl) ?_
  have H9 : Hid (ShSt w (W8.alloc (.cells #[Value.int .i64 10, Value.int .i64 11, Value.int .i64 12] 3)) 9) := H8.out.next [10, 11, 12] rfl
  obtain ⟨W9, hW⟩ : ∃ x, W8.alloc (.cells #[Value.int .i64 10, Value.int .i64 11, Value.int .i64 12] 3) = x := ⟨_, rfl⟩
  rw [hW] at H9 ⊢
  clear hW
  refine wpList_frame (a' := ⟨#[.pointer (some ⟨w.heap.size, 0, none⟩), .slice (some ⟨w.heap.size + 1 + 0, 0, none⟩) 2 2, .agg #[.string (wordK 1), .slice (some ⟨w.heap.size + 1 + 0, 0, none⟩) 2 2], .slice (some ⟨w.heap.size + 1 + 1, 0, none⟩) 4 4, .agg #[.string (wordK 2), .slice (some ⟨w.heap.size + 1 + 1, 0, none⟩) 4 4], .slice (some ⟨w.heap.size + 1 + 2, 0, none⟩) 1 1, .agg #[.string (wordK 3), .slice (some ⟨w.heap.size + 1 + 2, 0, none⟩) 1 1], .slice (some ⟨w.heap.size + 1 + 3, 0, none⟩) 3 3, .agg #[.string (wordK 4), .slice (some ⟨w.heap.size + 1 + 3, 0, none⟩) 3 3], .slice (some ⟨w.heap.size + 1 + 4, 0, none⟩) 1 1, .agg #[.string (wordK 5), .slice (some ⟨w.heap.size + 1 + 4, 0, none⟩) 1 1], .agg #[.string (wordK 6), .slice none 0 0], .slice (some ⟨w.heap.size + 1 + 5, 0, none⟩) 1 1, .agg #[.string (wordK 7), .slice (some ⟨w.heap.size + 1 + 5, 0, none⟩) 1 1], .slice (some ⟨w.heap.size + 1 + 6, 0, none⟩) 1 1, .agg #[.string (wordK 8), .slice (some ⟨w.heap.size + 1 + 6, 0, none⟩) 1 1], .slice (some ⟨w.heap.size + 1 + 7, 0, none⟩) 1 1, .agg #[.string (wordK 9), .slice (some ⟨w.heap.size + 1 + 7, 0, none⟩) 1 1], .slice (some ⟨w.heap.size + 1 + 8, 0, none⟩) 3 3, undef, undef, undef, undef], []⟩) (by kernel_rfl) ?_
  refine wpList_buildTo rfl 68 _ rfl (some 19) rfl #[.string (wordK 10), .slice (some ⟨w.heap.size + 1 + 8, 0, none⟩) 3 3] (by kernel_rfl) ?_
  refine wpList_frame (a' := ⟨#[.pointer (some ⟨w.heap.size, 0, none⟩), .slice (some ⟨w.heap.size + 1 + 0, 0, none⟩) 2 2, .agg #[.string (wordK 1), .slice (some ⟨w.heap.size + 1 + 0, 0, none⟩) 2 2], .slice (some ⟨w.heap.size + 1 + 1, 0, none⟩) 4 4, .agg #[.string (wordK 2), .slice (some ⟨w.heap.size + 1 + 1, 0, none⟩) 4 4], .slice (some ⟨w.heap.size + 1 + 2, 0, none⟩) 1 1, .agg #[.string (wordK 3), .slice (some ⟨w.heap.size + 1 + 2, 0, none⟩) 1 1], .slice (some ⟨w.heap.size + 1 + 3, 0, none⟩) 3 3, .agg #[.string (wordK 4), .slice (some ⟨w.heap.size + 1 + 3, 0, none⟩) 3 3], .slice (some ⟨w.heap.size + 1 + 4, 0, none⟩) 1 1, .agg #[.string (wordK 5), .slice (some ⟨w.heap.size + 1 + 4, 0, none⟩) 1 1], .agg #[.string (wordK 6), .slice none 0 0], .slice (some ⟨w.heap.size + 1 + 5, 0, none⟩) 1 1, .agg #[.string (wordK 7), .slice (some ⟨w.heap.size + 1 + 5, 0, none⟩) 1 1], .slice (some ⟨w.heap.size + 1 + 6, 0, none⟩) 1 1, .agg #[.string (wordK 8), .slice (some ⟨w.heap.size + 1 + 6, 0, none⟩) 1 1], .slice (some ⟨w.heap.size + 1 + 7, 0, none⟩) 1 1, .agg #[.string (wordK 9), .slice (some ⟨w.heap.size + 1 + 7, 0, none⟩) 1 1], .slice (some ⟨w.heap.size + 1 + 8, 0, none⟩) 3 3, .agg #[.string (wordK 10), .slice (some ⟨w.heap.size + 1 + 8, 0, none⟩) 3 3], undef, undef, undef], []⟩) (by kernel_rfl) ?_
  refine wpList_buildTo rfl 68 _ rfl (some 20) rfl #[.string (wordK 11), .slice none 0 0] (by kernel_rfl) ?_
  refine wpList_frame (a' := ⟨#[.pointer (some ⟨w.heap.size, 0, none⟩), .slice (some ⟨w.heap.size + 1 + 0, 0, none⟩) 2 2, .agg #[.string (wordK 1), .slice (some ⟨w.heap.size + 1 + 0, 0, none⟩) 2 2], .slice (some ⟨w.heap.size + 1 + 1, 0, none⟩) 4 4, .agg #[.string (wordK 2), .slice (some ⟨w.heap.size + 1 + 1, 0, none⟩) 4 4], .slice (some ⟨w.heap.size + 1 + 2, 0, none⟩) 1 1, .agg #[.string (wordK 3), .slice (some ⟨w.heap.size + 1 + 2, 0, none⟩) 1 1], .slice (some ⟨w.heap.size + 1 + 3, 0, none⟩) 3 3, .agg #[.string (wordK 4), .slice (some ⟨w.heap.size + 1 + 3, 0, none⟩) 3 3], .slice (some ⟨w.heap.size + 1 + 4, 0, none⟩) 1 1, .agg #[.string (wordK 5), .slice (some ⟨w.heap.size + 1 + 4, 0, none⟩) 1 1], .agg #[.string (wordK 6), .slice none 0 0], .slice (some ⟨w.heap.size + 1 + 5, 0, none⟩) 1 1, .agg #[.string (wordK 7), .slice (some ⟨w.heap.size + 1 + 5, 0, none⟩) 1 1], .slice (some ⟨w.heap.size + 1 + 6, 0, none⟩) 1 1, .agg #[.string (wordK 8), .slice (some ⟨w.heap.size + 1 + 6, 0, none⟩) 1 1], .slice (some ⟨w.heap.size + 1 + 7, 0, none⟩) 1 1, .agg #[.string (wordK 9), .slice (some ⟨w.heap.size + 1 + 7, 0, none⟩) 1 1], .slice (some ⟨w.heap.size + 1 + 8, 0, none⟩) 3 3, .agg #[.string (wordK 10), .slice (some ⟨w.heap.size + 1 + 8, 0, none⟩) 3 3], .agg #[.string (wordK 11), .slice none 0 0], undef, undef], []⟩) (by kernel_rfl) ?_
  refine wpList_buildTo rfl 68 _ rfl (some 21) rfl #[.string (wordK 12), .slice none 0 0] (by kernel_rfl) ?_
  refine wpList_frame (a' := ⟨#[.pointer (some ⟨w.heap.size, 0, none⟩), .slice (some ⟨w.heap.size + 1 + 0, 0, none⟩) 2 2, .agg #[.string (wordK 1), .slice (some ⟨w.heap.size + 1 + 0, 0, none⟩) 2 2], .slice (some ⟨w.heap.size + 1 + 1, 0, none⟩) 4 4, .agg #[.string (wordK 2), .slice (some ⟨w.heap.size + 1 + 1, 0, none⟩) 4 4], .slice (some ⟨w.heap.size + 1 + 2, 0, none⟩) 1 1, .agg #[.string (wordK 3), .slice (some ⟨w.heap.size + 1 + 2, 0, none⟩) 1 1], .slice (some ⟨w.heap.size + 1 + 3, 0, none⟩) 3 3, .agg #[.string (wordK 4), .slice (some ⟨w.heap.size + 1 + 3, 0, none⟩) 3 3], .slice (some ⟨w.heap.size + 1 + 4, 0, none⟩) 1 1, .agg #[.string (wordK 5), .slice (some ⟨w.heap.size + 1 + 4, 0, none⟩) 1 1], .agg #[.string (wordK 6), .slice none 0 0], .slice (some ⟨w.heap.size + 1 + 5, 0, none⟩) 1 1, .agg #[.string (wordK 7), .slice (some ⟨w.heap.size + 1 + 5, 0, none⟩) 1 1], .slice (some ⟨w.heap.size + 1 + 6, 0, none⟩) 1 1, .agg #[.string (wordK 8), .slice (some ⟨w.heap.size + 1 + 6, 0, none⟩) 1 1], .slice (some ⟨w.heap.size + 1 + 7, 0, none⟩) 1 1, .agg #[.string (wordK 9), .slice (some ⟨w.heap.size + 1 + 7, 0, none⟩) 1 1], .slice (some ⟨w.heap.size + 1 + 8, 0, none⟩) 3 3, .agg #[.string (wordK 10), .slice (some ⟨w.heap.size + 1 + 8, 0, none⟩) 3 3], .agg #[.string (wordK 11), .slice none 0 0], .agg #[.string (wordK 12), .slice none 0 0], undef], []⟩) (by kernel_rfl) ?_
  refine wpList_buildTo rfl 69 _ rfl (some 22) rfl (shapesV w.heap.size) (by kernel_rfl) ?_
  refine wpList_frame (a' := ⟨#[.pointer (some ⟨w.heap.size, 0, none⟩), .slice (some ⟨w.heap.size + 1 + 0, 0, none⟩) 2 2, .agg #[.string (wordK 1), .slice (some ⟨w.heap.size + 1 + 0, 0, none⟩) 2 2], .slice (some ⟨w.heap.size + 1 + 1, 0, none⟩) 4 4, .agg #[.string (wordK 2), .slice (some ⟨w.heap.size + 1 + 1, 0, none⟩) 4 4], .slice (some ⟨w.heap.size + 1 + 2, 0, none⟩) 1 1, .agg #[.string (wordK 3), .slice (some ⟨w.heap.size + 1 + 2, 0, none⟩) 1 1], .slice (some ⟨w.heap.size + 1 + 3, 0, none⟩) 3 3, .agg #[.string (wordK 4), .slice (some ⟨w.heap.size + 1 + 3, 0, none⟩) 3 3], .slice (some ⟨w.heap.size + 1 + 4, 0, none⟩) 1 1, .agg #[.string (wordK 5), .slice (some ⟨w.heap.size + 1 + 4, 0, none⟩) 1 1], .agg #[.string (wordK 6), .slice none 0 0], .slice (some ⟨w.heap.size + 1 + 5, 0, none⟩) 1 1, .agg #[.string (wordK 7), .slice (some ⟨w.heap.size + 1 + 5, 0, none⟩) 1 1], .slice (some ⟨w.heap.size + 1 + 6, 0, none⟩) 1 1, .agg #[.string (wordK 8), .slice (some ⟨w.heap.size + 1 + 6, 0, none⟩) 1 1], .slice (some ⟨w.heap.size + 1 + 7, 0, none⟩) 1 1, .agg #[.string (wordK 9), .slice (some ⟨w.heap.size + 1 + 7, 0, none⟩) 1 1], .slice (some ⟨w.heap.size + 1 + 8, 0, none⟩) 3 3, .agg #[.string (wordK 10), .slice (some ⟨w.heap.size + 1 + 8, 0, none⟩) 3 3], .agg #[.string (wordK 11), .slice none 0 0], .agg #[.string (wordK 12), .slice none 0 0], .agg (shapesV w.heap.size)], []⟩) (by kernel_rfl) ?_
  refine wpList_store_rowTo rfl 69 _ _ rfl rfl w.heap.size (shapesV w.heap.size) (by kernel_rfl) (by kernel_rfl) 69 zeros13 H9.out.2.1 (by kernel_rfl) (by kernel_rfl) (by kernel_rfl) ?_
  have HS := Lib.hid (H9.out.shut)
  obtain ⟨WF, hWF⟩ : ∃ x, W9.setRow w.heap.size (shapesV w.heap.size) = x := ⟨_, rfl⟩
  rw [hWF] at HS ⊢
  clear hWF
  refine wpList_nil ?_
  go_wp2_with fail
  refine bodyPost_ret (v := .agg (shapesV w.heap.size)) (results_cell_row (p := 0) (by kernel_rfl) _ _ w.heap.size 69 (shapesV w.heap.size) (0, 0) _ (by kernel_rfl) HS.out.1 Tryd.underlying69 rfl (by kernel_rfl)) rfl ⟨rfl, fun k h1 h2 => HS.out.2.1 k h1 h2, HS.out.2.2⟩

end Go.Proofs.YthgenobbpaclhaaDoor

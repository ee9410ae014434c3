/- Scripts, the program's: a line's words and its text: bounds; the library's Join. -/
import Derived.Test.YthgenobbpaclhaaDoorZ5
import Derived.Test.YthgenobbpaclhaaDoorX9
set_option linter.unusedVariables false
set_option linter.unusedSimpArgs false
set_option linter.unnecessarySimpa false
namespace Go.Proofs.YthgenobbpaclhaaDoor
open Go.RowKit Go.Shelf
attribute [local go_sem] Oper.semAt_some

theorem fZ_sm {x : StepD} (h : StepSm x) (f : Nat) : StepSm (fZ f x) := by
  obtain ⟨h1, h2, h3, h4, h5, h6, h7, h8, h9, h10, h11, h12, h13, h14, h15, h16⟩ := h
  have z : I64 0 := ⟨by decide, by decide⟩
  unfold fZ
  split <;> (constructor <;> first | assumption | exact z | (show (0 : Nat) ≤ 1048576; decide) | (intro n hn; cases hn) | exact ⟨Int.le_refl 0, by show (0 : Int) ≤ 255; decide⟩)
theorem num_size {n : Int} (h : I64 n) : (numT n).size ≤ 300 := by
  have h1 := (text_size (v := (1, n, eB)) rfl h.1 h.2).1
  rwa [textV_one] at h1
theorem quo_size (s : ByteArray) : (quoT s).size ≤ 4 * s.size + 2 := quote_size s
theorem textV_size {a : AttrD} (h : AttrSm a) : (textV a.2).size ≤ 4194306 := by
  obtain ⟨nm, k, n, s⟩ := a
  obtain ⟨h1, h2, h3⟩ := h
  dsimp only at *
  by_cases k1 : k = 1
  · subst k1
    rw [textV_one]
    have := num_size h3
    omega
  · by_cases k2 : k = 2
    · subst k2
      rw [textV_two]
      have := quo_size s
      omega
    · have e : textV (k, n, s) = { data := #[63] } := by unfold textV; rw [if_neg k1, if_neg k2]
      rw [e]
      show (1 : Nat) ≤ _
      decide
theorem attrsW_len : ∀ l : List AttrD, (l.flatMap attrW).length = 2 * l.length
  | [] => rfl
  | a :: l => by rw [List.flatMap_cons, List.length_append, attrsW_len l, List.length_cons]; simp [attrW]; omega
theorem fW_len {x : StepD} (h : StepSm x) (f : Nat) : (fW f x).length ≤ 2097153 ∧ 0 < (fW f x).length := by
  have h1 := h.plen
  have h2 := h.alen
  unfold fW
  split
  case h_2 => unfold listW; rw [List.length_cons, List.length_map]; omega
  case h_6 => unfold attrsW; rw [List.length_cons, attrsW_len]; omega
  all_goals simp
theorem fW_size {x : StepD} (h : StepSm x) (f : Nat) : ∀ u ∈ fW f x, u.size ≤ 4194306 := by
  have nb : ∀ n, I64 n → (numT n).size ≤ 4194306 := fun n hn => by have := num_size hn; omega
  have nl : ∀ n : Nat, n ≤ 1048576 → (numT (n : Int)).size ≤ 4194306 := fun n hn => nb _ ⟨by omega, by omega⟩
  have qb : ∀ s : ByteArray, s.size ≤ 1048576 → (quoT s).size ≤ 4194306 := fun s hs => by have := quo_size s; omega
  intro u hu
  unfold fW at hu
  split at hu
  · simp at hu; rw [hu]; exact qb _ h.text
  · unfold listW at hu
    rcases List.mem_cons.1 hu with rfl | hu
    · exact nl _ h.plen
    · obtain ⟨n, hn, rfl⟩ := List.mem_map.1 hu; exact nb _ (h.place n hn)
  · simp at hu; rw [hu]; exact nb _ h.source
  · simp at hu; rw [hu]; exact nb _ h.time
  · simp at hu; rw [hu]; exact qb _ h.type
  · unfold attrsW at hu
    rcases List.mem_cons.1 hu with rfl | hu
    · exact nl _ h.alen
    · obtain ⟨a, ha, hu⟩ := List.mem_flatMap.1 hu
      have hs := h.attrs a ha
      unfold attrW at hu
      simp at hu
      rcases hu with rfl | rfl
      · exact qb _ hs.1
      · exact textV_size hs
  · simp at hu; rw [hu]; exact nb _ h.pattern
  · simp at hu; rw [hu]; exact nb _ h.op
  · simp at hu; rw [hu]; exact nb _ h.dest
  · simp at hu; rw [hu]; exact nb _ h.broker
  · simp at hu; rw [hu]; exact nb _ h.number
  · simp at hu; rw [hu]; exact nb _ h.at_
  · simp at hu; rw [hu]; have := h.wth; exact nb _ ⟨by omega, by omega⟩
theorem jt_len (ws : List ByteArray) (b : Nat) (h : ∀ u ∈ ws, u.size ≤ b) : (Lib.joinTail [32] (ws.map (·.data.toList))).length ≤ ws.length * (b + 1) := by
  induction ws with
  | nil => simp [Lib.joinTail]
  | cons t ts ih =>
    have h1 := h t (by simp)
    have h2 := ih (fun u hu => h u (by simp [hu]))
    unfold Lib.joinTail at h2 ⊢
    rw [List.map_cons, List.map_cons, List.flatten_cons, List.length_append, List.length_cons, Nat.succ_mul]
    have h3 : (([32] : List UInt8) ++ t.data.toList).length = t.size + 1 := by rw [List.length_append, Array.length_toList]; show 1 + t.size = _; omega
    omega
theorem join_len (ws : List ByteArray) (b : Nat) (h : ∀ u ∈ ws, u.size ≤ b) : (Lib.join (ws.map (·.data.toList)) [32]).length ≤ ws.length * (b + 1) := by
  cases ws with
  | nil => simp [Lib.join_nil]
  | cons t ts =>
    have h1 := h t (by simp)
    have h2 := jt_len ts b (fun u hu => h u (by simp [hu]))
    rw [List.map_cons, Lib.join_cons, List.length_append, List.length_cons, Array.length_toList, Nat.succ_mul]
    have : t.data.size = t.size := rfl
    omega
theorem joinT_size (ws : List ByteArray) (b : Nat) (h : ∀ u ∈ ws, u.size ≤ b) : (joinT ws).size ≤ ws.length * (b + 1) := by
  have := join_len ws b h
  show (Lib.join (ws.map (·.data.toList)) [32]).toArray.size ≤ _
  simpa using this
/-- The library's Join of the row of texts. -/
theorem join_any (v : Value) (ws : List ByteArray) (base : Nat) (W : World) (ho : OwnS W base v ws) (hl : (Lib.join (ws.map (·.data.toList)) [32]).length ≤ 140737488355328) (hm : ws.length ≤ 140737488355328) :
    Calls Tryd.prog 24 #[v, .string { data := #[32] }] W fun e w' => e = .returned (.string (joinT ws)) ∧ Kept [] W w' := by
  rcases ho.2 with ⟨rfl, h0⟩ | ⟨g, cap, cur, rfl, hb, hg, hcap, _, _, _⟩
  · have hL : ws = [] := List.eq_nil_of_length_eq_zero h0
    subst hL
    refine (Tryd.strings_Join_none none 0 { data := #[32] } W).mono ?_
    rintro e w' ⟨rfl, rfl⟩
    exact ⟨rfl, Kept.refl _ _⟩
  · have h := Tryd.strings_Join g 0 cap ws { data := #[32] } W (fun j x hx => by
      have hc := World.ownsRow.cells ho (g := g) rfl j (.string x) (by unfold cW; rw [List.getElem?_map, hx]; rfl)
      have ha : (⟨g, 0, none⟩ : Addr).add j = ⟨g, 0 + j, none⟩ := by unfold Addr.add; split <;> simp_all
      rwa [ha] at hc) (Array.getElem?_eq_some_iff.1 hg).1 hm hcap (by show (Lib.join (ws.map (·.data.toList)) [32]).length ≤ _; exact hl)
    refine h.mono ?_
    rintro e w' ⟨rfl, hk⟩
    exact ⟨rfl, Kept.of_below hk⟩

end Go.Proofs.YthgenobbpaclhaaDoor

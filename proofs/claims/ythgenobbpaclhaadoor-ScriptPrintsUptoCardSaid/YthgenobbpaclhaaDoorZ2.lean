/- Scripts: a line says its words, and the words say the step (plain laws). -/
import Derived.Test.YthgenobbpaclhaaDoorZ1
import Derived.Test.YthgenobbpaclhaaDoorX7
set_option linter.unusedVariables false
set_option linter.unusedSimpArgs false
set_option linter.unnecessarySimpa false
namespace Go.Proofs.YthgenobbpaclhaaDoor
open Go.RowKit Go.Shelf

theorem esc_head (c : Int) : ∃ d r, escI c = d :: r ∧ d ≠ 34 := by
  unfold escI
  split
  · exact ⟨_, _, rfl, by decide⟩
  · split
    · exact ⟨_, _, rfl, by decide⟩
    · exact ⟨_, _, rfl, by omega⟩
theorem esc_split : ∀ (X Y r r' : List Int), X.flatMap escI ++ 34 :: r = Y.flatMap escI ++ 34 :: r' → (∀ c ∈ X, 0 ≤ c ∧ c < 256) → (∀ c ∈ Y, 0 ≤ c ∧ c < 256) → X = Y ∧ r = r'
  | [], [], r, r', h, _, _ => by simpa using h
  | [], y :: ys, r, r', h, _, _ => by
    obtain ⟨d, q, he, hd⟩ := esc_head y
    rw [List.flatMap_cons, he] at h
    simp at h
    exact absurd h.1.symm hd
  | x :: xs, [], r, r', h, _, _ => by
    obtain ⟨d, q, he, hd⟩ := esc_head x
    rw [List.flatMap_cons, he] at h
    simp at h
    exact absurd h.1 hd
  | x :: xs, y :: ys, r, r', h, hX, hY => by
    have ih := esc_split xs ys r r'
    have bx := hX x (by simp)
    have by_ := hY y (by simp)
    have iX : ∀ c ∈ xs, 0 ≤ c ∧ c < 256 := fun c hc => hX c (by simp [hc])
    have iY : ∀ c ∈ ys, 0 ≤ c ∧ c < 256 := fun c hc => hY c (by simp [hc])
    rw [List.flatMap_cons, List.flatMap_cons, List.append_assoc, List.append_assoc] at h
    obtain ⟨R, hR⟩ : ∃ R, xs.flatMap escI ++ 34 :: r = R := ⟨_, rfl⟩
    obtain ⟨T, hT⟩ : ∃ T, ys.flatMap escI ++ 34 :: r' = T := ⟨_, rfl⟩
    rw [hR, hT] at h
    have key : x = y ∧ R = T := by
      unfold escI at h
      by_cases a1 : x = 34 ∨ x = 92
      · rw [if_pos a1] at h
        by_cases b1 : y = 34 ∨ y = 92
        · rw [if_pos b1] at h
          simp only [List.cons_append, List.nil_append, List.cons.injEq, true_and] at h
          exact h
        · rw [if_neg b1] at h
          by_cases b2 : y < 32 ∨ 126 < y
          · rw [if_pos b2] at h
            simp only [List.cons_append, List.nil_append, List.cons.injEq, true_and] at h
            omega
          · rw [if_neg b2] at h
            simp only [List.cons_append, List.nil_append, List.cons.injEq, true_and] at h
            omega
      · rw [if_neg a1] at h
        by_cases a2 : x < 32 ∨ 126 < x
        · rw [if_pos a2] at h
          by_cases b1 : y = 34 ∨ y = 92
          · rw [if_pos b1] at h
            simp only [List.cons_append, List.nil_append, List.cons.injEq, true_and] at h
            omega
          · rw [if_neg b1] at h
            by_cases b2 : y < 32 ∨ 126 < y
            · rw [if_pos b2] at h
              simp only [List.cons_append, List.nil_append, List.cons.injEq, true_and] at h
              have e1 := hexI_un _ _ (by omega) (by omega) (by omega) (by omega) h.1
              have e2 := hexI_un _ _ (by omega) (by omega) (by omega) (by omega) h.2.1
              exact ⟨by omega, h.2.2⟩
            · rw [if_neg b2] at h
              simp only [List.cons_append, List.nil_append, List.cons.injEq, true_and] at h
              omega
        · rw [if_neg a2] at h
          by_cases b1 : y = 34 ∨ y = 92
          · rw [if_pos b1] at h
            simp only [List.cons_append, List.nil_append, List.cons.injEq, true_and] at h
            omega
          · rw [if_neg b1] at h
            by_cases b2 : y < 32 ∨ 126 < y
            · rw [if_pos b2] at h
              simp only [List.cons_append, List.nil_append, List.cons.injEq, true_and] at h
              omega
            · rw [if_neg b2] at h
              simp only [List.cons_append, List.nil_append, List.cons.injEq, true_and] at h
              exact h
    obtain ⟨rfl, hRT⟩ := key
    obtain ⟨rfl, rfl⟩ := ih (by rw [hR, hT, hRT]) iX iY
    exact ⟨rfl, rfl⟩

/-- A word with no blank in it, and no quotes at its head. -/
def PlainI (t : List Int) : Prop := t ≠ [] ∧ t.head? ≠ some 34 ∧ ∀ c ∈ t, c ≠ 32
def Tok (t : List Int) : Prop := PlainI t ∨ ∃ s : ByteArray, t = 34 :: ((bI s).flatMap escI ++ [34])
/-- The end, or a blank. -/
def EndI (r : List Int) : Prop := r = [] ∨ r.head? = some 32
theorem plain_split : ∀ (t t' r r' : List Int), (∀ c ∈ t, c ≠ 32) → (∀ c ∈ t', c ≠ 32) → EndI r → EndI r' → t ++ r = t' ++ r' → t = t' ∧ r = r'
  | [], [], r, r', _, _, _, _, h => ⟨rfl, by simpa using h⟩
  | [], c :: t', r, r', _, h2, h3, _, h => by
    simp at h
    subst h
    rcases h3 with h3 | h3
    · cases h3
    · simp at h3
      exact absurd h3 (h2 c (by simp))
  | c :: t, [], r, r', h1, _, _, h4, h => by
    simp at h
    subst h
    rcases h4 with h4 | h4
    · cases h4
    · simp at h4
      exact absurd h4 (h1 c (by simp))
  | c :: t, d :: t', r, r', h1, h2, h3, h4, h => by
    simp at h
    obtain ⟨rfl, h⟩ := h
    obtain ⟨rfl, rfl⟩ := plain_split t t' r r' (fun c hc => h1 c (by simp [hc])) (fun c hc => h2 c (by simp [hc])) h3 h4 h
    exact ⟨rfl, rfl⟩
theorem tok_split {t t' r r' : List Int} (h1 : Tok t) (h2 : Tok t') (h3 : EndI r) (h4 : EndI r') (h : t ++ r = t' ++ r') : t = t' ∧ r = r' := by
  rcases h1 with ⟨a1, a2, a3⟩ | ⟨s, rfl⟩
  · rcases h2 with ⟨b1, b2, b3⟩ | ⟨s', rfl⟩
    · exact plain_split t t' r r' a3 b3 h3 h4 h
    · cases t with
      | nil => exact absurd rfl a1
      | cons c t => simp at h a2; exact absurd h.1 a2
  · rcases h2 with ⟨b1, b2, b3⟩ | ⟨s', rfl⟩
    · cases t' with
      | nil => exact absurd rfl b1
      | cons c t => simp at h b2; exact absurd h.1.symm b2
    · simp only [List.cons_append, List.append_assoc, List.cons.injEq, true_and, List.nil_append] at h
      obtain ⟨e, rfl⟩ := esc_split _ _ _ _ h (bI_byte s) (bI_byte s')
      rw [e]
      exact ⟨rfl, rfl⟩
def tailI (ts : List (List Int)) : List Int := ts.flatMap (32 :: ·)
theorem tailI_cons (t : List Int) (ts : List (List Int)) : tailI (t :: ts) = 32 :: (t ++ tailI ts) := rfl
theorem tailI_end (ts : List (List Int)) : EndI (tailI ts) := by
  cases ts with
  | nil => exact .inl rfl
  | cons t ts => exact .inr rfl
theorem tail_inj : ∀ (ts ts' : List (List Int)), (∀ t ∈ ts, Tok t) → (∀ t ∈ ts', Tok t) → tailI ts = tailI ts' → ts = ts'
  | [], [], _, _, _ => rfl
  | [], t :: ts, _, _, h => by rw [tailI_cons] at h; cases h
  | t :: ts, [], _, _, h => by rw [tailI_cons] at h; cases h
  | t :: ts, t' :: ts', h1, h2, h => by
    rw [tailI_cons, tailI_cons] at h
    obtain ⟨rfl, e⟩ := tok_split (h1 t (by simp)) (h2 t' (by simp)) (tailI_end ts) (tailI_end ts') (List.cons.inj h).2
    rw [tail_inj ts ts' (fun x hx => h1 x (by simp [hx])) (fun x hx => h2 x (by simp [hx])) e]
def JI : List (List Int) → List Int
  | [] => []
  | t :: ts => t ++ tailI ts
theorem JI_inj {a b : List Int} {ts ts' : List (List Int)} (h1 : ∀ t ∈ a :: ts, Tok t) (h2 : ∀ t ∈ b :: ts', Tok t) (h : JI (a :: ts) = JI (b :: ts')) : a :: ts = b :: ts' := by
  obtain ⟨rfl, e⟩ := tok_split (h1 a (by simp)) (h2 b (by simp)) (tailI_end ts) (tailI_end ts') h
  rw [tail_inj ts ts' (fun x hx => h1 x (by simp [hx])) (fun x hx => h2 x (by simp [hx])) e]
def bL (l : List UInt8) : List Int := l.map fun b => (b.toNat : Int)
theorem bL_app (l m : List UInt8) : bL (l ++ m) = bL l ++ bL m := List.map_append
theorem bL_tail (ws : List ByteArray) : bL (Lib.joinTail [32] (ws.map (·.data.toList))) = tailI (ws.map bI) := by
  induction ws with
  | nil => rfl
  | cons t ts ih =>
    unfold Lib.joinTail at ih ⊢
    rw [List.map_cons, List.map_cons, List.flatten_cons, bL_app, ih, List.map_cons, tailI_cons]
    rfl
theorem bI_join (t : ByteArray) (ts : List ByteArray) : bI (joinT (t :: ts)) = JI (bI t :: ts.map bI) := by
  show bL (Lib.join ((t :: ts).map (·.data.toList)) [32]) = _
  rw [List.map_cons, Lib.join_cons, bL_app, bL_tail]
  rfl
theorem bI_maps : ∀ (a b : List ByteArray), a.map bI = b.map bI → a = b
  | [], [], _ => rfl
  | [], _ :: _, h => by simp at h
  | _ :: _, [], h => by simp at h
  | x :: a, y :: b, h => by
    simp only [List.map_cons, List.cons.injEq] at h
    rw [bI_inj h.1, bI_maps a b h.2]
theorem join_words {t t' : ByteArray} {ts ts' : List ByteArray} (h1 : ∀ u ∈ t :: ts, Tok (bI u)) (h2 : ∀ u ∈ t' :: ts', Tok (bI u)) (h : joinT (t :: ts) = joinT (t' :: ts')) : t :: ts = t' :: ts' := by
  have h := congrArg bI h
  rw [bI_join, bI_join] at h
  have := JI_inj (a := bI t) (b := bI t') (ts := ts.map bI) (ts' := ts'.map bI) (fun x hx => by
    rcases List.mem_cons.1 hx with rfl | hx
    · exact h1 t (by simp)
    · obtain ⟨u, hu, rfl⟩ := List.mem_map.1 hx
      exact h1 u (by simp [hu])) (fun x hx => by
    rcases List.mem_cons.1 hx with rfl | hx
    · exact h2 t' (by simp)
    · obtain ⟨u, hu, rfl⟩ := List.mem_map.1 hx
      exact h2 u (by simp [hu])) h
  exact bI_maps (t :: ts) (t' :: ts') (by simpa using this)

theorem tok_num (n : Int) : Tok (bI (numT n)) := by
  refine .inl ?_
  have e : bI (numT n) = (Lib.itoa n).map fun b => (b.toNat : Int) := rfl
  have hd : ∀ c ∈ bI (numT n), c = 45 ∨ (48 ≤ c ∧ c ≤ 57) := by
    intro c hc
    rw [e] at hc
    obtain ⟨b, hb, rfl⟩ := List.mem_map.1 hc
    unfold Lib.itoa at hb
    split at hb
    · rcases List.mem_cons.1 hb with rfl | hb
      · exact .inl rfl
      · have := dec_digits _ b hb; exact .inr (by omega)
    · have := dec_digits _ b hb; exact .inr (by omega)
  refine ⟨?_, ?_, fun c hc h => ?_⟩
  · rw [e]
    unfold Lib.itoa
    split
    · simp
    · simpa using dec_ne _
  · intro h
    have := hd 34 (List.mem_of_mem_head? h)
    omega
  · have := hd c hc
    omega
theorem tok_quo (s : ByteArray) : Tok (bI (quoT s)) := .inr ⟨s, by unfold quoT; rw [bI_nums _ (quoteI_byte s), quoteI_eq]⟩
theorem tok_val {v : ValD} (h : okV v = true) : Tok (bI (textV v)) := by
  rcases okV_ways h with ⟨h1, _⟩ | ⟨h1, _⟩
  · rw [textV_int h1]; exact tok_num _
  · rw [textV_str h1]; exact tok_quo _
theorem tok_word {k : Int} (h1 : 1 ≤ k) (h2 : k ≤ 12) : Tok (bI (wordK k)) := by
  refine .inl ?_
  rcases kinds h1 h2 with rfl | rfl | rfl | rfl | rfl | rfl | rfl | rfl | rfl | rfl | rfl | rfl <;> (unfold PlainI; decide)
theorem tok_all {x : StepD} (h1 : 1 ≤ x.kind) (h2 : x.kind ≤ 12) (h : allOk x = true) : ∀ u ∈ allW x, Tok (bI u) := by
  intro u hu
  unfold allW at hu
  rcases List.mem_cons.1 hu with rfl | hu
  · exact tok_word h1 h2
  · obtain ⟨f, hf, hu⟩ := List.mem_flatMap.1 hu
    unfold allOk at h
    have hok := List.all_eq_true.1 h f hf
    unfold fW at hu
    split at hu
    · simp at hu; rw [hu]; exact tok_quo _
    · unfold listW at hu
      rcases List.mem_cons.1 hu with rfl | hu
      · exact tok_num _
      · obtain ⟨n, _, rfl⟩ := List.mem_map.1 hu; exact tok_num _
    · simp at hu; rw [hu]; exact tok_num _
    · simp at hu; rw [hu]; exact tok_num _
    · simp at hu; rw [hu]; exact tok_quo _
    · unfold attrsW at hu
      rcases List.mem_cons.1 hu with rfl | hu
      · exact tok_num _
      · obtain ⟨a, ha, hu⟩ := List.mem_flatMap.1 hu
        have hoa : attrOk a = true := List.all_eq_true.1 hok a ha
        unfold attrOk at hoa
        simp at hoa
        unfold attrW at hu
        simp at hu
        rcases hu with rfl | rfl
        · exact tok_quo _
        · exact tok_val hoa.1
    all_goals (simp at hu; rw [hu]; exact tok_num _)

def AttrRg (a : AttrD) : Prop := I64 a.2.2.1
structure StepRg (x : StepD) : Prop where
  place : ∀ n ∈ x.place, I64 n
  plen : x.place.length ≤ 9223372036854775807
  source : I64 x.source
  time : I64 x.time
  attrs : ∀ a ∈ x.attrs, AttrRg a
  alen : x.attrs.length ≤ 9223372036854775807
  pattern : I64 x.pattern
  op : I64 x.op
  dest : I64 x.dest
  broker : I64 x.broker
  number : I64 x.number
  at_ : I64 x.at_
  wth : I64 x.wth
theorem num_inj {n m : Int} (hn : I64 n) (hm : I64 m) (h : numT n = numT m) : n = m := by
  have e : Lib.itoa n = Lib.itoa m := by
    have := congrArg (fun b : ByteArray => b.data.toList) h
    simpa [numT] using this
  have h1 := parse_itoa n hn.1 hn.2
  rw [e, parse_itoa m hm.1 hm.2] at h1
  injection h1 with h1
  exact h1.symm
theorem quo_inj {a b : ByteArray} (h : quoT a = quoT b) : a = b := quote_inj h
theorem nums_inj : ∀ (l m : List Int), (∀ n ∈ l, I64 n) → (∀ n ∈ m, I64 n) → l.map numT = m.map numT → l = m
  | [], [], _, _, _ => rfl
  | [], _ :: _, _, _, h => by simp at h
  | _ :: _, [], _, _, h => by simp at h
  | x :: l, y :: m, h1, h2, h => by
    simp only [List.map_cons, List.cons.injEq] at h
    rw [num_inj (h1 x (by simp)) (h2 y (by simp)) h.1, nums_inj l m (fun n hn => h1 n (by simp [hn])) (fun n hn => h2 n (by simp [hn])) h.2]
theorem val_inj {a b : ValD} (ha : okV a = true) (hb : okV b = true) (ra : I64 a.2.1) (rb : I64 b.2.1) (h : textV a = textV b) : a = b :=
  says_one (s := textV b) ⟨ha, ra.1, ra.2, h⟩ ⟨hb, rb.1, rb.2, rfl⟩
theorem attrs_inj : ∀ (l m : List AttrD), (∀ a ∈ l, AttrRg a) → (∀ a ∈ m, AttrRg a) → attrsOk l = true → attrsOk m = true → l.flatMap attrW = m.flatMap attrW → l = m
  | [], [], _, _, _, _, _ => rfl
  | [], _ :: _, _, _, _, _, h => by simp [attrW] at h
  | _ :: _, [], _, _, _, _, h => by simp [attrW] at h
  | x :: l, y :: m, h1, h2, o1, o2, h => by
    unfold attrsOk at o1 o2
    rw [List.all_cons, Bool.and_eq_true] at o1 o2
    simp only [List.flatMap_cons, attrW, List.cons_append, List.nil_append, List.cons.injEq] at h
    obtain ⟨e1, e2, e3⟩ := h
    have a1 := o1.1
    have a2 := o2.1
    unfold attrOk at a1 a2
    rw [Bool.and_eq_true] at a1 a2
    have e4 : x = y := Prod.ext (quo_inj e1) (val_inj a1.1 a2.1 (h1 x (by simp)) (h2 y (by simp)) e2)
    rw [e4, attrs_inj l m (fun n hn => h1 n (by simp [hn])) (fun n hn => h2 n (by simp [hn])) o1.2 o2.2 e3]
theorem word_inj {k l : Int} (h1 : 1 ≤ k) (h2 : k ≤ 12) (h3 : 1 ≤ l) (h4 : l ≤ 12) (h : wordK k = wordK l) : k = l := by
  rcases kinds h1 h2 with rfl | rfl | rfl | rfl | rfl | rfl | rfl | rfl | rfl | rfl | rfl | rfl <;>
    rcases kinds h3 h4 with rfl | rfl | rfl | rfl | rfl | rfl | rfl | rfl | rfl | rfl | rfl | rfl <;> first | rfl | (exact absurd h (by decide))
theorem list_inj {l m : List Int} (h1 : ∀ n ∈ l, I64 n) (h2 : ∀ n ∈ m, I64 n) (h : listW l = listW m) : l = m := nums_inj l m h1 h2 (List.cons.inj h).2
/-- The words say the step. -/
theorem words_step {x y : StepD} (rx : StepRg x) (ry : StepRg y) (h1 : 1 ≤ x.kind) (h2 : x.kind ≤ 12) (h3 : 1 ≤ y.kind) (h4 : y.kind ≤ 12) (bx : x = bareS x) (by_ : y = bareS y) (ox : allOk x = true) (oy : allOk y = true) (h : allW x = allW y) : x = y := by
  unfold allW at h
  obtain ⟨hw, h⟩ := List.cons.inj h
  have hk := word_inj h1 h2 h3 h4 hw
  rw [bx, by_]
  clear bx by_ hw h3 h4
  obtain ⟨k, text, place, source, time, type, attrs, pattern, op, dest, broker, number, at_, wth⟩ := x
  obtain ⟨k', text', place', source', time', type', attrs', pattern', op', dest', broker', number', at', wth'⟩ := y
  dsimp only at hk h1 h2
  subst hk
  obtain ⟨p1, p2, p3, p4, p5, p6, p7, p8, p9, p10, p11, p12, p13⟩ := rx
  obtain ⟨q1, q2, q3, q4, q5, q6, q7, q8, q9, q10, q11, q12, q13⟩ := ry
  dsimp only at *
  rcases kinds h1 h2 with rfl | rfl | rfl | rfl | rfl | rfl | rfl | rfl | rfl | rfl | rfl | rfl
  · simp [fieldsK, fW] at h
    have e1 := quo_inj h.1
    have e2 := list_inj p1 q1 h.2
    subst e1 e2
    rfl
  · simp [fieldsK, fW, attrsW] at h
    obtain ⟨z1, z2, z3, _, z4⟩ := h
    simp [allOk, fieldsK, fOk] at ox oy
    have e1 := num_inj p3 q3 z1
    have e2 := num_inj p4 q4 z2
    have e3 := quo_inj z3
    have e4 := attrs_inj _ _ p5 q5 ox.2 oy.2 z4
    subst e1 e2 e3 e4
    rfl
  · simp [fieldsK, fW] at h
    have e1 := num_inj p3 q3 h
    subst e1
    rfl
  · simp [fieldsK, fW] at h
    have e1 := num_inj p7 q7 h.1
    have e2 := num_inj p8 q8 h.2.1
    have e3 := num_inj p9 q9 h.2.2
    subst e1 e2 e3
    rfl
  · simp [fieldsK, fW] at h
    have e1 := num_inj p10 q10 h
    subst e1
    rfl
  · rfl
  · simp [fieldsK, fW] at h
    have e1 := num_inj p11 q11 h
    subst e1
    rfl
  · simp [fieldsK, fW] at h
    have e1 := num_inj p11 q11 h
    subst e1
    rfl
  · simp [fieldsK, fW] at h
    have e1 := num_inj p11 q11 h
    subst e1
    rfl
  · simp [fieldsK, fW] at h
    have e1 := num_inj p11 q11 h.1
    have e2 := num_inj p12 q12 h.2.1
    have e3 := num_inj p13 q13 h.2.2
    subst e1 e2 e3
    rfl
  · rfl
  · rfl
theorem lineW_some {x : StepD} {ws : List ByteArray} (h : lineW x = some ws) : 1 ≤ x.kind ∧ x.kind ≤ 12 ∧ x = bareS x ∧ allOk x = true ∧ ws = allW x := by
  unfold lineW at h
  split at h
  · rename_i hc
    injection h with h
    exact ⟨hc.1, hc.2.1, hc.2.2.1, hc.2.2.2, h.symm⟩
  · cases h
/-- A line says its step. -/
theorem lineT_inj {x y : StepD} {s : ByteArray} (rx : StepRg x) (ry : StepRg y) (h1 : lineT x = some s) (h2 : lineT y = some s) : x = y := by
  unfold lineT at h1 h2
  cases ha : lineW x with
  | none => rw [ha] at h1; cases h1
  | some ws =>
    cases hb : lineW y with
    | none => rw [hb] at h2; cases h2
    | some us =>
      rw [ha] at h1
      rw [hb] at h2
      obtain ⟨a1, a2, a3, a4, rfl⟩ := lineW_some ha
      obtain ⟨b1, b2, b3, b4, rfl⟩ := lineW_some hb
      simp at h1 h2
      exact words_step rx ry a1 a2 b1 b2 a3 b3 a4 b4 (join_words (t := wordK x.kind) (t' := wordK y.kind) (tok_all a1 a2 a4) (tok_all b1 b2 b4) (h1.trans h2.symm))

end Go.Proofs.YthgenobbpaclhaaDoor

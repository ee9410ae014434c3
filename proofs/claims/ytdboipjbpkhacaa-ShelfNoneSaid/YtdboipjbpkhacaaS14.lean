/- The reference's Clear, Drop, Ending, Beginning. -/
import Derived.Test.YtdboipjbpkhacaaS13
set_option linter.unusedVariables false
set_option linter.unusedSimpArgs false
set_option linter.unnecessarySimpa false
namespace Go.Proofs.Ytdboipjbpkhacaa
open Go.RowKit Go.Shelf

def textIs (s : ByteArray) (x : Th) : Bool := decide (x.2.2 = s)
def RTakePost (w : World) (b : Nat) (m : Int) (L L' : List Th) (e : Ending) (w' : World) : Prop :=
  e = .returned (.int .i64 ((L.length : Int) - (L'.length : Int))) ∧ Kept [b] w w' ∧ ∃ F', RSh w' F' b m L' ∧ ∀ z ∈ F', z = b ∨ w.heap.size ≤ z
theorem rtake_done {w wr : World} {b n lk : Nat} {m : Int} {L L' : List Th} {o AV : Value} {K : Int} (hm0 : 1 ≤ m) (hm1 : m ≤ 16384) (hbl : b < w.heap.size) (hb : Blk w b #[AV, .int .i64 m] 78) (hK : Kept [] w wr) (hn : L.length = n) (hn2 : n ≤ 16384)
    (hlk : lk = L'.length) (hlk2 : lk ≤ n) (hown : wr.ownsRow w.heap.size 40 3 o lk (cellsT L')) (hk : K = (n : Int) - (lk : Int)) : RTakePost w b m L L' (.returned (.int .i64 K)) (wr.setCell ⟨b, 0, none⟩ o) := by
  have hks : Kept [b] wr (wr.setCell ⟨b, 0, none⟩ o) := (Kept.refl [b] wr).setCell (.inl (by simp)) _
  have hob : o.ownBlock ≠ some b := fun h => by have := (hown.lt b h).1; omega
  subst hlk
  refine ⟨by rw [hk, hn], hK.nil.trans hks, b :: o.ownBlock.toList, ⟨hm0, hm1, by omega, o, (hb.kept hK (by simp)).set 0 _, ?_, rfl, hob⟩, fun z hz => ?_⟩
  · exact ownsRow_keep (rowBase hown (Nat.zero_le _)) hks (fun z hz hzb => by simp at hzb; subst hzb; exact hob hz)
  · simp at hz
    exact hz.imp id (fun hz => (hown.lt z hz).1)

set_option maxRecDepth 100000 in
set_option maxHeartbeats 4000000 in
theorem rclear_any (F : List Nat) (b : Nat) (m : Int) (L : List Th) (h' : Int) (w : World) (h : RSh w F b m L) :
    Calls Try.prog 34 #[.pointer (some ⟨b, 0, none⟩), .int .i64 h'] w (RTakePost w b m L (leftOf (below h') L)) := by
  obtain ⟨i0, z0, hi0, hz0, hz1, hz2, hz3⟩ := thingInfo
  obtain ⟨hm0, hm1, hl, lv, hb, ho, hF, hn⟩ := h
  have c0 := hb.cell 0
  simp at c0
  have HB := Lib.hid hb
  have HO := Lib.hid ho
  have hbl := hb.lt
  obtain ⟨AA, cc, rfl⟩ := own_len ho
  clear ho hF hn hb
  obtain ⟨n, hnl⟩ : ∃ n, L.length = n := ⟨_, rfl⟩
  rw [hnl] at hl c0 HO HB
  have HNL := Lib.hid hnl
  obtain ⟨p, hp⟩ : ∃ p : Th → Bool, below h' = p := ⟨_, rfl⟩
  rw [hp]
  have HP := Lib.hid hp
  have HLE : Hid (∀ k, (leftOf p (L.take k)).length ≤ k) := fun k => Nat.le_trans (left_le _ _) (by rw [List.length_take]; omega)
  clear hnl hp
  go_enter Try.func34, Try.ntmps34
  go_wp2_with fail
  go_loopw [5, 6] (fun o i wr => ∃ (k lk : Nat), k ≤ n ∧ i = .int .i64 k ∧ Kept [] w wr ∧ lk = (leftOf p (L.take k)).length ∧ wr.ownsRow w.heap.size 40 3 o lk (cellsT (leftOf p (L.take k)))) (fun _ i _ => n - (intOf i).toNat)
  case atStart => exact ⟨0, 0, by omega, rfl, Kept.refl _ _, by simp [leftOf], World.ownsRow_nil _ _ _ _⟩
  case round =>
    obtain ⟨k, lk, hk, rfl, hK, hlk, hown⟩ := hrel
    have hlk1 : lk ≤ k := by have := HLE.out k; omega
    have HLK := Lib.hid hlk
    have c1 := hK.cell (by simp) c0
    have hszr := hK.size
    obtain ⟨AN, cn, rfl⟩ := own_len hown
    have HGB : Hid (∀ x, (Value.slice AN lk cn).ownBlock = some x → w.heap.size ≤ x) := fun x hx => (hown.lt x hx).1
    have HOWN := Lib.hid hown
    clear hlk hown
    by_cases hlt : k < n
    · obtain ⟨g, cap, he, hg1, hg2⟩ := HO.out.form (by omega)
      injection he with he1 he2 he3
      subst he1 he3
      obtain ⟨⟨x1, x2, xs⟩, hx⟩ : ∃ x, L[k]? = some x := ⟨_, List.getElem?_eq_getElem (by rw [HNL.out]; exact hlt)⟩
      obtain ⟨q1, q2, q3⟩ := cellsT_get L k _ hx
      have e1 : wr.cell? ⟨g, k * 3, none⟩ = some (.int .i64 x1) := hK.cell (by simp) (by rw [HO.out.cellAt _ (by omega)]; exact q1)
      have e2 : wr.cell? ⟨g, k * 3 + 1, none⟩ = some (.int .i64 x2) := hK.cell (by simp) (by rw [HO.out.cellAt _ (by omega)]; exact q2)
      have e3 : wr.cell? ⟨g, k * 3 + 2, none⟩ = some (.string xs) := hK.cell (by simp) (by rw [HO.out.cellAt _ (by omega)]; exact q3)
      have HX := Lib.hid hx
      clear hx q1 q2 q3 he2
      by_cases hc : x1 < h'
      · have HPT : Hid (p (x1, x2, xs) = true) := by show _ = _; rw [← HP.out]; unfold below; simpa using hc
        go_wp2_with fail
        go_roundw
        case rel => exact ⟨k + 1, lk, by omega, by go_num, hK, by rw [left_hit HX.out HPT.out]; exact HLK.out, by rw [left_hit HX.out HPT.out]; exact HOWN.out⟩
        case measure => simp [intOf]; omega
      · have HPF : Hid (p (x1, x2, xs) = false) := by show _ = _; rw [← HP.out]; unfold below; simpa using hc
        skip
        go_wp2_with (at_builtin; refine wpList_append_own _ rfl _ _ 35 rfl w.heap.size 40 i0 z0 3 32 Try.underlying35 hi0 hz0 hz1 hz2 hz3 (by decide) _ lk (cellsT (leftOf p (L.take k))) rfl (World.ownsRow.alloc HOWN.out _) ⟨wr.heap.size, 0, none⟩ 1 1 [.int .i64 x1, .int .i64 x2, .string xs] rfl rfl (cell_three_new _ _ _ _ _) (by simp [Value.oneCell']) (by unfold maxLen; omega) (by omega) (by simp; omega) ?_)
        intro v' w4 hown4 hgrow4 _
        have hK4 : Kept [] w w4 := (hK.alloc _).grown hgrow4 (fun x hx => .inr (HGB.out x hx))
        have HOWN4 := Lib.hid hown4
        clear hown4 hgrow4
        go_wp2_with fail
        go_roundw
        case rel =>
          refine ⟨k + 1, lk + 1, by omega, by go_num, hK4, by rw [left_miss HX.out HPF.out, List.length_append, ← HLK.out]; rfl, ?_⟩
          rw [left_miss HX.out HPF.out, cellsT_app]
          exact HOWN4.out
        case measure => simp [intOf]; omega
    · have ek : k = n := by omega
      subst ek
      have fb := (HB.out.kept hK (by simp)).free 0
      go_wp2_with fail
      go_ret
      have el : L.take k = L := List.take_of_length_le (by rw [HNL.out]; omega)
      have hlk := HLK.out
      have hown := HOWN.out
      rw [el] at hlk hown
      exact rtake_done hm0 hm1 hbl HB.out hK HNL.out hl hlk hlk1 hown rfl

set_option maxRecDepth 100000 in
set_option maxHeartbeats 4000000 in
theorem rdrop_any (F : List Nat) (b : Nat) (m : Int) (L : List Th) (s : ByteArray) (w : World) (h : RSh w F b m L) :
    Calls Try.prog 36 #[.pointer (some ⟨b, 0, none⟩), .string s] w (RTakePost w b m L (leftOf (textIs s) L)) := by
  obtain ⟨i0, z0, hi0, hz0, hz1, hz2, hz3⟩ := thingInfo
  obtain ⟨hm0, hm1, hl, lv, hb, ho, hF, hn⟩ := h
  have c0 := hb.cell 0
  simp at c0
  have HB := Lib.hid hb
  have HO := Lib.hid ho
  have hbl := hb.lt
  obtain ⟨AA, cc, rfl⟩ := own_len ho
  clear ho hF hn hb
  obtain ⟨n, hnl⟩ : ∃ n, L.length = n := ⟨_, rfl⟩
  rw [hnl] at hl c0 HO HB
  have HNL := Lib.hid hnl
  obtain ⟨p, hp⟩ : ∃ p : Th → Bool, textIs s = p := ⟨_, rfl⟩
  rw [hp]
  have HP := Lib.hid hp
  have HLE : Hid (∀ k, (leftOf p (L.take k)).length ≤ k) := fun k => Nat.le_trans (left_le _ _) (by rw [List.length_take]; omega)
  clear hnl hp
  go_enter Try.func36, Try.ntmps36
  go_wp2_with fail
  go_loopw [5, 6] (fun o i wr => ∃ (k lk : Nat), k ≤ n ∧ i = .int .i64 k ∧ Kept [] w wr ∧ lk = (leftOf p (L.take k)).length ∧ wr.ownsRow w.heap.size 40 3 o lk (cellsT (leftOf p (L.take k)))) (fun _ i _ => n - (intOf i).toNat)
  case atStart => exact ⟨0, 0, by omega, rfl, Kept.refl _ _, by simp [leftOf], World.ownsRow_nil _ _ _ _⟩
  case round =>
    obtain ⟨k, lk, hk, rfl, hK, hlk, hown⟩ := hrel
    have hlk1 : lk ≤ k := by have := HLE.out k; omega
    have HLK := Lib.hid hlk
    have c1 := hK.cell (by simp) c0
    have hszr := hK.size
    obtain ⟨AN, cn, rfl⟩ := own_len hown
    have HGB : Hid (∀ x, (Value.slice AN lk cn).ownBlock = some x → w.heap.size ≤ x) := fun x hx => (hown.lt x hx).1
    have HOWN := Lib.hid hown
    clear hlk hown
    by_cases hlt : k < n
    · obtain ⟨g, cap, he, hg1, hg2⟩ := HO.out.form (by omega)
      injection he with he1 he2 he3
      subst he1 he3
      obtain ⟨⟨x1, x2, xs⟩, hx⟩ : ∃ x, L[k]? = some x := ⟨_, List.getElem?_eq_getElem (by rw [HNL.out]; exact hlt)⟩
      obtain ⟨q1, q2, q3⟩ := cellsT_get L k _ hx
      have e1 : wr.cell? ⟨g, k * 3, none⟩ = some (.int .i64 x1) := hK.cell (by simp) (by rw [HO.out.cellAt _ (by omega)]; exact q1)
      have e2 : wr.cell? ⟨g, k * 3 + 1, none⟩ = some (.int .i64 x2) := hK.cell (by simp) (by rw [HO.out.cellAt _ (by omega)]; exact q2)
      have e3 : wr.cell? ⟨g, k * 3 + 2, none⟩ = some (.string xs) := hK.cell (by simp) (by rw [HO.out.cellAt _ (by omega)]; exact q3)
      have HX := Lib.hid hx
      clear hx q1 q2 q3 he2
      by_cases hc : xs = s
      · have HPT : Hid (p (x1, x2, xs) = true) := by show _ = _; rw [← HP.out]; unfold textIs; simpa using hc
        go_wp2_with fail
        go_roundw
        case rel => exact ⟨k + 1, lk, by omega, by go_num, hK, by rw [left_hit HX.out HPT.out]; exact HLK.out, by rw [left_hit HX.out HPT.out]; exact HOWN.out⟩
        case measure => simp [intOf]; omega
      · have HPF : Hid (p (x1, x2, xs) = false) := by show _ = _; rw [← HP.out]; unfold textIs; simpa using hc
        have hne := str_ne hc
        go_wp2_with (at_builtin; refine wpList_append_own _ rfl _ _ 35 rfl w.heap.size 40 i0 z0 3 32 Try.underlying35 hi0 hz0 hz1 hz2 hz3 (by decide) _ lk (cellsT (leftOf p (L.take k))) rfl (World.ownsRow.alloc HOWN.out _) ⟨wr.heap.size, 0, none⟩ 1 1 [.int .i64 x1, .int .i64 x2, .string xs] rfl rfl (cell_three_new _ _ _ _ _) (by simp [Value.oneCell']) (by unfold maxLen; omega) (by omega) (by simp; omega) ?_)
        intro v' w4 hown4 hgrow4 _
        have hK4 : Kept [] w w4 := (hK.alloc _).grown hgrow4 (fun x hx => .inr (HGB.out x hx))
        have HOWN4 := Lib.hid hown4
        clear hown4 hgrow4
        go_wp2_with fail
        go_roundw
        case rel =>
          refine ⟨k + 1, lk + 1, by omega, by go_num, hK4, by rw [left_miss HX.out HPF.out, List.length_append, ← HLK.out]; rfl, ?_⟩
          rw [left_miss HX.out HPF.out, cellsT_app]
          exact HOWN4.out
        case measure => simp [intOf]; omega
    · have ek : k = n := by omega
      subst ek
      have fb := (HB.out.kept hK (by simp)).free 0
      go_wp2_with fail
      go_ret
      have el : L.take k = L := List.take_of_length_le (by rw [HNL.out]; omega)
      have hlk := HLK.out
      have hown := HOWN.out
      rw [el] at hlk hown
      exact rtake_done hm0 hm1 hbl HB.out hK HNL.out hl hlk hlk1 hown rfl

theorem infoStr : (Try.prog.info? 9).map (fun i => (i.zero.map (fun z => z.cells.size), i.size, i.bytes)) = some (some 1, 1, 16) := by kernel_rfl
theorem strInfo : ∃ i z, Try.prog.info? 9 = some i ∧ i.zero = some z ∧ i.size = 1 ∧ i.bytes = 16 ∧ z.cells.size = 1 := by
  have h := infoStr
  rw [Option.map_eq_some_iff] at h
  obtain ⟨i, hi, h⟩ := h
  simp only [Prod.mk.injEq] at h
  obtain ⟨hz, h1, h2⟩ := h
  rw [Option.map_eq_some_iff] at hz
  obtain ⟨z, hz, hs⟩ := hz
  exact ⟨i, z, hi, hz, h1, h2, hs⟩
theorem RdS.of_own {w : World} {base : Nat} {e : TypeId} {v : Value} {n : Nat} {xs : List ByteArray} (h : w.ownsRow base e 1 v n (xs.map .string)) (h2 : xs.length ≤ 16384) : RdS w v xs ∧ n = xs.length := by
  have hl : n = xs.length := by have := h.1; rw [List.length_map] at this; omega
  subst hl
  refine ⟨?_, rfl⟩
  by_cases h0 : xs = []
  · subst h0
    obtain ⟨A, c, rfl⟩ := own_len h
    exact ⟨A, c, rfl, h2, fun hn => absurd rfl hn⟩
  · obtain ⟨g, cap, rfl, _, _⟩ := h.form (List.length_pos_iff.2 h0)
    refine ⟨_, cap, rfl, h2, fun _ => ⟨g, 0, rfl, fun i x hx => ?_⟩⟩
    have hi := (List.getElem?_eq_some_iff.1 hx).1
    rw [Nat.zero_add, h.cellAt _ (by omega), List.getElem?_map, hx]
    rfl
theorem texts_step_hit {p : Int → Int → Bool} {L : List Th} {k : Nat} {x1 x2 : Int} {xs : ByteArray} (hx : L[k]? = some (x1, x2, xs)) (hp : p x1 x2 = true) : textsOf p (L.take (k + 1)) = textsOf p (L.take k) ++ [xs] := by
  obtain ⟨h1, h2⟩ := List.getElem?_eq_some_iff.1 hx
  rw [List.take_succ_eq_append_getElem h1, h2, texts_hit hp]
theorem texts_step_miss {p : Int → Int → Bool} {L : List Th} {k : Nat} {x1 x2 : Int} {xs : ByteArray} (hx : L[k]? = some (x1, x2, xs)) (hp : p x1 x2 = false) : textsOf p (L.take (k + 1)) = textsOf p (L.take k) := by
  obtain ⟨h1, h2⟩ := List.getElem?_eq_some_iff.1 hx
  rw [List.take_succ_eq_append_getElem h1, h2, texts_miss hp]
def RTextsPost (w : World) (xs : List ByteArray) (e : Ending) (w' : World) : Prop := ∃ v, e = .returned v ∧ RdS w' v xs ∧ Kept [] w w'

set_option maxRecDepth 100000 in
set_option maxHeartbeats 4000000 in
theorem rending_any (F : List Nat) (b : Nat) (m : Int) (L : List Th) (h' : Int) (w : World) (h : RSh w F b m L) :
    Calls Try.prog 38 #[.pointer (some ⟨b, 0, none⟩), .int .i64 h'] w (RTextsPost w (textsOf (endsBelow h') L)) := by
  obtain ⟨i0, z0, hi0, hz0, hz1, hz2, hz3⟩ := strInfo
  obtain ⟨hm0, hm1, hl, lv, hb, ho, hF, hn⟩ := h
  have c0 := hb.cell 0
  simp at c0
  have HO := Lib.hid ho
  obtain ⟨AA, cc, rfl⟩ := own_len ho
  clear ho hF hn hb
  obtain ⟨n, hnl⟩ : ∃ n, L.length = n := ⟨_, rfl⟩
  rw [hnl] at hl c0 HO
  have HNL := Lib.hid hnl
  obtain ⟨p, hp⟩ : ∃ p : Int → Int → Bool, endsBelow h' = p := ⟨_, rfl⟩
  rw [hp]
  have HP := Lib.hid hp
  have HLE : Hid (∀ k, (textsOf p (L.take k)).length ≤ k) := fun k => Nat.le_trans (texts_le _ _) (by rw [List.length_take]; omega)
  clear hnl hp
  go_enter Try.func38, Try.ntmps38
  go_wp2_with fail
  go_loopw [5, 6] (fun o i wr => ∃ (k lk : Nat), k ≤ n ∧ i = .int .i64 k ∧ Kept [] w wr ∧ lk = (textsOf p (L.take k)).length ∧ wr.ownsRow w.heap.size 9 1 o lk ((textsOf p (L.take k)).map .string)) (fun _ i _ => n - (intOf i).toNat)
  case atStart => exact ⟨0, 0, by omega, rfl, Kept.refl _ _, by simp [textsOf], by simpa [textsOf] using World.ownsRow_nil _ _ _ _⟩
  case round =>
    obtain ⟨k, lk, hk, rfl, hK, hlk, hown⟩ := hrel
    have hlk1 : lk ≤ k := by have := HLE.out k; omega
    have HLK := Lib.hid hlk
    have c1 := hK.cell (by simp) c0
    have hszr := hK.size
    obtain ⟨AN, cn, rfl⟩ := own_len hown
    have HGB : Hid (∀ x, (Value.slice AN lk cn).ownBlock = some x → w.heap.size ≤ x) := fun x hx => (hown.lt x hx).1
    have HOWN := Lib.hid hown
    clear hlk hown
    by_cases hlt : k < n
    · obtain ⟨g, cap, he, hg1, hg2⟩ := HO.out.form (by omega)
      injection he with he1 he2 he3
      subst he1 he3
      obtain ⟨⟨x1, x2, xs⟩, hx⟩ : ∃ x, L[k]? = some x := ⟨_, List.getElem?_eq_getElem (by rw [HNL.out]; exact hlt)⟩
      obtain ⟨q1, q2, q3⟩ := cellsT_get L k _ hx
      have e1 : wr.cell? ⟨g, k * 3, none⟩ = some (.int .i64 x1) := hK.cell (by simp) (by rw [HO.out.cellAt _ (by omega)]; exact q1)
      have e2 : wr.cell? ⟨g, k * 3 + 1, none⟩ = some (.int .i64 x2) := hK.cell (by simp) (by rw [HO.out.cellAt _ (by omega)]; exact q2)
      have e3 : wr.cell? ⟨g, k * 3 + 2, none⟩ = some (.string xs) := hK.cell (by simp) (by rw [HO.out.cellAt _ (by omega)]; exact q3)
      have HX := Lib.hid hx
      clear hx q1 q2 q3 he2
      by_cases hc : x2 < h'
      · have HPT : Hid (p x1 x2 = true) := by show _ = _; rw [← HP.out]; unfold endsBelow; simpa using hc
        go_wp2_with (at_builtin; refine wpList_append_own _ rfl _ _ 73 rfl w.heap.size 9 i0 z0 1 16 Try.underlying73 hi0 hz0 hz1 hz2 hz3 (by decide) _ lk ((textsOf p (L.take k)).map .string) rfl (World.ownsRow.alloc HOWN.out _) ⟨wr.heap.size, 0, none⟩ 1 1 [.string xs] rfl rfl (cell_one_new _ _ _) (by simp [Value.oneCell']) (by unfold maxLen; omega) (by omega) (by simp; omega) ?_)
        intro v' w4 hown4 hgrow4 _
        have hK4 : Kept [] w w4 := (hK.alloc _).grown hgrow4 (fun x hx => .inr (HGB.out x hx))
        have HOWN4 := Lib.hid hown4
        clear hown4 hgrow4
        go_wp2_with fail
        go_roundw
        case rel =>
          refine ⟨k + 1, lk + 1, by omega, by go_num, hK4, by rw [texts_step_hit HX.out HPT.out, List.length_append, ← HLK.out]; rfl, ?_⟩
          rw [texts_step_hit HX.out HPT.out, List.map_append]
          exact HOWN4.out
        case measure => simp [intOf]; omega
      · have HPF : Hid (p x1 x2 = false) := by show _ = _; rw [← HP.out]; unfold endsBelow; simpa using hc
        go_wp2_with fail
        go_roundw
        case rel => exact ⟨k + 1, lk, by omega, by go_num, hK, by rw [texts_step_miss HX.out HPF.out]; exact HLK.out, by rw [texts_step_miss HX.out HPF.out]; exact HOWN.out⟩
        case measure => simp [intOf]; omega
    · have ek : k = n := by omega
      subst ek
      go_wp2_with fail
      go_ret
      have el : L.take k = L := List.take_of_length_le (by rw [HNL.out]; omega)
      have hlk := HLK.out
      have hown := HOWN.out
      rw [el] at hlk hown
      exact ⟨_, rfl, (RdS.of_own hown (by omega)).1, hK⟩

set_option maxRecDepth 100000 in
set_option maxHeartbeats 4000000 in
theorem rbeginning_any (F : List Nat) (b : Nat) (m : Int) (L : List Th) (h' : Int) (w : World) (h : RSh w F b m L) :
    Calls Try.prog 39 #[.pointer (some ⟨b, 0, none⟩), .int .i64 h'] w (RTextsPost w (textsOf (beginsAbove h') L)) := by
  obtain ⟨i0, z0, hi0, hz0, hz1, hz2, hz3⟩ := strInfo
  obtain ⟨hm0, hm1, hl, lv, hb, ho, hF, hn⟩ := h
  have c0 := hb.cell 0
  simp at c0
  have HO := Lib.hid ho
  obtain ⟨AA, cc, rfl⟩ := own_len ho
  clear ho hF hn hb
  obtain ⟨n, hnl⟩ : ∃ n, L.length = n := ⟨_, rfl⟩
  rw [hnl] at hl c0 HO
  have HNL := Lib.hid hnl
  obtain ⟨p, hp⟩ : ∃ p : Int → Int → Bool, beginsAbove h' = p := ⟨_, rfl⟩
  rw [hp]
  have HP := Lib.hid hp
  have HLE : Hid (∀ k, (textsOf p (L.take k)).length ≤ k) := fun k => Nat.le_trans (texts_le _ _) (by rw [List.length_take]; omega)
  clear hnl hp
  go_enter Try.func39, Try.ntmps39
  go_wp2_with fail
  go_loopw [5, 6] (fun o i wr => ∃ (k lk : Nat), k ≤ n ∧ i = .int .i64 k ∧ Kept [] w wr ∧ lk = (textsOf p (L.take k)).length ∧ wr.ownsRow w.heap.size 9 1 o lk ((textsOf p (L.take k)).map .string)) (fun _ i _ => n - (intOf i).toNat)
  case atStart => exact ⟨0, 0, by omega, rfl, Kept.refl _ _, by simp [textsOf], by simpa [textsOf] using World.ownsRow_nil _ _ _ _⟩
  case round =>
    obtain ⟨k, lk, hk, rfl, hK, hlk, hown⟩ := hrel
    have hlk1 : lk ≤ k := by have := HLE.out k; omega
    have HLK := Lib.hid hlk
    have c1 := hK.cell (by simp) c0
    have hszr := hK.size
    obtain ⟨AN, cn, rfl⟩ := own_len hown
    have HGB : Hid (∀ x, (Value.slice AN lk cn).ownBlock = some x → w.heap.size ≤ x) := fun x hx => (hown.lt x hx).1
    have HOWN := Lib.hid hown
    clear hlk hown
    by_cases hlt : k < n
    · obtain ⟨g, cap, he, hg1, hg2⟩ := HO.out.form (by omega)
      injection he with he1 he2 he3
      subst he1 he3
      obtain ⟨⟨x1, x2, xs⟩, hx⟩ : ∃ x, L[k]? = some x := ⟨_, List.getElem?_eq_getElem (by rw [HNL.out]; exact hlt)⟩
      obtain ⟨q1, q2, q3⟩ := cellsT_get L k _ hx
      have e1 : wr.cell? ⟨g, k * 3, none⟩ = some (.int .i64 x1) := hK.cell (by simp) (by rw [HO.out.cellAt _ (by omega)]; exact q1)
      have e2 : wr.cell? ⟨g, k * 3 + 1, none⟩ = some (.int .i64 x2) := hK.cell (by simp) (by rw [HO.out.cellAt _ (by omega)]; exact q2)
      have e3 : wr.cell? ⟨g, k * 3 + 2, none⟩ = some (.string xs) := hK.cell (by simp) (by rw [HO.out.cellAt _ (by omega)]; exact q3)
      have HX := Lib.hid hx
      clear hx q1 q2 q3 he2
      by_cases hc : h' < x1
      · have HPT : Hid (p x1 x2 = true) := by show _ = _; rw [← HP.out]; unfold beginsAbove; simpa using hc
        go_wp2_with (at_builtin; refine wpList_append_own _ rfl _ _ 73 rfl w.heap.size 9 i0 z0 1 16 Try.underlying73 hi0 hz0 hz1 hz2 hz3 (by decide) _ lk ((textsOf p (L.take k)).map .string) rfl (World.ownsRow.alloc HOWN.out _) ⟨wr.heap.size, 0, none⟩ 1 1 [.string xs] rfl rfl (cell_one_new _ _ _) (by simp [Value.oneCell']) (by unfold maxLen; omega) (by omega) (by simp; omega) ?_)
        intro v' w4 hown4 hgrow4 _
        have hK4 : Kept [] w w4 := (hK.alloc _).grown hgrow4 (fun x hx => .inr (HGB.out x hx))
        have HOWN4 := Lib.hid hown4
        clear hown4 hgrow4
        go_wp2_with fail
        go_roundw
        case rel =>
          refine ⟨k + 1, lk + 1, by omega, by go_num, hK4, by rw [texts_step_hit HX.out HPT.out, List.length_append, ← HLK.out]; rfl, ?_⟩
          rw [texts_step_hit HX.out HPT.out, List.map_append]
          exact HOWN4.out
        case measure => simp [intOf]; omega
      · have HPF : Hid (p x1 x2 = false) := by show _ = _; rw [← HP.out]; unfold beginsAbove; simpa using hc
        go_wp2_with fail
        go_roundw
        case rel => exact ⟨k + 1, lk, by omega, by go_num, hK, by rw [texts_step_miss HX.out HPF.out]; exact HLK.out, by rw [texts_step_miss HX.out HPF.out]; exact HOWN.out⟩
        case measure => simp [intOf]; omega
    · have ek : k = n := by omega
      subst ek
      go_wp2_with fail
      go_ret
      have el : L.take k = L := List.take_of_length_le (by rw [HNL.out]; omega)
      have hlk := HLK.out
      have hown := HOWN.out
      rw [el] at hlk hown
      exact ⟨_, rfl, (RdS.of_own hown (by omega)).1, hK⟩

end Go.Proofs.Ytdboipjbpkhacaa

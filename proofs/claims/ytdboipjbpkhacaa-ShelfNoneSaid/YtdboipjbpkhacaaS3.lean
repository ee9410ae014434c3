/- Take, Clear. -/
import Derived.Test.YtdboipjbpkhacaaS2
import Derived.RangeFuncNested
import Derived.RangeFuncBound
import Derived.RangeFuncCalls
import Derived.RangeFuncLeaves
import Derived.RangeFuncBox
import Derived.Shelf.Abstract
import Derived.Shelf.RegionOpen
import Derived.OwnWalkIn
import Derived.TacticsInMore
import Derived.LoopNIn
import Derived.LoopIn
import Derived.Maps.AppendAt
set_option linter.unusedVariables false
set_option linter.unusedSimpArgs false
set_option linter.unnecessarySimpa false
namespace Go.Proofs.Ytdboipjbpkhacaa
open Go.RowKit Go.Shelf

def leftOf (p : Th → Bool) (L : List Th) : List Th := L.filter (fun x => !p x)
theorem left_hit {p : Th → Bool} {L : List Th} {k : Nat} {x : Th} (hx : L[k]? = some x) (hp : p x = true) : leftOf p (L.take (k + 1)) = leftOf p (L.take k) := by
  obtain ⟨h1, h2⟩ := List.getElem?_eq_some_iff.1 hx
  unfold leftOf
  rw [List.take_succ_eq_append_getElem h1, h2, List.filter_append]; simp [hp]
theorem left_miss {p : Th → Bool} {L : List Th} {k : Nat} {x : Th} (hx : L[k]? = some x) (hp : p x = false) : leftOf p (L.take (k + 1)) = leftOf p (L.take k) ++ [x] := by
  obtain ⟨h1, h2⟩ := List.getElem?_eq_some_iff.1 hx
  unfold leftOf
  rw [List.take_succ_eq_append_getElem h1, h2, List.filter_append]; simp [hp]
theorem left_le (p : Th → Bool) (L : List Th) : (leftOf p L).length ≤ L.length := List.length_filter_le _ _

theorem eqInFN (w : World) (d : Nat) (f : Fn) (fs cs : Array Value) : (Op.equalIn (d + 1) 61 (.func f fs cs) .nilFunc).run Try.prog w = .ok false w := by
  simp [Op.equalIn, run_underlying Try.underlying61]
theorem eqInNN (w : World) (d : Nat) : (Op.equalIn (d + 1) 61 .nilFunc .nilFunc).run Try.prog w = .ok true w := by
  simp [Op.equalIn, run_underlying Try.underlying61]
theorem eqlFN (w : World) (f : Fn) (fs cs : Array Value) : (binOp .eql 61 (.func f fs cs) .nilFunc).run Try.prog w = .ok (.bool false) w := by
  simp only [binOp]
  simp [Op.equal, Op.maxDepth, eqInFN w 9999]
theorem eqlNN (w : World) : (binOp .eql 61 .nilFunc .nilFunc).run Try.prog w = .ok (.bool true) w := by
  simp only [binOp]
  simp [Op.equal, Op.maxDepth, eqInNN w 9999]
attribute [local go_sem] eqlFN eqlNN

theorem Kept.after2 {S T : List Nat} {a b c : World} (h : Go.Proofs.Ytdboipjbpkhacaa.Kept T a b) (k : Kept S b c) (hs : ∀ x ∈ S, x ∈ T ∨ a.heap.size ≤ x) : Kept T a c :=
  ⟨k.os.trans h.os, k.tape.trans h.tape, k.output.trans h.output, Nat.le_trans h.size k.size, fun i hi ht => (k.block i (Nat.lt_of_lt_of_le hi h.size) (fun hS => by
    rcases hs i hS with h1 | h1
    · exact ht h1
    · omega)).trans (h.block i hi ht)⟩

def TakePost (w : World) (b : Nat) (m : Int) (L L' : List Th) (e : Ending) (w' : World) : Prop :=
  e = .returned (.int .i64 ((L.length : Int) - (L'.length : Int))) ∧ Kept [b] w w' ∧ ∃ F', Sh w' F' b m L' ∧ ∀ z ∈ F', z = b ∨ w.heap.size ≤ z

set_option maxRecDepth 100000 in
set_option maxHeartbeats 8000000 in
theorem take_any (F : List Nat) (b : Nat) (m : Int) (L : List Th) (gf : Nat) (cv : Value) (p : Th → Bool) (w : World) (h : Sh w F b m L) (eg : ∀ args w, (callFunc gf args).run Try.prog w = .ok (.enter gf args) w)
    (hok : ∀ (W : World) (x1 x2 : Int) (xs : ByteArray), Kept [b] w W → Calls Try.prog gf #[.agg #[.int .i64 x1, .int .i64 x2], .string xs, cv] W fun e W' => e = .returned (.bool (p (x1, x2, xs))) ∧ Kept [] W W') :
    Calls Try.prog 16 #[.pointer (some ⟨b, 0, none⟩), .func (.func gf) #[] #[cv]] w (TakePost w b m L (leftOf p L)) := by
  obtain ⟨i0, z0, hi0, hz0, hz1, hz2, hz3⟩ := thInfo
  obtain ⟨hm0, hm1, hl, lv, hb, ho, hF, hn⟩ := h
  have c0 := hb.cell 0
  have c1 := hb.cell 1
  simp at c0 c1
  have f1 := hb.free 1
  have HB := Lib.hid hb
  have HO := Lib.hid ho
  have HOK := Lib.hid hok
  have hbl := hb.lt
  obtain ⟨AA, cc, rfl⟩ := own_len ho
  have HN := Lib.hid hn
  clear ho hF hn hok
  obtain ⟨n, hnl⟩ : ∃ n, L.length = n := ⟨_, rfl⟩
  rw [hnl] at hl c1 HO HB HN
  have HNL := Lib.hid hnl
  have HLE : Hid (∀ k, (leftOf p (L.take k)).length ≤ k) := fun k => Nat.le_trans (left_le _ _) (by rw [List.length_take]; omega)
  clear hnl hb
  go_enter Try.func16, Try.ntmps16
  go_wp2_with fail
  have hK0 : Kept [b] w (w.setCell ⟨b, 1, none⟩ (.slice none 0 0)) := (Kept.refl [b] w).setCell (.inl (by simp)) _
  have hB0 := HB.out.set 1 (.slice none 0 0)
  obtain ⟨w0, hw0⟩ : ∃ w0, w.setCell ⟨b, 1, none⟩ (.slice none 0 0) = w0 := ⟨_, rfl⟩
  rw [hw0] at hK0 hB0 ⊢
  have HB0 := Lib.hid hB0
  clear hw0 hB0 c1 f1
  go_loopw [23] (fun i wr => ∃ (k : Nat) (nv : Value) (lk : Nat), k ≤ n ∧ i = .int .i64 k ∧ Kept [b] w wr ∧ Blk wr b #[.int .i64 m, nv] 52 ∧ lk = (leftOf p (L.take k)).length ∧ wr.ownsRow w.heap.size 75 3 nv lk (cellsT (leftOf p (L.take k)))) (fun i _ => n - (intOf i).toNat)
  case atStart => exact ⟨0, .slice none 0 0, 0, by omega, rfl, hK0, HB0.out, by simp [leftOf], World.ownsRow_nil _ _ _ _⟩
  case round =>
    obtain ⟨k, nv, lk, hk, rfl, hK, hB, hlk, hown⟩ := hrel
    have hlk1 : lk ≤ k := by have := HLE.out k; omega
    have HLK := Lib.hid hlk
    have d1 := hB.cell 1
    simp at d1
    have HBR := Lib.hid hB
    have hszr := hK.size
    obtain ⟨AN, cn, rfl⟩ := own_len hown
    have HOWN := Lib.hid hown
    have HNB : Hid ((Value.slice AN lk cn).ownBlock ≠ some b) := fun hx => by have := (hown.lt b hx).1; omega
    clear hlk hown hB
    by_cases hlt : k < n
    · obtain ⟨g, cap, he, hg1, hg2⟩ := HO.out.form (by omega)
      injection he with he1 he2 he3
      subst he1 he3
      obtain ⟨⟨x1, x2, xs⟩, hx⟩ : ∃ x, L[k]? = some x := ⟨_, List.getElem?_eq_getElem (by rw [HNL.out]; exact hlt)⟩
      have hgb : g ≠ b := by
        rintro rfl
        exact HN.out rfl
      obtain ⟨q1, q2, q3⟩ := cellsT_get L k _ hx
      have e1 : wr.cell? ⟨g, k * 3, none⟩ = some (.int .i64 x1) := hK.cell (by simpa using hgb) (by rw [HO.out.cellAt _ (by omega)]; exact q1)
      have e2 : wr.cell? ⟨g, k * 3 + 1, none⟩ = some (.int .i64 x2) := hK.cell (by simpa using hgb) (by rw [HO.out.cellAt _ (by omega)]; exact q2)
      have e3 : wr.cell? ⟨g, k * 3 + 2, none⟩ = some (.string xs) := hK.cell (by simpa using hgb) (by rw [HO.out.cellAt _ (by omega)]; exact q3)
      have HX := Lib.hid hx
      clear hx q1 q2 q3 he2
      go_wp2_with fail
      refine (HOK.out _ x1 x2 xs (hK.alloc _)).mono ?_
      rintro e w4 ⟨rfl, hk4⟩
      have hK4 := (hK.alloc (.cells #[.int .i64 x1, .int .i64 x2, .string xs] 75)).trans hk4.nil
      have hB4 := (HBR.out.alloc (.cells #[.int .i64 x1, .int .i64 x2, .string xs] 75)).kept hk4 (by simp)
      have hY4 := (Blk.new wr #[.int .i64 x1, .int .i64 x2, .string xs] 75).kept hk4 (by simp)
      have hO4 := ownsRow_keep (ownsRow_keep HOWN.out ((Kept.refl [] wr).alloc _) (by simp)) hk4 (by simp)
      cases hpx : p (x1, x2, xs) with
      | true =>
        have HP := Lib.hid hpx
        clear hpx
        go_wp2_with fail
        go_roundw
        case rel => exact ⟨k + 1, _, lk, by omega, by go_num, hK4, hB4, by rw [left_hit HX.out HP.out]; exact HLK.out, by rw [left_hit HX.out HP.out]; exact hO4⟩
        case measure => simp [intOf]; omega
      | false =>
        have HP := Lib.hid hpx
        clear hpx
        have y1 := hY4.cell 0
        have y2 := hY4.cell 1
        have y3 := hY4.cell 2
        simp at y1 y2 y3
        have d4 := hB4.cell 1
        simp at d4
        have HB4 := Lib.hid hB4
        have HO4 := Lib.hid hO4
        have hs4 := hK4.size
        have hbl4 := hB4.lt
        have hyl4 := hY4.lt
        clear hB4 hY4 hO4 d1 e1 e2 e3
        go_wp2_with fail
        go_region_law (refine step_append_lies _ rfl _ _ 50 rfl w.heap.size 75 i0 z0 3 32 Try.underlying50 hi0 hz0 hz1 hz2 hz3 (by decide) (.slice AN lk cn) lk (cellsT (leftOf p (L.take k))) rfl (ownsRow_keep HO4.out (((Kept.refl [] w4).drewN _).alloc _) (by simp)) ⟨w4.heap.size, 0, none⟩ 1 1 [.int .i64 x1, .int .i64 x2, .string xs] rfl rfl (cell_three_at _ _ (by simp) _ _ _ _) (by simp [Value.oneCell']) (by omega) (by unfold maxLen; omega) (by omega) (by simp; omega) _ rfl ?_; intro g5 cap5 w5 hown5 hgrow5 hat5 hlt5; have hk5 := Kept.grownOwn (v := .slice AN lk cn) (((Kept.refl [] w4).drewN _).alloc _) hgrow5; have hb5 := HB4.out.kept hk5 (by simpa using HNB.out); have c5 : w5.cell? ⟨b, 1, none⟩ = some (.slice AN lk cn) := hb5.cell 1; have f5 : w5.frozen? ⟨b, 1, none⟩ = false := hb5.free 1; clear hgrow5)
        all_goals
          go_wp2_with fail
          go_roundw
          case rel =>
            have hgb5 : g5 ≠ b := by
              intro e
              rcases hat5 with h | h
              · rw [e] at h; exact HNB.out h
              · rw [e] at h
                have : w4.heap.size ≤ b := by rw [h]; simp
                omega
            have hks : Kept [b] w5 (w5.setCell ⟨b, 1, none⟩ (.slice (some ⟨g5, 0, none⟩) (lk + 1) cap5)) := (Kept.refl [b] w5).setCell (.inl (by simp)) _
            refine ⟨k + 1, _, lk + 1, by omega, by go_num, (hK4.after2 hk5 (fun z hz => .inr ?_)).trans hks, hb5.set 1 _, ?_, ?_⟩
            · exact (HOWN.out.lt z (by simpa using hz)).1
            · rw [left_miss HX.out HP.out, List.length_append, ← HLK.out]; rfl
            · rw [left_miss HX.out HP.out, cellsT_app]
              exact ownsRow_keep hown5 hks (by intro z hz; simp [Value.ownBlock] at hz; subst hz; simpa using hgb5)
          case measure => simp [intOf]; omega
    · have ek : k = n := by omega
      subst ek
      go_wp2_with fail
      go_ret
      have el : L.take k = L := List.take_of_length_le (by rw [HNL.out]; omega)
      have hlk := HLK.out
      have hown := HOWN.out
      rw [el] at hlk hown
      refine ⟨by rw [HNL.out, ← hlk]; rfl, hK, b :: (Value.slice AN lk cn).ownBlock.toList, ⟨hm0, hm1, by rw [← hlk]; omega, _, HBR.out, by rw [← hlk]; exact rowBase hown (Nat.zero_le _), rfl, HNB.out⟩, fun z hz => ?_⟩
      simp at hz
      exact hz.imp id (fun hz => (hown.lt z hz).1)

theorem take_nil (cv : Value) (w : World) : Calls Try.prog 16 #[.pointer none, cv] w fun e w' => e = .returned (.int .i64 0) ∧ w = w' := by
  go_enter Try.func16, Try.ntmps16
  go_wp2_with fail
  go_ret
  exact ⟨rfl, rfl⟩
theorem take_none (b : Nat) (w : World) : Calls Try.prog 16 #[.pointer (some ⟨b, 0, none⟩), .nilFunc] w fun e w' => e = .returned (.int .i64 0) ∧ w = w' := by
  go_enter Try.func16, Try.ntmps16
  go_wp2_with fail
  go_ret
  exact ⟨rfl, rfl⟩

theorem clear1_any (hb : Nat) (h x1 x2 : Int) (xs : ByteArray) (w : World) (hc : w.cell? ⟨hb, 0, none⟩ = some (.int .i64 h)) :
    Calls Try.prog 31 #[.agg #[.int .i64 x1, .int .i64 x2], .string xs, .pointer (some ⟨hb, 0, none⟩)] w fun e w' => e = .returned (.bool (decide (x1 < h))) ∧ Kept [] w w' := by
  have hl := World.block_lt_of_cell? w _ hc
  dsimp only at hl
  go_enter Try.func31, Try.ntmps31
  go_wp2_with fail
  go_ret
  exact ⟨rfl, (Kept.refl [] w).alloc _⟩

def below (h : Int) (x : Th) : Bool := decide (x.1 < h)

set_option maxHeartbeats 2000000 in
theorem clear_any (F : List Nat) (b : Nat) (m : Int) (L : List Th) (h : Int) (w : World) (hs : Sh w F b m L) :
    Calls Try.prog 10 #[.pointer (some ⟨b, 0, none⟩), .int .i64 h] w (TakePost w b m L (leftOf (below h) L)) := by
  have hbl : b < w.heap.size := hs.lt b (by obtain ⟨_, _, _, lv, _, _, hF, _⟩ := hs; simp [hF])
  have k1 := (Kept.refl [] w).alloc (.cells #[.int .i64 h] 2)
  have TK := Lib.hid (take_any F b m L 31 (.pointer (some ⟨w.heap.size, 0, none⟩)) (below h) _ (hs.keep k1) (enters_of Try.func31 (by kernel_rfl) rfl)
    (fun W x1 x2 xs hK => clear1_any w.heap.size h x1 x2 xs W (hK.cell (by simp; omega) ((Blk.new w _ _).cell 0))))
  have HK1 := Lib.hid k1
  clear k1 hs
  go_enter Try.func10, Try.ntmps10
  go_wp2_with fail
  refine TK.out.mono ?_
  rintro e w2 ⟨rfl, hk2, F', hS, hF'⟩
  have hsz := HK1.out.size
  go_wp2_with fail
  go_ret
  refine ⟨rfl, (HK1.out.nil).trans (hk2.mono (by simp)), F', hS, fun z hz => (hF' z hz).imp id (fun hz => by omega)⟩

theorem clear_nil (h : Int) (w : World) : Calls Try.prog 10 #[.pointer none, .int .i64 h] w fun e w' => e = .returned (.int .i64 0) ∧ Kept [] w w' := by
  go_enter Try.func10, Try.ntmps10
  go_wp2_with fail
  refine (take_nil _ _).mono ?_
  rintro e w2 ⟨rfl, rfl⟩
  go_wp2_with fail
  go_ret
  exact ⟨rfl, (Kept.refl [] w).alloc _⟩

end Go.Proofs.Ytdboipjbpkhacaa

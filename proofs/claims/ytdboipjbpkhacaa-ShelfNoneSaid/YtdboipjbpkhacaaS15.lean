/- Oldest, of both. -/
import Derived.Test.YtdboipjbpkhacaaS14
set_option linter.unusedVariables false
set_option linter.unusedSimpArgs false
set_option linter.unnecessarySimpa false
namespace Go.Proofs.Ytdboipjbpkhacaa
open Go.RowKit Go.Shelf

def oldGo : Int → List Th → Int
  | a, [] => a
  | a, x :: xs => oldGo (if x.1 < a then x.1 else a) xs
def oldB : List Th → Int
  | [] => 0
  | x :: xs => oldGo x.1 xs
def OldPost (w : World) (L : List Th) (e : Ending) (w' : World) : Prop := e = .returned (.tuple #[.int .i64 (oldB L), .bool (decide (0 < L.length))]) ∧ Kept [] w w'

set_option maxRecDepth 100000 in
set_option maxHeartbeats 4000000 in
theorem roldest_any (F : List Nat) (b : Nat) (m : Int) (L : List Th) (w : World) (h : RSh w F b m L) :
    Calls Try.prog 37 #[.pointer (some ⟨b, 0, none⟩)] w (OldPost w L) := by
  obtain ⟨hm0, hm1, hl, lv, hb, ho, hF, hn⟩ := h
  have c0 := hb.cell 0
  simp at c0
  have HO := Lib.hid ho
  obtain ⟨AA, cc, rfl⟩ := own_len ho
  clear ho hF hn hb
  obtain ⟨n, hnl⟩ : ∃ n, L.length = n := ⟨_, rfl⟩
  unfold OldPost
  rw [hnl] at hl c0 HO ⊢
  have HNL := Lib.hid hnl
  obtain ⟨G, hG⟩ : ∃ G, oldB L = G := ⟨_, rfl⟩
  rw [hG]
  have HG := Lib.hid hG
  clear hnl hG
  go_enter Try.func37, Try.ntmps37
  go_wp2_with fail
  go_loopw [4, 5] (fun t i wr => ∃ (k : Nat) (a : Int), k ≤ n ∧ i = .int .i64 k ∧ t = .int .i64 a ∧ w = wr ∧ ((k = 0 ∧ a = 0) ∨ (1 ≤ k ∧ oldGo a (L.drop k) = G))) (fun _ i _ => n - (intOf i).toNat)
  case atStart => exact ⟨0, 0, by omega, rfl, rfl, rfl, .inl ⟨rfl, rfl⟩⟩
  case round =>
    obtain ⟨k, a, hk, rfl, rfl, rfl, hst⟩ := hrel
    have HST := Lib.hid hst
    clear hst
    by_cases hlt : k < n
    · obtain ⟨g, cap, he, hg1, hg2⟩ := HO.out.form (by omega)
      injection he with he1 he2 he3
      subst he1 he3
      obtain ⟨⟨x1, x2, xs⟩, hx⟩ : ∃ x, L[k]? = some x := ⟨_, List.getElem?_eq_getElem (by rw [HNL.out]; exact hlt)⟩
      obtain ⟨q1, q2, q3⟩ := cellsT_get L k _ hx
      have e1 : w.cell? ⟨g, k * 3, none⟩ = some (.int .i64 x1) := by rw [HO.out.cellAt _ (by omega)]; exact q1
      have HDR : Hid (L.drop k = (x1, x2, xs) :: L.drop (k + 1)) := by
        obtain ⟨h1, h2⟩ := List.getElem?_eq_some_iff.1 hx
        show _ = _
        rw [List.drop_eq_getElem_cons h1, h2]
      have HX := Lib.hid hx
      clear hx q1 q2 q3 he2
      rcases k with _ | k
      · go_wp2_with fail
        go_roundw
        case rel =>
          refine ⟨1, x1, by omega, by go_num, rfl, trivial, .inr ⟨by omega, ?_⟩⟩
          have h0 := HDR.out
          rw [List.drop_zero] at h0
          rw [← HG.out]
          conv => rhs; rw [h0]
          rfl
        case measure => simp [intOf]; omega
      · have hk0 : (((k + 1 : Nat) : Int) == 0) = false := by simp; omega
        have HS2 : Hid (oldGo a (L.drop (k + 1)) = G) := by
          rcases HST.out with ⟨h, _⟩ | ⟨_, h⟩
          · omega
          · exact h
        by_cases hc : x1 < a
        · go_wp2_with fail
          go_roundw
          case rel =>
            refine ⟨k + 1 + 1, x1, by omega, by go_num, rfl, trivial, .inr ⟨by omega, ?_⟩⟩
            rw [← HS2.out, HDR.out, oldGo, if_pos hc]
          case measure => simp [intOf]; omega
        · go_wp2_with fail
          go_roundw
          case rel =>
            refine ⟨k + 1 + 1, a, by omega, by go_num, rfl, trivial, .inr ⟨by omega, ?_⟩⟩
            rw [← HS2.out, HDR.out, oldGo, if_neg hc]
          case measure => simp [intOf]; omega
    · have ek : k = n := by omega
      subst ek
      go_wp2_with fail
      go_quiet (fail)
      go_wp2_with fail
      go_ret2
      have e : a = G := by
        rcases HST.out with ⟨h1, h2⟩ | ⟨_, h⟩
        · have : L = [] := List.eq_nil_of_length_eq_zero (by rw [HNL.out]; exact h1)
          rw [h2, ← HG.out, this]; rfl
        · rwa [List.drop_eq_nil_of_le (by rw [HNL.out]; omega), oldGo] at h
      subst e
      refine ⟨?_, (Kept.refl [] w).drewN _⟩
      simp

theorem cmp_any (x1 x2 y1 y2 : Int) (xs ys : ByteArray) (w : World) :
    Calls Try.prog 41 #[.agg #[.int .i64 x1, .int .i64 x2, .string xs], .agg #[.int .i64 y1, .int .i64 y2, .string ys]] w fun e w' => e = .returned (.int .i64 (if x1 < y1 then -1 else 1)) ∧ Kept [] w w' := by
  have c1 := ((Blk.new w #[.int .i64 x1, .int .i64 x2, .string xs] 75).alloc (.cells #[.int .i64 y1, .int .i64 y2, .string ys] 75)).cell 0
  have c2 := (Blk.new (w.alloc (.cells #[.int .i64 x1, .int .i64 x2, .string xs] 75)) #[.int .i64 y1, .int .i64 y2, .string ys] 75).cell 0
  simp at c1 c2
  by_cases hc : x1 < y1
  · rw [if_pos hc]
    go_enter Try.func41, Try.ntmps41
    go_wp2_with fail
    go_ret
    exact ⟨rfl, ((Kept.refl [] w).alloc _).alloc _⟩
  · rw [if_neg hc]
    go_enter Try.func41, Try.ntmps41
    go_wp2_with fail
    go_ret
    exact ⟨rfl, ((Kept.refl [] w).alloc _).alloc _⟩

end Go.Proofs.Ytdboipjbpkhacaa

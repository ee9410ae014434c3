/- MinFunc, Meet. -/
import Derived.Test.YtikpnlmimhnmmaaT6
set_option linter.unusedVariables false
set_option linter.unusedSimpArgs false
namespace Go.Proofs.Ytikpnlmimhnmmaa
open Go.RowKit Tr

def minBy (f : Int → Int) : Int → List Int → Int
  | m, [] => m
  | m, x :: xs => minBy f (if f x < f m then x else m) xs

set_option maxRecDepth 100000 in
set_option maxHeartbeats 4000000 in
theorem minfunc_any (b bx : Nat) (P : List Int) (v : Value) (x0 : Int) (xs : List Int) (w : World) (h : TreeAt w b P) (hT : Tree P) (hb : w.cell? ⟨bx, 0, none⟩ = some (.pointer (some ⟨b, 0, none⟩))) (hx : RdI w .i64 v (x0 :: xs)) :
    Calls Try.prog 43 #[v, .func (.func 44) #[] #[.pointer (some ⟨bx, 0, none⟩)]] w fun e w' => e = .returned (.int .i64 (minBy (depthG P) x0 xs)) ∧ Kept [] w w' := by
  obtain ⟨A, c, rfl, hmx, hx⟩ := hx
  unfold maxLen at hmx
  obtain ⟨a, off, rfl, hcell⟩ := hx (by simp)
  have HC : Hid (∀ (i : Nat) (x : Int), (x0 :: xs)[i]? = some x → w.cell? ⟨a, off + i, none⟩ = some (.int .i64 x)) := hcell
  have h0 := hcell 0 x0 rfl
  rw [Nat.add_zero] at h0
  have hd0 := depthG_bd hT
  have HD := Lib.hid hd0
  obtain ⟨n, hn⟩ : ∃ n, (x0 :: xs).length = n := ⟨_, rfl⟩
  rw [hn] at hmx ⊢
  have hn1 : 1 ≤ n := by rw [← hn]; simp
  have HN := Lib.hid hn
  clear hn hcell hd0 hx
  go_enter Try.func43, Try.ntmps43
  go_wp2_with fail
  go_loopw [5, 6] (fun p i wr => ∃ (m : Int) (k : Nat), 1 ≤ k ∧ k ≤ n ∧ p = .int .i64 m ∧ i = .int .i64 k ∧ minBy (depthG P) x0 xs = minBy (depthG P) m ((x0 :: xs).drop k) ∧ Kept [] w wr) (fun _ i _ => n - (intOf i).toNat)
  case atStart => exact ⟨x0, 1, by omega, by omega, rfl, rfl, rfl, Kept.refl _ _⟩
  case round =>
    obtain ⟨m, k, hk1, hkn, rfl, rfl, hm, hK⟩ := hrel
    have HM := Lib.hid hm
    clear hm
    by_cases hlt : k < n
    · obtain ⟨x, hx⟩ : ∃ x, (x0 :: xs)[k]? = some x := ⟨_, List.getElem?_eq_getElem (by rw [HN.out]; exact hlt)⟩
      have hcx := hK.cell (by simp) (HC.out k x hx)
      have HX := Lib.hid hx
      clear hx
      go_wp2_with fail
      refine (cmp_any b bx P x m _ (RawAt.keep h hK) hT (hK.cell (by simp) hb)).mono ?_
      rintro e w1 ⟨rfl, hk⟩
      have hcx1 := hk.cell (by simp) hcx
      have hK2 := hK.trans hk
      by_cases hl : depthG P x < depthG P m
      · have hb1 : decide (depthG P x - depthG P m < 0) = true := by simp; omega
        go_wp2_with fail
        go_roundw
        case rel =>
          refine ⟨x, k + 1, by omega, by omega, rfl, by go_num, ?_, hK2⟩
          obtain ⟨h1, h2⟩ := List.getElem?_eq_some_iff.1 HX.out
          rw [HM.out, List.drop_eq_getElem_cons h1, minBy, h2, if_pos hl]
        case measure => simp [intOf]; omega
      · have hb1 : decide (depthG P x - depthG P m < 0) = false := by simp; omega
        go_wp2_with fail
        go_roundw
        case rel =>
          refine ⟨m, k + 1, by omega, by omega, rfl, by go_num, ?_, hK2⟩
          obtain ⟨h1, h2⟩ := List.getElem?_eq_some_iff.1 HX.out
          rw [HM.out, List.drop_eq_getElem_cons h1, minBy, h2, if_neg (by omega)]
        case measure => simp [intOf]; omega
    · go_wp2_with fail
      go_ret
      refine ⟨ret_int ?_, hK⟩
      rw [HM.out, List.drop_eq_nil_of_le (by rw [HN.out]; omega), minBy]

/-- What Meet answers. -/
def meetG (P : List Int) (a b : Int) : Int := match pathG P a b with | [] => 0 | x :: xs => minBy (depthG P) x xs

def MeetPost (w : World) (m : Int) (t : Bool) (e : Ending) (w' : World) : Prop := e = .returned (.tuple #[.int .i64 m, .bool t]) ∧ Kept [] w w'

set_option maxRecDepth 100000 in
set_option maxHeartbeats 4000000 in
theorem meet_any (b : Nat) (P : List Int) (x y : Int) (w : World) (h : TreeAt w b P) (hT : Tree P) :
    Calls Try.prog 10 #[.pointer (some ⟨b, 0, none⟩), .int .i64 x, .int .i64 y] w (MeetPost w (meetG P x y) (!(pathG P x y).isEmpty)) := by
  have hl := path_le hT x y
  obtain ⟨l, hl2⟩ : ∃ l, pathG P x y = l := ⟨_, rfl⟩
  unfold meetG
  have PA := path_any b P x y
  rw [hl2] at hl PA ⊢
  have PA' := Lib.hid PA
  clear hl2 PA
  cases l with
  | nil =>
    go_enter Try.func10, Try.ntmps10
    go_wp2_with fail
    refine (PA'.out _ (RawAt.keep h ((Kept.refl [] w).alloc _)) hT).mono ?_
    rintro e w1 ⟨v, rfl, hown, hK⟩
    obtain ⟨A, c, rfl, -⟩ := own_len hown
    go_wp2_with fail
    go_ret2
    exact ⟨rfl, ((Kept.refl [] w).alloc _).trans hK⟩
  | cons z zs =>
    go_enter Try.func10, Try.ntmps10
    go_wp2_with fail
    refine (PA'.out _ (RawAt.keep h ((Kept.refl [] w).alloc _)) hT).mono ?_
    rintro e w1 ⟨v, rfl, hown, hK⟩
    have hb1 : w1.cell? ⟨w.heap.size, 0, none⟩ = some (.pointer (some ⟨b, 0, none⟩)) := by
      refine hK.cell (by simp) ?_
      exact Blk.cell (Blk.new w _ _) 0
    have hK1 := ((Kept.refl [] w).alloc (.cells #[.pointer (some ⟨b, 0, none⟩)] 23)).trans hK
    obtain ⟨A, c, rfl, -⟩ := own_len hown
    have hne : (((z :: zs).length : Int) == 0) = false := by simp; omega
    go_wp2_with fail
    refine (minfunc_any b w.heap.size P _ z zs _ (RawAt.keep h hK1) hT hb1 (RdI.of_own hown).1).mono ?_
    rintro e w2 ⟨rfl, hk2⟩
    go_wp2_with fail
    go_ret2
    exact ⟨rfl, hK1.trans hk2⟩

end Go.Proofs.Ytikpnlmimhnmmaa

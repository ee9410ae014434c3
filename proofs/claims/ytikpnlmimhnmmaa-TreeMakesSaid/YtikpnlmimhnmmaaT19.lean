/- A tree that no call made. -/
import Derived.Test.YtikpnlmimhnmmaaT18
set_option linter.unusedVariables false
set_option linter.unusedSimpArgs false
namespace Go.Proofs.Ytikpnlmimhnmmaa
open Go.RowKit Go.Shelf Tr

def Dead (w : World) (tp : Option Addr) : Prop := tp = none ∨ ∃ b l, tp = some ⟨b, 0, none⟩ ∧ RawAt w b 0 l
theorem Dead.keep {w w' : World} {tp : Option Addr} (h : Dead w tp) (k : Kept [] w w') : Dead w' tp := h.imp id (fun ⟨b, l, e, hr⟩ => ⟨b, l, e, hr.keep k⟩)
theorem dead_is (tp : Option Addr) (i : Int) (w : World) (h : Dead w tp) : Calls Try.prog 46 #[.pointer tp, .int .i64 i] w fun e w' => e = .returned (.bool false) ∧ w = w' := by
  rcases h with rfl | ⟨b, l, rfl, hr⟩
  · exact is_nil i w
  · refine (is_some b 0 l i w hr).mono ?_
    rintro e w' ⟨rfl, rfl⟩
    exact ⟨ret_bool (by simp), rfl⟩
theorem dead_len (tp : Option Addr) (w : World) (h : Dead w tp) : Calls Try.prog 13 #[.pointer tp] w fun e w' => e = .returned (.int .i64 0) ∧ w = w' := by
  rcases h with rfl | ⟨b, l, rfl, hr⟩
  · exact len_nil w
  · exact len_some b 0 l w hr
theorem dead_rise (tp : Option Addr) (i : Int) (w : World) (h : Dead w tp) : Calls Try.prog 45 #[.pointer tp, .int .i64 i] w fun e w' => e = .returned (.slice none 0 0) ∧ w = w' := by
  have H := Lib.hid (dead_is tp i w h)
  go_enter Try.func45, Try.ntmps45
  go_wp2_with fail
  go_loop [1, 5] (fun p o => p = .int .i64 i ∧ o = .slice none 0 0) (fun _ _ => 0)
  case atStart => exact ⟨rfl, rfl⟩
  case round =>
    obtain ⟨rfl, rfl⟩ := hrel
    go_wp2_with fail
    refine H.out.mono ?_
    rintro e w' ⟨rfl, rfl⟩
    go_wp2_with fail
    go_ret
    exact ⟨rfl, rfl⟩
theorem dead_depth (tp : Option Addr) (i : Int) (w : World) (h : Dead w tp) : Calls Try.prog 12 #[.pointer tp, .int .i64 i] w fun e w' => e = .returned (.int .i64 0) ∧ w = w' := by
  go_enter Try.func12, Try.ntmps12
  go_wp2_with fail
  refine (dead_rise tp i w h).mono ?_
  rintro e w' ⟨rfl, rfl⟩
  go_wp2_with fail
  go_ret
  exact ⟨rfl, rfl⟩
theorem dead_path (tp : Option Addr) (x y : Int) (w : World) (h : Dead w tp) : Calls Try.prog 14 #[.pointer tp, .int .i64 x, .int .i64 y] w fun e w' => e = .returned (.slice none 0 0) ∧ w = w' := by
  go_enter Try.func14, Try.ntmps14
  go_wp2_with fail
  refine (dead_is tp x w h).mono ?_
  rintro e w' ⟨rfl, rfl⟩
  go_wp2_with fail
  go_ret
  exact ⟨rfl, rfl⟩
theorem dead_dist (tp : Option Addr) (x y : Int) (w : World) (h : Dead w tp) : Calls Try.prog 11 #[.pointer tp, .int .i64 x, .int .i64 y] w fun e w' => e = .returned (.int .i64 0) ∧ w = w' := by
  go_enter Try.func11, Try.ntmps11
  go_wp2_with fail
  refine (dead_path tp x y w h).mono ?_
  rintro e w' ⟨rfl, rfl⟩
  go_wp2_with fail
  go_ret
  exact ⟨rfl, rfl⟩
theorem dead_meet (tp : Option Addr) (x y : Int) (w : World) (h : Dead w tp) : Calls Try.prog 10 #[.pointer tp, .int .i64 x, .int .i64 y] w fun e w' => e = .returned (.tuple #[.int .i64 0, .bool false]) ∧ Kept [] w w' := by
  have k := (Kept.refl [] w).alloc (.cells #[.pointer tp] 23)
  go_enter Try.func10, Try.ntmps10
  go_wp2_with fail
  refine (dead_path tp x y _ (h.keep k)).mono ?_
  rintro e w' ⟨rfl, rfl⟩
  go_wp2_with fail
  go_ret2
  exact ⟨rfl, k⟩
theorem dead_next (tp : Option Addr) (x y : Int) (w : World) (h : Dead w tp) : Calls Try.prog 19 #[.pointer tp, .int .i64 x, .int .i64 y] w fun e w' => e = .returned (.tuple #[.int .i64 0, .bool false]) ∧ w = w' := by
  go_enter Try.func19, Try.ntmps19
  go_wp2_with fail
  refine (dead_path tp x y _ h).mono ?_
  rintro e w' ⟨rfl, rfl⟩
  go_wp2_with fail
  go_ret2
  exact ⟨rfl, rfl⟩
theorem dead_parent (tp : Option Addr) (x : Int) (w : World) (h : Dead w tp) : Calls Try.prog 29 #[.pointer tp, .int .i64 x] w fun e w' => e = .returned (.tuple #[.int .i64 0, .bool false]) ∧ w = w' := by
  go_enter Try.func29, Try.ntmps29
  go_wp2_with fail
  refine (dead_is tp x _ h).mono ?_
  rintro e w' ⟨rfl, rfl⟩
  go_wp2_with fail
  go_ret2
  exact ⟨rfl, rfl⟩
theorem dead_root (tp : Option Addr) (w : World) (h : Dead w tp) : Calls Try.prog 22 #[.pointer tp] w fun e w' => e = .returned (.int .i64 0) ∧ w = w' := by
  go_enter Try.func22, Try.ntmps22
  go_wp2_with fail
  refine (dead_len tp _ h).mono ?_
  rintro e w' ⟨rfl, rfl⟩
  go_wp2_with fail
  go_loop [6] (fun p => p = .int .i64 0) (fun _ => 0)
  case atStart => exact rfl
  case round =>
    obtain rfl := hrel
    go_wp2_with fail
    go_ret
    exact ⟨rfl, rfl⟩
theorem dead_wide (tp : Option Addr) (w : World) (h : Dead w tp) : Calls Try.prog 24 #[.pointer tp] w fun e w' => e = .returned (.int .i64 0) ∧ w = w' := by
  go_enter Try.func24, Try.ntmps24
  go_wp2_with fail
  refine (dead_len tp _ h).mono ?_
  rintro e w' ⟨rfl, rfl⟩
  go_wp2_with fail
  go_loop [3, 8] (fun m p => m = .int .i64 0 ∧ p = .int .i64 0) (fun _ _ => 0)
  case atStart => exact ⟨rfl, rfl⟩
  case round =>
    obtain ⟨rfl, rfl⟩ := hrel
    go_wp2_with fail
    go_ret
    exact ⟨rfl, rfl⟩

set_option maxHeartbeats 2000000 in
theorem dead_near (tp : Option Addr) (i : Int) (w : World) (h : Dead w tp) :
    Calls Try.prog 18 #[.pointer tp, .int .i64 i] w (RisePost w []) := by
  have k1 : Kept [] w ((w.alloc (.cells #[.pointer tp] 23)).alloc (.cells #[.int .i64 i] 3)) := ((Kept.refl [] w).alloc _).alloc _
  obtain ⟨w1, hw1⟩ : ∃ w1, (w.alloc (.cells #[.pointer tp] 23)).alloc (.cells #[.int .i64 i] 3) = w1 := ⟨_, rfl⟩
  have hs1 : w1.heap.size = w.heap.size + 2 := by rw [← hw1]; simp
  rw [hw1] at k1
  have IT := it_such tp 50 0 #[.pointer (some ⟨w.heap.size, 0, none⟩), .pointer (some ⟨w.heap.size + 1, 0, none⟩)] (fun _ => false) w1 (enters_of Try.func50 (by kernel_rfl) rfl)
    (fun W hW => dead_len tp W ((h.keep k1).keep hW)) (by omega) (fun W k hW hk => absurd hk (by omega)) _ rfl _ (Kept.refl _ _)
  rw [hs1, sel_zero] at IT
  have HW1 := Lib.hid hw1
  have HIT := Lib.hid IT
  have HS1 := Lib.hid hs1
  clear hw1 IT hs1
  go_enter Try.func18, Try.ntmps18
  go_wp2_with fail
  refine (such_any _ _ _ ⟨_, rfl⟩ ⟨_, _, rfl⟩).mono ?_
  rintro e w2 ⟨rfl, rfl⟩
  rw [HW1.out, HS1.out]
  go_wp2_with fail
  refine (collect_any _ _ [] _ (by simp) HIT.out).mono ?_
  rintro e w3 ⟨v, rfl, hown, hK⟩
  go_wp2_with fail
  go_ret
  have k3 : Kept [] w ((w1.alloc (.cells #[.pointer tp] 23)).alloc (.cells #[.func (.func 50) #[] #[.pointer (some ⟨w.heap.size, 0, none⟩), .pointer (some ⟨w.heap.size + 1, 0, none⟩)]] 63)) := (k1.alloc _).alloc _
  exact ⟨v, rfl, rowBase hown k3.size, k3.trans hK⟩

set_option maxHeartbeats 2000000 in
theorem dead_below (tp : Option Addr) (i : Int) (w : World) (h : Dead w tp) :
    Calls Try.prog 37 #[.pointer tp, .int .i64 i] w (RisePost w []) := by
  have k1 : Kept [] w ((w.alloc (.cells #[.pointer tp] 23)).alloc (.cells #[.int .i64 i] 3)) := ((Kept.refl [] w).alloc _).alloc _
  obtain ⟨w1, hw1⟩ : ∃ w1, (w.alloc (.cells #[.pointer tp] 23)).alloc (.cells #[.int .i64 i] 3) = w1 := ⟨_, rfl⟩
  have hs1 : w1.heap.size = w.heap.size + 2 := by rw [← hw1]; simp
  rw [hw1] at k1
  have IT := it_such tp 55 0 #[.pointer (some ⟨w.heap.size, 0, none⟩), .pointer (some ⟨w.heap.size + 1, 0, none⟩)] (fun _ => false) w1 (enters_of Try.func55 (by kernel_rfl) rfl)
    (fun W hW => dead_len tp W ((h.keep k1).keep hW)) (by omega) (fun W k hW hk => absurd hk (by omega)) _ rfl _ (Kept.refl _ _)
  rw [hs1, sel_zero] at IT
  have HW1 := Lib.hid hw1
  have HIT := Lib.hid IT
  have HS1 := Lib.hid hs1
  clear hw1 IT hs1
  go_enter Try.func37, Try.ntmps37
  go_wp2_with fail
  refine (such_any _ _ _ ⟨_, rfl⟩ ⟨_, _, rfl⟩).mono ?_
  rintro e w2 ⟨rfl, rfl⟩
  rw [HW1.out, HS1.out]
  go_wp2_with fail
  refine (collect_any _ _ [] _ (by simp) HIT.out).mono ?_
  rintro e w3 ⟨v, rfl, hown, hK⟩
  go_wp2_with fail
  go_ret
  have k3 : Kept [] w ((w1.alloc (.cells #[.pointer tp] 23)).alloc (.cells #[.func (.func 55) #[] #[.pointer (some ⟨w.heap.size, 0, none⟩), .pointer (some ⟨w.heap.size + 1, 0, none⟩)]] 63)) := (k1.alloc _).alloc _
  exact ⟨v, rfl, rowBase hown k3.size, k3.trans hK⟩

set_option maxHeartbeats 2000000 in
theorem dead_kids (tp : Option Addr) (i : Int) (w : World) (h : Dead w tp) :
    Calls Try.prog 34 #[.pointer tp, .int .i64 i] w (ItPost w []) := by
  have k1 : Kept [] w ((w.alloc (.cells #[.pointer tp] 23)).alloc (.cells #[.int .i64 i] 3)) := ((Kept.refl [] w).alloc _).alloc _
  obtain ⟨w1, hw1⟩ : ∃ w1, (w.alloc (.cells #[.pointer tp] 23)).alloc (.cells #[.int .i64 i] 3) = w1 := ⟨_, rfl⟩
  have hs1 : w1.heap.size = w.heap.size + 2 := by rw [← hw1]; simp
  rw [hw1] at k1
  have IT := it_such tp 54 0 #[.pointer (some ⟨w.heap.size, 0, none⟩), .pointer (some ⟨w.heap.size + 1, 0, none⟩)] (fun _ => false) w1 (enters_of Try.func54 (by kernel_rfl) rfl)
    (fun W hW => dead_len tp W ((h.keep k1).keep hW)) (by omega) (fun W k hW hk => absurd hk (by omega)) _ rfl _ (Kept.refl _ _)
  rw [hs1, sel_zero] at IT
  have HW1 := Lib.hid hw1
  have HIT := Lib.hid IT
  have HS1 := Lib.hid hs1
  clear hw1 IT hs1
  go_enter Try.func34, Try.ntmps34
  go_wp2_with fail
  refine (such_any _ _ _ ⟨_, rfl⟩ ⟨_, _, rfl⟩).mono ?_
  rintro e w2 ⟨rfl, rfl⟩
  rw [HW1.out, HS1.out]
  go_wp2_with fail
  go_ret
  exact ⟨_, rfl, HIT.out, (k1.alloc _).alloc _⟩

end Go.Proofs.Ytikpnlmimhnmmaa

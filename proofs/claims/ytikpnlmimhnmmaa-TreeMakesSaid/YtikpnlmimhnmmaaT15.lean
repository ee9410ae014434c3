/- Near, Below, Kids as wholes; tells of numbers. -/
import Derived.Test.YtikpnlmimhnmmaaT14
set_option linter.unusedVariables false
set_option linter.unusedSimpArgs false
set_option linter.unnecessarySimpa false
namespace Go.Proofs.Ytikpnlmimhnmmaa
open Go.RowKit Go.Shelf Tr
attribute [local go_sem] Oper.semAt_some

theorem Kept.of_below_le {w w' : World} {n : Nat} (h : Below n w w') (hn : w.heap.size ≤ n) : Kept [] w w' := Kept.of_below (h.mono hn)

theorem rowBase {W : World} {base base' : Nat} {e : TypeId} {size : Nat} {v : Value} {k : Nat} {xs : List Value} (h : W.ownsRow base e size v k xs) (hb : base' ≤ base) : W.ownsRow base' e size v k xs := by
  refine ⟨h.1, ?_⟩
  rcases h.2 with hn | ⟨g, cap, cur, hv, hbg, rest⟩
  · exact .inl hn
  · exact .inr ⟨g, cap, cur, hv, Nat.le_trans hb hbg, rest⟩
/-- such over a question that each later world answers alike. -/
theorem it_such (tp : Option Addr) (gf nn : Nat) (lbf : Array Value) (p : Nat → Bool) (w : World) (eg : ∀ args w, (callFunc gf args).run Try.prog w = .ok (.enter gf args) w)
    (hlen : ∀ W, Kept [] w W → Calls Try.prog 13 #[.pointer tp] W fun e W' => e = .returned (.int .i64 nn) ∧ W = W') (hn16 : nn ≤ 16)
    (hp : ∀ W (k : Nat), Kept [] w W → k < nn → Calls Try.prog gf (#[.int .i64 k] ++ lbf) W fun e W' => e = .returned (.bool (p k)) ∧ Kept [] W W') (w1 : World)
    (hw1 : w1 = (w.alloc (.cells #[.pointer tp] 23)).alloc (.cells #[.func (.func gf) #[] lbf] 63)) (w2 : World) (hk : Kept [] w1 w2) :
    ItI w2 w2.heap.size (.func (.func 58) #[] #[.pointer (some ⟨w.heap.size, 0, none⟩), .pointer (some ⟨w.heap.size + 1, 0, none⟩)]) (sel p nn) := by
  have k1 : Kept [] w w1 := by rw [hw1]; exact ((Kept.refl [] w).alloc _).alloc _
  have k2 := k1.trans hk
  have hs1 : w1.heap.size = w.heap.size + 2 := by rw [hw1]; simp
  have hs2 := hk.size
  have c1 : w1.cell? ⟨w.heap.size, 0, none⟩ = some (.pointer tp) := by rw [hw1]; exact ((Blk.new w _ _).alloc _).cell 0
  have c2 : w1.cell? ⟨w.heap.size + 1, 0, none⟩ = some (.func (.func gf) #[] lbf) := by
    rw [hw1]
    have := (Blk.new (w.alloc (.cells #[.pointer tp] 23)) #[.func (.func gf) #[] lbf] 63).cell 0
    simpa using this
  refine ⟨_, _, rfl, Nat.le_refl _, enters_of Try.func58 (by kernel_rfl) rfl, fun m hm => ?_⟩
  exact such1_stops m hm w.heap.size (w.heap.size + 1) w2.heap.size nn gf tp lbf p w2 (Nat.le_refl _) (by omega) (by omega) (hk.cell (by simp) c1) (hk.cell (by simp) c2) eg
    (fun W hW => hlen W (k2.trans (Kept.of_below hW))) hn16 (fun W k hW hk' => hp W k (k2.trans (Kept.of_below hW)) hk')


set_option maxHeartbeats 2000000 in
theorem near_any (b : Nat) (P : List Int) (i : Int) (w : World) (h : TreeAt w b P) :
    Calls Try.prog 18 #[.pointer (some ⟨b, 0, none⟩), .int .i64 i] w (RisePost w (sel (nearB P i) P.length)) := by
  have h16 := h.1
  have hsl := sel_le (nearB P i) P.length
  have k1 : Kept [] w ((w.alloc (.cells #[.pointer (some ⟨b, 0, none⟩)] 23)).alloc (.cells #[.int .i64 i] 3)) := ((Kept.refl [] w).alloc _).alloc _
  have c1 : ((w.alloc (.cells #[.pointer (some ⟨b, 0, none⟩)] 23)).alloc (.cells #[.int .i64 i] 3)).cell? ⟨w.heap.size, 0, none⟩ = some (.pointer (some ⟨b, 0, none⟩)) := ((Blk.new w _ _).alloc _).cell 0
  have c2 : ((w.alloc (.cells #[.pointer (some ⟨b, 0, none⟩)] 23)).alloc (.cells #[.int .i64 i] 3)).cell? ⟨w.heap.size + 1, 0, none⟩ = some (.int .i64 i) := by
    have := (Blk.new (w.alloc (.cells #[.pointer (some ⟨b, 0, none⟩)] 23)) #[.int .i64 i] 3).cell 0
    simpa using this
  obtain ⟨w1, hw1⟩ : ∃ w1, (w.alloc (.cells #[.pointer (some ⟨b, 0, none⟩)] 23)).alloc (.cells #[.int .i64 i] 3) = w1 := ⟨_, rfl⟩
  have hs1 : w1.heap.size = w.heap.size + 2 := by rw [← hw1]; simp
  rw [hw1] at k1 c1 c2
  have IT := it_such (some ⟨b, 0, none⟩) 50 P.length #[.pointer (some ⟨w.heap.size, 0, none⟩), .pointer (some ⟨w.heap.size + 1, 0, none⟩)] (nearB P i) w1 (enters_of Try.func50 (by kernel_rfl) rfl)
    (fun W hW => len_some b P.length _ W ((RawAt.keep h k1).keep hW)) h16 (fun W k hW hk => near1_any b w.heap.size (w.heap.size + 1) P i k W ((RawAt.keep h k1).keep hW) hk (hW.cell (by simp) c1) (hW.cell (by simp) c2)) _ rfl _ (Kept.refl _ _)
  rw [hs1] at IT
  have HW1 := Lib.hid hw1
  have HIT := Lib.hid IT
  have HS1 := Lib.hid hs1
  clear hw1 IT hs1 c1 c2
  go_enter Try.func18, Try.ntmps18
  go_wp2_with fail
  refine (such_any _ _ _ ⟨_, rfl⟩ ⟨_, _, rfl⟩).mono ?_
  rintro e w2 ⟨rfl, rfl⟩
  rw [HW1.out, HS1.out]
  go_wp2_with fail
  refine (collect_any _ _ _ _ (by omega) HIT.out).mono ?_
  rintro e w3 ⟨v, rfl, hown, hK⟩
  go_wp2_with fail
  go_ret
  have k3 : Kept [] w ((w1.alloc (.cells #[.pointer (some ⟨b, 0, none⟩)] 23)).alloc (.cells #[.func (.func 50) #[] #[.pointer (some ⟨w.heap.size, 0, none⟩), .pointer (some ⟨w.heap.size + 1, 0, none⟩)]] 63)) := (k1.alloc _).alloc _
  exact ⟨v, rfl, rowBase hown k3.size, k3.trans hK⟩

set_option maxHeartbeats 2000000 in
theorem below_any (b : Nat) (P : List Int) (i : Int) (w : World) (h : TreeAt w b P) (hT : Tree P) :
    Calls Try.prog 37 #[.pointer (some ⟨b, 0, none⟩), .int .i64 i] w (RisePost w (sel (belowB P i) P.length)) := by
  have h16 := h.1
  have hsl := sel_le (belowB P i) P.length
  have k1 : Kept [] w ((w.alloc (.cells #[.pointer (some ⟨b, 0, none⟩)] 23)).alloc (.cells #[.int .i64 i] 3)) := ((Kept.refl [] w).alloc _).alloc _
  have c1 : ((w.alloc (.cells #[.pointer (some ⟨b, 0, none⟩)] 23)).alloc (.cells #[.int .i64 i] 3)).cell? ⟨w.heap.size, 0, none⟩ = some (.pointer (some ⟨b, 0, none⟩)) := ((Blk.new w _ _).alloc _).cell 0
  have c2 : ((w.alloc (.cells #[.pointer (some ⟨b, 0, none⟩)] 23)).alloc (.cells #[.int .i64 i] 3)).cell? ⟨w.heap.size + 1, 0, none⟩ = some (.int .i64 i) := by
    have := (Blk.new (w.alloc (.cells #[.pointer (some ⟨b, 0, none⟩)] 23)) #[.int .i64 i] 3).cell 0
    simpa using this
  obtain ⟨w1, hw1⟩ : ∃ w1, (w.alloc (.cells #[.pointer (some ⟨b, 0, none⟩)] 23)).alloc (.cells #[.int .i64 i] 3) = w1 := ⟨_, rfl⟩
  have hs1 : w1.heap.size = w.heap.size + 2 := by rw [← hw1]; simp
  rw [hw1] at k1 c1 c2
  have IT := it_such (some ⟨b, 0, none⟩) 55 P.length #[.pointer (some ⟨w.heap.size, 0, none⟩), .pointer (some ⟨w.heap.size + 1, 0, none⟩)] (belowB P i) w1 (enters_of Try.func55 (by kernel_rfl) rfl)
    (fun W hW => len_some b P.length _ W ((RawAt.keep h k1).keep hW)) h16 (fun W k hW hk => below1_any b w.heap.size (w.heap.size + 1) P i k W ((RawAt.keep h k1).keep hW) hT hk (hW.cell (by simp) c1) (hW.cell (by simp) c2)) _ rfl _ (Kept.refl _ _)
  rw [hs1] at IT
  have HW1 := Lib.hid hw1
  have HIT := Lib.hid IT
  have HS1 := Lib.hid hs1
  clear hw1 IT hs1 c1 c2
  go_enter Try.func37, Try.ntmps37
  go_wp2_with fail
  refine (such_any _ _ _ ⟨_, rfl⟩ ⟨_, _, rfl⟩).mono ?_
  rintro e w2 ⟨rfl, rfl⟩
  rw [HW1.out, HS1.out]
  go_wp2_with fail
  refine (collect_any _ _ _ _ (by omega) HIT.out).mono ?_
  rintro e w3 ⟨v, rfl, hown, hK⟩
  go_wp2_with fail
  go_ret
  have k3 : Kept [] w ((w1.alloc (.cells #[.pointer (some ⟨b, 0, none⟩)] 23)).alloc (.cells #[.func (.func 55) #[] #[.pointer (some ⟨w.heap.size, 0, none⟩), .pointer (some ⟨w.heap.size + 1, 0, none⟩)]] 63)) := (k1.alloc _).alloc _
  exact ⟨v, rfl, rowBase hown k3.size, k3.trans hK⟩


end Go.Proofs.Ytikpnlmimhnmmaa

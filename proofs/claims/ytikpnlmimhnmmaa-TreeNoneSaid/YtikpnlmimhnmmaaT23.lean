/- TreeNone. -/
import Derived.Test.YtikpnlmimhnmmaaT22
set_option linter.unusedVariables false
set_option linter.unusedSimpArgs false
set_option linter.unnecessarySimpa false
namespace Go.Proofs.Ytikpnlmimhnmmaa
open Go.RowKit Go.Shelf Tr

theorem nil_rdi (w : World) : RdI w .i64 (.slice none 0 0) [] := ⟨none, 0, rfl, by simp, fun h => absurd rfl h⟩

set_option maxRecDepth 100000 in
set_option maxHeartbeats 8000000 in
theorem treeNone_any (w : World) (a b : Int) : Calls Try.prog 7 #[.int .i64 a, .int .i64 b] w fun e w' => e = .returned (.bool true) ∧ Kept [] w w' := by
  go_enter Try.func7, Try.ntmps7
  go_wp2_with fail
  have hb0 := (Blk.new w #[.int .i64 0, .int .i64 0, .int .i64 0, .int .i64 0, .int .i64 0, .int .i64 0, .int .i64 0, .int .i64 0, .int .i64 0, .int .i64 0, .int .i64 0, .int .i64 0, .int .i64 0, .int .i64 0, .int .i64 0, .int .i64 0, .int .i64 0] 59).alloc (.cells #[.pointer none, .pointer (some ⟨w.heap.size, 0, none⟩)] 23)
  have hb1 := Blk.new (w.alloc (.cells #[.int .i64 0, .int .i64 0, .int .i64 0, .int .i64 0, .int .i64 0, .int .i64 0, .int .i64 0, .int .i64 0, .int .i64 0, .int .i64 0, .int .i64 0, .int .i64 0, .int .i64 0, .int .i64 0, .int .i64 0, .int .i64 0, .int .i64 0] 59)) #[.pointer none, .pointer (some ⟨w.heap.size, 0, none⟩)] 23
  have hK0 := ((Kept.refl [] w).alloc (.cells #[.int .i64 0, .int .i64 0, .int .i64 0, .int .i64 0, .int .i64 0, .int .i64 0, .int .i64 0, .int .i64 0, .int .i64 0, .int .i64 0, .int .i64 0, .int .i64 0, .int .i64 0, .int .i64 0, .int .i64 0, .int .i64 0, .int .i64 0] 59)).alloc (.cells #[.pointer none, .pointer (some ⟨w.heap.size, 0, none⟩)] 23)
  rw [World.size_alloc] at hb1
  obtain ⟨W0, hW0⟩ : ∃ W0, (w.alloc (.cells #[.int .i64 0, .int .i64 0, .int .i64 0, .int .i64 0, .int .i64 0, .int .i64 0, .int .i64 0, .int .i64 0, .int .i64 0, .int .i64 0, .int .i64 0, .int .i64 0, .int .i64 0, .int .i64 0, .int .i64 0, .int .i64 0, .int .i64 0] 59)).alloc (.cells #[.pointer none, .pointer (some ⟨w.heap.size, 0, none⟩)] 23) = W0 := ⟨_, rfl⟩
  rw [hW0] at hb0 hb1 hK0 ⊢
  clear hW0
  have hraw : RawAt W0 w.heap.size 0 (List.replicate 16 0) := ⟨by omega, rfl, hb0⟩
  have HB1 := Lib.hid hb1
  clear hb0 hb1
  go_loopw [17] (fun i wr => ∃ (k : Nat), k ≤ 2 ∧ i = .int .i64 k ∧ Kept [] W0 wr) (fun i _ => 2 - (intOf i).toNat)
  case atStart => exact ⟨0, by omega, rfl, Kept.refl _ _⟩
  case round =>
    obtain ⟨k, hk, rfl, hK⟩ := hrel
    by_cases hlt : k < 2
    · obtain ⟨tp, htc, hD0⟩ : ∃ tp, wr.cell? ⟨w.heap.size + 1, k, none⟩ = some (.pointer tp) ∧ Dead W0 tp := by
        have hc := (Blk.cell HB1.out k)
        match k, hlt with
        | 0, _ => exact ⟨none, hK.cell (by simp) hc, .inl rfl⟩
        | 1, _ => exact ⟨_, hK.cell (by simp) hc, .inr ⟨_, _, rfl, hraw⟩⟩
      have hD := hD0.keep hK
      clear hD0 hraw
      go_wp2_with fail
      refine (dead_parent tp a _ hD).mono ?_
      rintro e w' ⟨rfl, rfl⟩
      go_wp2_with fail
      refine (dead_meet tp a b _ hD).mono ?_
      rintro e w2 ⟨rfl, hk⟩
      have hD2 := Dead.keep hD hk
      have hK2 := Kept.trans hK hk
      clear hk hD hK
      go_wp2_with fail
      refine (dead_next tp a b _ hD2).mono ?_
      rintro e w' ⟨rfl, rfl⟩
      go_wp2_with fail
      refine (dead_len tp _ hD2).mono ?_
      rintro e w' ⟨rfl, rfl⟩
      go_wp2_with fail
      refine (dead_root tp _ hD2).mono ?_
      rintro e w' ⟨rfl, rfl⟩
      go_wp2_with fail
      refine (dead_kids tp a _ hD2).mono ?_
      rintro e w6 ⟨vk, rfl, hit, hk⟩
      have hD6 := Dead.keep hD2 hk
      have hK6 := Kept.trans hK2 hk
      clear hk hD2 hK2
      go_wp2_with fail
      refine (tells_any _ vk (.slice none 0 0) [] 0 _ (by simp) hit (nil_rdi _)).mono ?_
      rintro e w7 ⟨rfl, hk⟩
      have hD7 := Dead.keep hD6 hk
      have hK7 := Kept.trans hK6 hk
      clear hk hD6 hK6
      go_wp2_with fail
      refine (dead_near tp a _ hD7).mono ?_
      rintro e w8 ⟨v, rfl, hown, hk⟩
      have hD8 := Dead.keep hD7 hk
      have hK8 := Kept.trans hK7 hk
      clear hk hD7 hK7
      obtain ⟨A1, c1, rfl, -⟩ := own_len hown
      go_wp2_with fail
      refine (dead_below tp a _ hD8).mono ?_
      rintro e w9 ⟨v, rfl, hown, hk⟩
      have hD9 := Dead.keep hD8 hk
      have hK9 := Kept.trans hK8 hk
      clear hk hD8 hK8
      obtain ⟨A2, c2, rfl, -⟩ := own_len hown
      go_wp2_with fail
      refine (dead_depth tp a _ hD9).mono ?_
      rintro e w' ⟨rfl, rfl⟩
      go_wp2_with fail
      refine (dead_path tp a b _ hD9).mono ?_
      rintro e w' ⟨rfl, rfl⟩
      go_wp2_with fail
      refine (dead_dist tp a b _ hD9).mono ?_
      rintro e w' ⟨rfl, rfl⟩
      go_wp2_with fail
      refine (dead_ways tp _ hD9).mono ?_
      rintro e w13 ⟨vw, rfl, hitw, hk⟩
      have hD13 := Dead.keep hD9 hk
      have hK13 := Kept.trans hK9 hk
      clear hk hD9 hK9
      go_wp2_with fail
      refine (tellsW_any vw (.slice none 0 0) [] 0 _ (by simp) hitw (RdW.nil _)).mono ?_
      rintro e w14 ⟨rfl, hk⟩
      have hD14 := Dead.keep hD13 hk
      have hK14 := Kept.trans hK13 hk
      clear hk hD13 hK13
      go_wp2_with fail
      refine (dead_wide tp _ hD14).mono ?_
      rintro e w' ⟨rfl, rfl⟩
      go_wp2_with fail
      go_roundw
      case rel => exact ⟨k + 1, by omega, by go_num, hK14⟩
      case measure => simp [intOf]; omega
    · go_wp2_with fail
      refine (live_any _).mono ?_
      rintro e w2 ⟨rfl, hk2⟩
      go_wp2_with fail
      go_ret
      exact ⟨rfl, (hK0.trans hK).trans hk2⟩

theorem treeNone_walk (w : World) (a : Int) (wa : (Lit.int .i64 a).wf = true) (b : Int) (wb : (Lit.int .i64 b).wf = true) :
    Calls Try.prog 7 #[.int .i64 a, .int .i64 b] w fun e w' => e = .returned (.bool true) ∧ Below w.heap.size w w' :=
  (treeNone_any w a b).mono fun _ _ ⟨he, hk⟩ => ⟨he, hk.below⟩

end Go.Proofs.Ytikpnlmimhnmmaa

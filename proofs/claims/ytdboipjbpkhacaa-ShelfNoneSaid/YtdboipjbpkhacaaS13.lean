/- The reference's shelf: New, Put. -/
import Derived.Test.YtdboipjbpkhacaaS11
set_option linter.unusedVariables false
set_option linter.unusedSimpArgs false
set_option linter.unnecessarySimpa false
namespace Go.Proofs.Ytdboipjbpkhacaa
open Go.RowKit Go.Shelf

theorem infoThing : (Try.prog.info? 40).map (fun i => (i.zero.map (fun z => z.cells.size), i.size, i.bytes)) = some (some 3, 3, 32) := by kernel_rfl
theorem thingInfo : ∃ i z, Try.prog.info? 40 = some i ∧ i.zero = some z ∧ i.size = 3 ∧ i.bytes = 32 ∧ z.cells.size = 3 := by
  have h := infoThing
  rw [Option.map_eq_some_iff] at h
  obtain ⟨i, hi, h⟩ := h
  simp only [Prod.mk.injEq] at h
  obtain ⟨hz, h1, h2⟩ := h
  rw [Option.map_eq_some_iff] at hz
  obtain ⟨z, hz, hs⟩ := hz
  exact ⟨i, z, hi, hz, h1, h2, hs⟩

/-- The reference's shelf at b: F its blocks. -/
def RSh (w : World) (F : List Nat) (b : Nat) (m : Int) (L : List Th) : Prop :=
  1 ≤ m ∧ m ≤ 16384 ∧ L.length ≤ 16384 ∧ ∃ lv, Blk w b #[lv, .int .i64 m] 78 ∧ w.ownsRow 0 40 3 lv L.length (cellsT L) ∧ F = b :: lv.ownBlock.toList ∧ lv.ownBlock ≠ some b
theorem RSh.kept {S : List Nat} {w w' : World} {F : List Nat} {b : Nat} {m : Int} {L : List Th} (h : RSh w F b m L) (hk : Kept S w w') (hs : ∀ z ∈ F, z ∉ S) : RSh w' F b m L := by
  obtain ⟨h0, h1, h2, lv, hb, ho, hF, hn⟩ := h
  refine ⟨h0, h1, h2, lv, hb.kept hk (hs b (by simp [hF])), ownsRow_keep ho hk (fun z hz => hs z (by simp [hF, hz])), hF, hn⟩
theorem RSh.keep {w w' : World} {F : List Nat} {b : Nat} {m : Int} {L : List Th} (h : RSh w F b m L) (hk : Kept [] w w') : RSh w' F b m L := h.kept hk (by simp)
theorem RSh.lt {w : World} {F : List Nat} {b : Nat} {m : Int} {L : List Th} (h : RSh w F b m L) : ∀ z ∈ F, z < w.heap.size := by
  obtain ⟨h0, h1, h2, lv, hb, ho, rfl, hn⟩ := h
  intro z hz
  simp at hz
  rcases hz with rfl | hz
  · exact hb.lt
  · exact (ho.lt z hz).2

set_option maxHeartbeats 1000000 in
theorem rnew_any (m : Int) (w : World) (h : 1 ≤ m ∧ m ≤ 16384) :
    Calls Try.prog 13 #[.int .i64 m] w fun e w' => e = .returned (.tuple #[.pointer (some ⟨w.heap.size, 0, none⟩), .int .i64 0]) ∧ RSh w' [w.heap.size] w.heap.size m [] ∧ Kept [] w w' := by
  have hS : RSh (w.alloc (.cells #[.slice none 0 0, .int .i64 m] 78)) [w.heap.size] w.heap.size m [] :=
    ⟨h.1, h.2, by simp, .slice none 0 0, Blk.new w _ _, World.ownsRow_nil _ _ _ _, rfl, by simp [Value.ownBlock]⟩
  have HS := Lib.hid hS
  clear hS
  obtain ⟨h1, h2⟩ := h
  go_enter Try.func13, Try.ntmps13
  go_wp2_with fail
  go_ret2
  exact ⟨rfl, HS.out, (Kept.refl [] w).alloc _⟩
theorem rnew_bad (m : Int) (w : World) (h : ¬ (1 ≤ m ∧ m ≤ 16384)) :
    Calls Try.prog 13 #[.int .i64 m] w fun e w' => e = .returned (.tuple #[.pointer none, .int .i64 1]) ∧ w = w' := by
  by_cases h1 : m < 1
  · go_enter Try.func13, Try.ntmps13
    go_wp2_with fail
    go_ret2
    exact ⟨rfl, rfl⟩
  · have h2 : 16384 < m := by omega
    go_enter Try.func13, Try.ntmps13
    go_wp2_with fail
    go_ret2
    exact ⟨rfl, rfl⟩

def RPutPost (w : World) (F : List Nat) (b : Nat) (m : Int) (L : List Th) (x : Th) (e : Ending) (w' : World) : Prop :=
  e = .returned (.int .i64 (putE m L x)) ∧ Kept F w w' ∧ ∃ F', RSh w' F' b m (putL m L x) ∧ ∀ z ∈ F', z ∈ F ∨ w.heap.size ≤ z

theorem rput_done {w w4 : World} {F : List Nat} {b n g cap cc H : Nat} {m : Int} {L : List Th} {x : Th} {AA : Option Addr} (hm0 : 1 ≤ m) (hm1 : m ≤ 16384) (hl : n + 1 ≤ 16384) (hn : L.length = n) (he : putE m L x = 0)
    (hb : Blk w b #[.slice AA n cc, .int .i64 m] 78) (hN : (Value.slice AA n cc).ownBlock ≠ some b) (hF : F = b :: (Value.slice AA n cc).ownBlock.toList) (hbl : b < w.heap.size) (hk : Kept (Value.slice AA n cc).ownBlock.toList w w4)
    (ho : w4.ownsRow 0 40 3 (.slice (some ⟨g, 0, none⟩) (n + 1) cap) (n + 1) (cellsT L ++ [.int .i64 x.1, .int .i64 x.2.1, .string x.2.2])) (hat : (Value.slice AA n cc).ownBlock = some g ∨ g = H) (hH : w.heap.size ≤ H) :
    RPutPost w F b m L x (.returned (.int .i64 0)) (w4.setCell ⟨b, 0, none⟩ (.slice (some ⟨g, 0, none⟩) (n + 1) cap)) := by
  have hgb : g ≠ b := by
    rintro rfl
    rcases hat with h | h
    · exact hN h
    · omega
  have hks : Kept [b] w4 (w4.setCell ⟨b, 0, none⟩ (.slice (some ⟨g, 0, none⟩) (n + 1) cap)) := (Kept.refl [b] w4).setCell (.inl (by simp)) _
  have hL : putL m L x = L ++ [x] := by unfold putL; rw [he, if_pos rfl]
  refine ⟨by rw [he], ?_, b :: [g], ⟨hm0, hm1, by rw [hL, List.length_append, hn]; exact hl, .slice (some ⟨g, 0, none⟩) (n + 1) cap, ?_, ?_, rfl, ?_⟩, ?_⟩
  · rw [hF]
    exact (hk.mono (by intro z hz; exact List.mem_cons_of_mem _ hz)).trans (hks.mono (by simp))
  · exact (hb.kept hk (by simpa using hN)).set 0 _
  · rw [hL, List.length_append, hn, cellsT_app]
    exact ownsRow_keep ho hks (by intro z hz; simp [Value.ownBlock] at hz; subst hz; simpa using hgb)
  · simp [Value.ownBlock]; exact hgb
  · intro z hz
    simp at hz
    rcases hz with rfl | rfl
    · exact .inl (by rw [hF]; simp)
    · rcases hat with h | h
      · exact .inl (by rw [hF, h]; simp)
      · exact .inr (by omega)

set_option maxRecDepth 100000 in
set_option maxHeartbeats 4000000 in
theorem rput_any (F : List Nat) (b : Nat) (m : Int) (L : List Th) (x : Th) (w : World) (h : RSh w F b m L) :
    Calls Try.prog 33 #[.pointer (some ⟨b, 0, none⟩), spanV x, .string x.2.2] w (RPutPost w F b m L x) := by
  obtain ⟨i0, z0, hi0, hz0, hz1, hz2, hz3⟩ := thingInfo
  have HS := Lib.hid h
  obtain ⟨hm0, hm1, hl, lv, hb, ho, hF, hn⟩ := h
  obtain ⟨x1, x2, xs⟩ := x
  have c0 := hb.cell 0
  have c1 := hb.cell 1
  simp at c0 c1
  have HB := Lib.hid hb
  have HO := Lib.hid ho
  have HF := Lib.hid hF
  have HN := Lib.hid hn
  obtain ⟨AA, cc, rfl⟩ := own_len ho
  clear ho hF hn
  obtain ⟨n, hnl⟩ : ∃ n, L.length = n := ⟨_, rfl⟩
  rw [hnl] at hl c0 HN HF HO HB
  have HNL := Lib.hid hnl
  clear hnl hb
  unfold spanV
  dsimp only
  have same : ∀ W, Kept [] w W → ∀ e, putE m L (x1, x2, xs) = e → e ≠ 0 → RPutPost w F b m L (x1, x2, xs) (.returned (.int .i64 e)) W := fun W kW e he hne => by
    have hL : putL m L (x1, x2, xs) = L := by unfold putL; rw [he, if_neg hne]
    refine ⟨by rw [he], kW.nil, F, ?_, fun z hz => .inl hz⟩
    rw [hL]
    exact HS.out.keep kW
  have SAME := Lib.hid same
  have k1 := (Kept.refl [] w).alloc (.cells #[.int .i64 x1, .int .i64 x2] 29)
  have c0a := k1.cell (by simp) c0
  have c1a := k1.cell (by simp) c1
  have HK1 := Lib.hid k1
  clear same k1
  have h0 : m ≠ 0 := by omega
  by_cases h1 : badSpan (x1, x2, xs)
  · have BAD : ∀ e : Int, e = 1 → RPutPost w F b m L (x1, x2, xs) (.returned (.int .i64 e)) (w.alloc (.cells #[.int .i64 x1, .int .i64 x2] 29)) := fun e h => by subst h; exact SAME.out _ HK1.out 1 (by unfold putE; rw [if_neg h0, if_pos h1]) (by omega)
    have HBAD := Lib.hid BAD
    unfold badSpan at h1
    dsimp only at h1
    clear BAD
    by_cases g1 : x1 < 0
    · clear h1
      go_enter Try.func33, Try.ntmps33
      go_wp2_with fail
      go_ret
      exact HBAD.out 1 rfl
    by_cases g2 : x2 < x1
    · clear h1
      go_enter Try.func33, Try.ntmps33
      go_wp2_with fail
      go_ret
      exact HBAD.out 1 rfl
    have g3 : 1099511627776 < x2 := by omega
    clear h1
    go_enter Try.func33, Try.ntmps33
    go_wp2_with fail
    go_ret
    exact HBAD.out 1 rfl
  have g1 : ¬ x1 < 0 := fun c => h1 (.inl c)
  have g2 : ¬ x2 < x1 := fun c => h1 (.inr (.inl c))
  have g3 : ¬ 1099511627776 < x2 := fun c => h1 (.inr (.inr c))
  by_cases h2 : m ≤ n
  · have FULL := Lib.hid (fun q => SAME.out _ (HK1.out.drewN q) 6 (by unfold putE; rw [if_neg h0, if_neg h1, if_pos (by rw [HNL.out]; exact h2)]) (by omega))
    go_enter Try.func33, Try.ntmps33
    go_wp2_with fail
    go_quiet (fail)
    go_wp2_with fail
    go_ret
    exact FULL.out _
  · have OKE : Hid (putE m L (x1, x2, xs) = 0) := by show _ = _; unfold putE; rw [if_neg h0, if_neg h1, if_neg (by rw [HNL.out]; exact h2)]
    have hbl := HB.out.lt
    go_enter Try.func33, Try.ntmps33
    go_wp2_with fail
    go_quiet (fail)
    go_wp2_with fail
    go_region_law (refine step_append_lies _ rfl _ _ 35 rfl 0 40 i0 z0 3 32 Try.underlying35 hi0 hz0 hz1 hz2 hz3 (by decide) (.slice AA n cc) n (cellsT L) rfl (ownsRow_keep HO.out ((HK1.out.drewN _).alloc _) (by simp)) ⟨w.heap.size + 1, 0, none⟩ 1 1 [.int .i64 x1, .int .i64 x2, .string xs] rfl rfl (cell_three_at _ _ (by simp) _ _ _ _) (by simp [Value.oneCell']) (by omega) (by unfold maxLen; omega) (by omega) (Nat.zero_le _) _ rfl ?_; intro g cap w4 hown4 hgrow4 hat4 hlt4; have hk4 := Kept.grownOwn ((HK1.out.drewN _).alloc _) hgrow4; have hb4 := HB.out.kept hk4 (by simpa using HN.out); have c4 : w4.cell? ⟨b, 0, none⟩ = some (.slice AA n cc) := hb4.cell 0; have f4 : w4.frozen? ⟨b, 0, none⟩ = false := hb4.free 0; clear hgrow4)
    all_goals
      go_wp2_with fail
      go_ret
      refine rput_done hm0 hm1 (by omega) HNL.out OKE.out HB.out HN.out HF.out hbl hk4 hown4 hat4 (by simp; omega)

end Go.Proofs.Ytdboipjbpkhacaa

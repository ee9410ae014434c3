/- Put. -/
import Derived.Test.YtdboipjbpkhacaaS1
import Derived.StillTailTactics
import Derived.Deep.AppendLies
set_option linter.unusedVariables false
set_option linter.unusedSimpArgs false
set_option linter.unnecessarySimpa false
namespace Go.Proofs.Ytdboipjbpkhacaa
open Go.RowKit

theorem cell_three_at (w : World) (B : Nat) (hB : w.heap.size = B) (x y z : Value) (t : TypeId) : ∀ j u, [x, y, z][j]? = some u → (w.alloc (.cells #[x, y, z] t)).cell? ((⟨B, 0, none⟩ : Addr).add j) = some u := by
  subst hB; exact cell_three_new w x y z t
theorem Kept.grownOwn {a w w' : World} {v : Value} (h : Kept [] a w) (hg : w.grownBy w' v.ownBlock) : Kept v.ownBlock.toList a w' :=
  h.nil.grown hg (fun z hz => .inl (by rw [hz]; simp))

def badSpan (x : Th) : Prop := x.1 < 0 ∨ x.2.1 < x.1 ∨ 1099511627776 < x.2.1
instance (x : Th) : Decidable (badSpan x) := by unfold badSpan; infer_instance
def putE (m : Int) (L : List Th) (x : Th) : Int := if m = 0 then 2 else if badSpan x then 1 else if m ≤ L.length then 6 else 0
def putL (m : Int) (L : List Th) (x : Th) : List Th := if putE m L x = 0 then L ++ [x] else L
def PutPost (w : World) (F : List Nat) (b : Nat) (m : Int) (L : List Th) (x : Th) (e : Ending) (w' : World) : Prop :=
  e = .returned (.int .i64 (putE m L x)) ∧ Kept F w w' ∧ ∃ F', Sh w' F' b m (putL m L x) ∧ ∀ z ∈ F', z ∈ F ∨ w.heap.size ≤ z

theorem put_done {w w4 : World} {F : List Nat} {b n g cap cc H : Nat} {m : Int} {L : List Th} {x : Th} {AA : Option Addr} (hm0 : 0 ≤ m) (hm1 : m ≤ 16384) (hl : n + 1 ≤ 16384) (hn : L.length = n) (he : putE m L x = 0)
    (hb : Blk w b #[.int .i64 m, .slice AA n cc] 52) (hN : (Value.slice AA n cc).ownBlock ≠ some b) (hF : F = b :: (Value.slice AA n cc).ownBlock.toList) (hbl : b < w.heap.size) (hk : Kept (Value.slice AA n cc).ownBlock.toList w w4)
    (ho : w4.ownsRow 0 75 3 (.slice (some ⟨g, 0, none⟩) (n + 1) cap) (n + 1) (cellsT L ++ [.int .i64 x.1, .int .i64 x.2.1, .string x.2.2])) (hat : (Value.slice AA n cc).ownBlock = some g ∨ g = H) (hH : w.heap.size ≤ H) :
    PutPost w F b m L x (.returned (.int .i64 0)) (w4.setCell ⟨b, 1, none⟩ (.slice (some ⟨g, 0, none⟩) (n + 1) cap)) := by
  have hgb : g ≠ b := by
    rintro rfl
    rcases hat with h | h
    · exact hN h
    · omega
  have hks : Kept [b] w4 (w4.setCell ⟨b, 1, none⟩ (.slice (some ⟨g, 0, none⟩) (n + 1) cap)) := (Kept.refl [b] w4).setCell (.inl (by simp)) _
  have hL : putL m L x = L ++ [x] := by unfold putL; rw [he, if_pos rfl]
  refine ⟨by rw [he], ?_, b :: [g], ⟨hm0, hm1, by rw [hL, List.length_append, hn]; exact hl, .slice (some ⟨g, 0, none⟩) (n + 1) cap, ?_, ?_, rfl, ?_⟩, ?_⟩
  · rw [hF]
    exact (hk.mono (by intro z hz; exact List.mem_cons_of_mem _ hz)).trans (hks.mono (by simp))
  · exact (hb.kept hk (by simpa using hN)).set 1 _
  · rw [hL, List.length_append, hn, cellsT_app]
    exact ownsRow_keep ho hks (by intro z hz; simp [Value.ownBlock] at hz; subst hz; simpa using hgb)
  · simp [Value.ownBlock]; exact hgb
  · intro z hz
    simp at hz
    rcases hz with rfl | rfl
    · exact .inl (by rw [hF]; simp)
    · rcases hat with h | h
      · exact .inl (by rw [hF, h]; simp)
      · exact .inr (by omega)

set_option maxRecDepth 100000 in
set_option maxHeartbeats 4000000 in
theorem put_any (F : List Nat) (b : Nat) (m : Int) (L : List Th) (x : Th) (w : World) (h : Sh w F b m L) :
    Calls Try.prog 8 #[.pointer (some ⟨b, 0, none⟩), spanV x, .string x.2.2] w (PutPost w F b m L x) := by
  obtain ⟨i0, z0, hi0, hz0, hz1, hz2, hz3⟩ := thInfo
  have HS := Lib.hid h
  obtain ⟨hm0, hm1, hl, lv, hb, ho, hF, hn⟩ := h
  obtain ⟨x1, x2, xs⟩ := x
  have c0 := hb.cell 0
  have c1 := hb.cell 1
  simp at c0 c1
  have HB := Lib.hid hb
  have HO := Lib.hid ho
  have HF := Lib.hid hF
  have HN := Lib.hid hn
  obtain ⟨AA, cc, rfl⟩ := own_len ho
  clear ho hF hn
  obtain ⟨n, hnl⟩ : ∃ n, L.length = n := ⟨_, rfl⟩
  rw [hnl] at hl c1 HN HF HO HB
  have HNL := Lib.hid hnl
  clear hnl hb
  unfold spanV
  dsimp only
  have same : ∀ W, Kept [] w W → ∀ e, putE m L (x1, x2, xs) = e → e ≠ 0 → PutPost w F b m L (x1, x2, xs) (.returned (.int .i64 e)) W := fun W kW e he hne => by
    have hL : putL m L (x1, x2, xs) = L := by unfold putL; rw [he, if_neg hne]
    refine ⟨by rw [he], kW.nil, F, ?_, fun z hz => .inl hz⟩
    rw [hL]
    exact HS.out.keep kW
  have SAME := Lib.hid same
  have k1 := (Kept.refl [] w).alloc (.cells #[.int .i64 x1, .int .i64 x2] 29)
  have c0a := k1.cell (by simp) c0
  have c1a := k1.cell (by simp) c1
  have HK1 := Lib.hid k1
  clear same k1
  by_cases h0 : m = 0
  · subst h0
    go_enter Try.func8, Try.ntmps8
    go_wp2_with fail
    go_ret
    exact SAME.out _ HK1.out 2 (by unfold putE; rw [if_pos rfl]) (by omega)
  have hmb : (m == 0) = false := by simpa using h0
  by_cases h1 : badSpan (x1, x2, xs)
  · have BAD : ∀ e : Int, e = 1 → PutPost w F b m L (x1, x2, xs) (.returned (.int .i64 e)) (w.alloc (.cells #[.int .i64 x1, .int .i64 x2] 29)) := fun e h => by subst h; exact SAME.out _ HK1.out 1 (by unfold putE; rw [if_neg h0, if_pos h1]) (by omega)
    have HBAD := Lib.hid BAD
    unfold badSpan at h1
    dsimp only at h1
    clear BAD
    by_cases g1 : x1 < 0
    · clear h1
      go_enter Try.func8, Try.ntmps8
      go_wp2_with fail
      go_ret
      exact HBAD.out 1 rfl
    by_cases g2 : x2 < x1
    · clear h1
      go_enter Try.func8, Try.ntmps8
      go_wp2_with fail
      go_ret
      exact HBAD.out 1 rfl
    have g3 : 1099511627776 < x2 := by omega
    clear h1
    go_enter Try.func8, Try.ntmps8
    go_wp2_with fail
    go_ret
    exact HBAD.out 1 rfl
  have g1 : ¬ x1 < 0 := fun c => h1 (.inl c)
  have g2 : ¬ x2 < x1 := fun c => h1 (.inr (.inl c))
  have g3 : ¬ 1099511627776 < x2 := fun c => h1 (.inr (.inr c))
  by_cases h2 : m ≤ n
  · have FULL := Lib.hid (fun q => SAME.out _ (HK1.out.drewN q) 6 (by unfold putE; rw [if_neg h0, if_neg h1, if_pos (by rw [HNL.out]; exact h2)]) (by omega))
    go_enter Try.func8, Try.ntmps8
    go_wp2_with fail
    go_quiet (fail)
    go_wp2_with fail
    go_ret
    exact FULL.out _
  · have OKE : Hid (putE m L (x1, x2, xs) = 0) := by show _ = _; unfold putE; rw [if_neg h0, if_neg h1, if_neg (by rw [HNL.out]; exact h2)]
    have hbl := HB.out.lt
    go_enter Try.func8, Try.ntmps8
    go_wp2_with fail
    go_quiet (fail)
    go_wp2_with fail
    go_region_law (refine step_append_lies _ rfl _ _ 50 rfl 0 75 i0 z0 3 32 Try.underlying50 hi0 hz0 hz1 hz2 hz3 (by decide) (.slice AA n cc) n (cellsT L) rfl (ownsRow_keep HO.out ((HK1.out.drewN _).alloc _) (by simp)) ⟨w.heap.size + 1, 0, none⟩ 1 1 [.int .i64 x1, .int .i64 x2, .string xs] rfl rfl (cell_three_at _ _ (by simp) _ _ _ _) (by simp [Value.oneCell']) (by omega) (by unfold maxLen; omega) (by omega) (Nat.zero_le _) _ rfl ?_; intro g cap w4 hown4 hgrow4 hat4 hlt4; have hk4 := Kept.grownOwn ((HK1.out.drewN _).alloc _) hgrow4; have hb4 := HB.out.kept hk4 (by simpa using HN.out); have c4 : w4.cell? ⟨b, 1, none⟩ = some (.slice AA n cc) := hb4.cell 1; have f4 : w4.frozen? ⟨b, 1, none⟩ = false := hb4.free 1; clear hgrow4)
    all_goals
      go_wp2_with fail
      go_ret
      refine put_done hm0 hm1 (by omega) HNL.out OKE.out HB.out HN.out HF.out hbl hk4 hown4 hat4 (by simp; omega)

end Go.Proofs.Ytdboipjbpkhacaa

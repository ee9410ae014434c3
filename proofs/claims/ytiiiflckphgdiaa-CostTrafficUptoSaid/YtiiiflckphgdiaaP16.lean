/- Rates that are the same for all: the library's Repeat of one number. -/
import Derived.Test.YtiiiflckphgdiaaP14
import Derived.Deep.RegionHeld3
import Derived.Laws.CopyRow
import Derived.Laws.MakeOwn
set_option linter.unusedVariables false
set_option linter.unusedSimpArgs false
set_option linter.unnecessarySimpa false
namespace Go.Proofs.Ytiiiflckphgdiaa
open Go.RowKit Go.Shelf
attribute [local go_sem] Oper.semAt_some

theorem and_one : Go.bits .and .u64 1 4294967295 = 1 := by decide
theorem and_small : ∀ k : Fin 33, Go.bits .and .u64 (k.val : Int) 4294967295 = k.val := by decide

set_option maxRecDepth 100000 in
set_option maxHeartbeats 2000000 in
theorem mul64_any (n : Nat) (hn : n ≤ 32) (w : World) : Calls Try.prog 70 #[.int .u64 1, .int .u64 n] w fun e w' => e = .returned (.tuple #[.int .u64 0, .int .u64 n]) ∧ Kept [] w w' := by
  have e1 := and_one
  have e2 : Go.bits .and .u64 (n : Int) 4294967295 = n := and_small ⟨n, by omega⟩
  have e3 : (n : Int) / 4294967296 = 0 := by omega
  have e4 : IntKind.u64.wrap (n : Int) = n := by unfold IntKind.wrap; simp [IntKind.signed, IntKind.bits]; omega
  have e5 : IntKind.u64.wrap 0 = 0 := by decide
  have e6 : Go.bits .and .u64 0 4294967295 = 0 := by decide
  go_enter Try.func70, Try.ntmps70
  go_wp2_with fail
  go_ret2
  refine ⟨?_, Kept.refl _ _⟩
  simp [e1, e2, e3, e4, e5, e6]

set_option maxRecDepth 100000 in
set_option maxHeartbeats 2000000 in
theorem bmul_any (n : Nat) (hn : n ≤ 32) (w : World) : Calls Try.prog 47 #[.int .u64 1, .int .u64 n] w fun e w' => e = .returned (.tuple #[.int .u64 0, .int .u64 n]) ∧ Kept [] w w' := by
  have HM := Lib.hid (mul64_any n hn w)
  go_enter Try.func47, Try.ntmps47
  go_wp2_with fail
  refine HM.out.mono ?_
  rintro e w' ⟨rfl, hk⟩
  go_wp2_with fail
  go_ret2
  exact ⟨rfl, hk⟩

theorem Kept.setRow {S : List Nat} {a w : World} {g : Nat} (h : Kept S a w) (cs : Array Value) (hg : g ∈ S ∨ a.heap.size ≤ g) : Kept S a (w.setRow g cs) :=
  ⟨h.os, h.tape, h.output, by rw [setRow_size]; exact h.size, fun k hk hs => by
    rw [setRow_other _ _ _ _ (by rintro rfl; rcases hg with hg | hg; exact hs hg; omega)]
    exact h.block k hk hs⟩
def Ks (n : Nat) : List Int := List.replicate n 1024
/-- The first m cells are the number. -/
def Full (C : Array Value) (m : Nat) : Prop := ∀ i, i < m → C[i]? = some (.int .i64 1024)
theorem Full.list {C : Array Value} {n : Nat} (h : Full C n) (hs : C.size = n) : C.toList = (Ks n).map (.int .i64) := by
  unfold Ks
  rw [List.map_replicate]
  refine List.ext_getElem? (fun i => ?_)
  by_cases hi : i < n
  · rw [Array.getElem?_toList, h i hi]
    simp [hi]
  · rw [List.getElem?_eq_none (by simp; omega), List.getElem?_eq_none (by simp; omega)]

set_option maxRecDepth 100000 in
set_option maxHeartbeats 2000000 in
theorem repeat_any (b : Nat) (n : Nat) (w : World) (h1 : 1 ≤ n) (hn : n ≤ 32) (hx : w.cell? ⟨b, 0, none⟩ = some (.int .i64 1024)) (hb : b < w.heap.size) :
    Calls Try.prog 42 #[.slice (some ⟨b, 0, none⟩) 1 1, .int .i64 n] w (IntsPost w (Ks n)) := by
  obtain ⟨i0, hi0, hz0, hz1, hz2⟩ := info_parts info64
  have HM := Lib.hid (bmul_any n hn)
  have hinfo : (Try.prog.info? 2).map (·.size) = some 1 := by rw [hi0]; simp [hz1]
  have e4 : IntKind.u64.wrap (n : Int) = n := by unfold IntKind.wrap; simp [IntKind.signed, IntKind.bits]; omega
  have hmake : ∀ W : World, (Instr.makeSlice 22 (.int .i64 n) (.int .i64 n)).run Try.prog W = .ok (.slice (some ⟨W.heap.size, 0, none⟩) n n) (W.alloc (.cells (madeCells #[.int .i64 0] n) 2)) := fun W => by
    have := run_makeSlice W 22 2 i0 (.int .i64 0) Try.underlying22 hi0 hz0 .i64 .i64 n n (by omega) (by omega) (by rw [hz1]; omega) (by rw [hz2]; omega) (by omega)
    rw [hz1] at this
    simp at this
    exact this
  have HMK := Lib.hid hmake
  clear hmake
  go_enter Try.func42, Try.ntmps42
  go_wp2_with fail
  refine (HM.out _).mono ?_
  rintro e w1 ⟨rfl, hk⟩
  have hmake := HMK.out w1
  obtain ⟨g, hg⟩ : ∃ g, w1.heap.size = g := ⟨_, rfl⟩
  obtain ⟨C0, hC0⟩ : ∃ C0, madeCells #[.int .i64 0] n = C0 := ⟨_, rfl⟩
  have hC0s : C0.size = n := by rw [← hC0]; exact size_madeCells _ _
  rw [hC0, hg] at hmake
  obtain ⟨w2, hw2⟩ : ∃ w2, w1.alloc (.cells C0 2) = w2 := ⟨_, rfl⟩
  rw [hw2] at hmake
  have hg2 : w2.heap[g]? = some (.cells C0 2 (0, 0)) := by rw [← hw2, ← hg]; exact Blk.new w1 _ _
  have hgw : w.heap.size ≤ g := by have := hk.size; omega
  have hk2 : Kept [] w w2 := by rw [← hw2]; exact hk.alloc _
  have hx2 := hk2.cell (by simp) hx
  have hcopy : (Builtin.copy_ #[22, 22] 3 #[.slice (some ⟨g, 0, none⟩) n n, .slice (some ⟨b, 0, none⟩) 1 1]).run Try.prog w2 = .ok (goInt 1) (w2.setRow g (C0.toList.take 0 ++ [Value.int .i64 1024] ++ C0.toList.drop (0 + 1)).toArray) :=
    run_copy_row Try.prog w2 22 22 3 2 g 0 n n ⟨b, 0, none⟩ 1 1 C0 2 [Value.int .i64 1024] Try.underlying22 hinfo hg2 (by simp [Nat.min_def]; omega) (fun j v hj => by
      match j, hj with
      | 0, hj => injection hj with hj; subst hj; exact hx2
      | j + 1, hj => simp at hj) (by simp; omega) (by simp [Value.oneCell'])
  obtain ⟨C1, hC1⟩ : ∃ C1, (C0.toList.take 0 ++ [Value.int .i64 1024] ++ C0.toList.drop (0 + 1)).toArray = C1 := ⟨_, rfl⟩
  rw [hC1] at hcopy
  have hC1s : C1.size = n := by rw [← hC1]; simp; omega
  have hC1f : Full C1 1 := by
    intro i hi
    have : i = 0 := by omega
    subst this
    rw [← hC1]
    simp
  have hk3 : Kept [] w (w2.setRow g C1) := hk2.setRow _ (.inr hgw)
  have hg3 : (w2.setRow g C1).heap[g]? = some (.cells C1 2 (0, 0)) := setRow_heap w2 g C0 C1 _ _ hg2
  obtain ⟨w3, hw3⟩ : ∃ w3, w2.setRow g C1 = w3 := ⟨_, rfl⟩
  rw [hw3] at hk3 hg3 hcopy
  clear hw3 hw2 hC0 hC1 hg2 hk2 hx2
  go_wp2_with fail
  go_loopw [8] (fun ii wr => ∃ (m : Nat) (C : Array Value), 1 ≤ m ∧ m ≤ n ∧ ii = .int .i64 m ∧ wr.heap[g]? = some (.cells C 2 (0, 0)) ∧ C.size = n ∧ Full C m ∧ Kept [] w wr) (fun ii _ => n - (intOf ii).toNat)
  case atStart => exact ⟨1, C1, by omega, h1, rfl, hg3, hC1s, hC1f, hk3⟩
  case round =>
    obtain ⟨m, C, hm1, hmn, rfl, hgr, hCs, hCf, hK⟩ := hrel
    have HCF := Lib.hid hCf
    have HK := Lib.hid hK
    have HGR := Lib.hid hgr
    clear hmake hcopy hg3 hC1s hC1f hk3 hCf hK
    by_cases hlt : m < n
    · obtain ⟨c, hc⟩ : ∃ c, Nat.min m (n - m) = c := ⟨_, rfl⟩
      have hc1 : 1 ≤ c ∧ m + c ≤ n := by rw [← hc]; simp only [Nat.min_def]; split <;> omega
      have hcopyW : ∀ W : World, W.heap = wr.heap → (Builtin.copy_ #[22, 22] 3 #[.slice (some ⟨g, m, none⟩) (n - m) (n - m), .slice (some ⟨g, 0, none⟩) m n]).run Try.prog W = .ok (goInt c) (W.setRow g (C.toList.take m ++ List.replicate c (Value.int .i64 1024) ++ C.toList.drop (m + c)).toArray) := fun W hW => by
        have hgW : W.heap[g]? = some (.cells C 2 (0, 0)) := by rw [hW]; exact HGR.out
        have := run_copy_row Try.prog W 22 22 3 2 g m (n - m) (n - m) ⟨g, 0, none⟩ m n C 2 (List.replicate c (Value.int .i64 1024)) Try.underlying22 hinfo hgW (by rw [List.length_replicate, ← hc]) (fun j v hj => by
          rw [List.getElem?_replicate] at hj
          split at hj
          · rename_i hjc
            injection hj with hj
            subst hj
            have ha : (⟨g, 0, none⟩ : Addr).add j = ⟨g, j, none⟩ := by unfold Addr.add; split <;> simp_all
            rw [ha]
            have hb : Blk W g C 2 := hgW
            rw [hb.cell j]
            exact HCF.out j (by rw [← hc] at hjc; exact Nat.lt_of_lt_of_le hjc (Nat.min_le_left _ _))
          · cases hj) (by rw [List.length_replicate, hCs]; exact hc1.2) (by simp [Value.oneCell'])
        rwa [List.length_replicate] at this
      obtain ⟨C', hC'⟩ : ∃ C', (C.toList.take m ++ List.replicate c (Value.int .i64 1024) ++ C.toList.drop (m + c)).toArray = C' := ⟨_, rfl⟩
      rw [hC'] at hcopyW
      have hCs' : C'.size = n := by rw [← hC']; simp; omega
      have hCf' : Full C' (m + c) := by
        intro i hi
        rw [← hC']
        rw [List.getElem?_toArray, List.append_assoc]
        by_cases him : i < m
        · rw [List.getElem?_append_left (by simp; omega), List.getElem?_take, if_pos him, Array.getElem?_toList]
          exact HCF.out i him
        · rw [List.getElem?_append_right (by simp; omega), List.getElem?_append_left (by simp; omega), List.getElem?_replicate, if_pos (by simp; omega)]
      have HCF' := Lib.hid hCf'
      have hcopy0 := hcopyW wr rfl
      have hcopy1 := hcopyW wr.drew rfl
      have hcopy2 : ∀ q, (Builtin.copy_ #[22, 22] 3 #[.slice (some ⟨g, m, none⟩) (n - m) (n - m), .slice (some ⟨g, 0, none⟩) m n]).run Try.prog (wr.drewN q) = .ok (goInt c) ((wr.drewN q).setRow g C') := fun q => hcopyW _ rfl
      have hb1 : (0 : Int) ≤ (m : Int) := by omega
      have hb2 : (m : Int) ≤ (n : Int) := by omega
      have hb3 : ¬ n = m := by omega
      have hb4 : ¬ n - m = 0 := by omega
      have hwmc : IntKind.i64.wrap ((m : Int) + (c : Int)) = (m : Int) + c := by unfold IntKind.wrap; simp [IntKind.signed, IntKind.bits]; omega
      clear hc hC' hCf' hcopyW hgr
      go_wp2_with fail
      go_region_held3 (fun _ => True) (trivial) (fail)
      all_goals
        go_wp2_with fail
        go_roundw
        case rel => exact ⟨m + c, C', by omega, hc1.2, by go_num, setRow_heap _ g C C' _ _ HGR.out, hCs', HCF'.out, by first | exact HK.out.setRow _ (.inr hgw) | exact HK.out.drew.setRow _ (.inr hgw) | exact (HK.out.drewN _).setRow _ (.inr hgw)⟩
        case measure => simp [intOf]; omega
    · have hmn' : m = n := by omega
      subst hmn'
      go_wp2_with fail
      go_ret
      refine ⟨_, rfl, ?_, HK.out⟩
      refine ⟨by simp [Ks], .inr ⟨g, m, C, by simp [Ks], hgw, HGR.out, by simp [Ks], by unfold maxLen; omega, by omega, ?_⟩⟩
      rw [HCF.out.list hCs]
      simp [Ks]

end Go.Proofs.Ytiiiflckphgdiaa

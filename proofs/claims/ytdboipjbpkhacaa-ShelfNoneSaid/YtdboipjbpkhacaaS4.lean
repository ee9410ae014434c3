/- Len, Most, Clone. -/
import Derived.Test.YtdboipjbpkhacaaS3
set_option linter.unusedVariables false
set_option linter.unusedSimpArgs false
set_option linter.unnecessarySimpa false
namespace Go.Proofs.Ytdboipjbpkhacaa
open Go.RowKit Go.Shelf

/-- v reads as the things L. -/
def RdT (w : World) (v : Value) (L : List Th) : Prop :=
  ∃ A c, v = .slice A L.length c ∧ L.length ≤ 16384 ∧ (L ≠ [] → ∃ b off, A = some ⟨b, off, none⟩ ∧ ∀ i x, L[i]? = some x → w.cell? ⟨b, off + i * 3, none⟩ = some (.int .i64 x.1) ∧ w.cell? ⟨b, off + i * 3 + 1, none⟩ = some (.int .i64 x.2.1) ∧ w.cell? ⟨b, off + i * 3 + 2, none⟩ = some (.string x.2.2))
theorem RdT.kept {S : List Nat} {w w' : World} {v : Value} {L : List Th} (h : RdT w v L) (hk : Kept S w w') (hs : ∀ b, v.ownBlock = some b → b ∉ S) : RdT w' v L := by
  obtain ⟨A, c, rfl, hm, h⟩ := h
  refine ⟨A, c, rfl, hm, fun hn => ?_⟩
  obtain ⟨b, off, rfl, hc⟩ := h hn
  exact ⟨b, off, rfl, fun i x hx => ⟨hk.cell (hs b rfl) (hc i x hx).1, hk.cell (hs b rfl) (hc i x hx).2.1, hk.cell (hs b rfl) (hc i x hx).2.2⟩⟩
theorem RdT.keep {w w' : World} {v : Value} {L : List Th} (h : RdT w v L) (hk : Kept [] w w') : RdT w' v L := h.kept hk (by simp)
theorem RdT.nil (w : World) : RdT w (.slice none 0 0) [] := ⟨none, 0, rfl, by simp, fun h => absurd rfl h⟩
theorem RdT.of_own {w : World} {base : Nat} {e : TypeId} {v : Value} {n : Nat} {L : List Th} (h : w.ownsRow base e 3 v n (cellsT L)) (h2 : L.length ≤ 16384) : RdT w v L ∧ n = L.length := by
  have hl : n = L.length := by have := h.1; rw [cellsT_len] at this; omega
  subst hl
  refine ⟨?_, rfl⟩
  by_cases h0 : L = []
  · subst h0
    obtain ⟨A, c, rfl⟩ := own_len h
    exact ⟨A, c, rfl, h2, fun hn => absurd rfl hn⟩
  · obtain ⟨g, cap, rfl, _, _⟩ := h.form (List.length_pos_iff.2 h0)
    refine ⟨_, cap, rfl, h2, fun _ => ⟨g, 0, rfl, fun i x hx => ?_⟩⟩
    have hi := (List.getElem?_eq_some_iff.1 hx).1
    have := cellsT_get L i x hx
    rw [Nat.zero_add, h.cellAt _ (by omega), h.cellAt _ (by omega), h.cellAt _ (by omega)]
    exact this

theorem len_any (F : List Nat) (b : Nat) (m : Int) (L : List Th) (w : World) (h : Sh w F b m L) : Calls Try.prog 18 #[.pointer (some ⟨b, 0, none⟩)] w fun e w' => e = .returned (.int .i64 L.length) ∧ w = w' := by
  obtain ⟨hm0, hm1, hl, lv, hb, ho, hF, hn⟩ := h
  have c1 := hb.cell 1
  simp at c1
  obtain ⟨AA, cc, rfl⟩ := own_len ho
  clear ho hF hn hb
  go_enter Try.func18, Try.ntmps18
  go_wp2_with fail
  go_ret
  exact ⟨rfl, rfl⟩
theorem len_nil (w : World) : Calls Try.prog 18 #[.pointer none] w fun e w' => e = .returned (.int .i64 0) ∧ w = w' := by
  go_enter Try.func18, Try.ntmps18
  go_wp2_with fail
  go_ret
  exact ⟨rfl, rfl⟩
theorem most_any (F : List Nat) (b : Nat) (m : Int) (L : List Th) (w : World) (h : Sh w F b m L) : Calls Try.prog 19 #[.pointer (some ⟨b, 0, none⟩)] w fun e w' => e = .returned (.int .i64 m) ∧ w = w' := by
  obtain ⟨hm0, hm1, hl, lv, hb, ho, hF, hn⟩ := h
  have c0 := hb.cell 0
  simp at c0
  clear ho hF hn hb
  go_enter Try.func19, Try.ntmps19
  go_wp2_with fail
  go_ret
  exact ⟨rfl, rfl⟩
theorem most_nil (w : World) : Calls Try.prog 19 #[.pointer none] w fun e w' => e = .returned (.int .i64 0) ∧ w = w' := by
  go_enter Try.func19, Try.ntmps19
  go_wp2_with fail
  go_ret
  exact ⟨rfl, rfl⟩

attribute [local go_sem] Lib.run_eql_slice_nil
theorem own_empty (w : World) (base : Nat) (hb : base ≤ w.heap.size) : (w.alloc (.cells #[] 75)).ownsRow base 75 3 (.slice (some ⟨w.heap.size, 0, none⟩) 0 0) 0 [] := by
  refine ⟨rfl, .inr ⟨w.heap.size, 0, #[], rfl, hb, ?_, Nat.le_refl _, by unfold maxLen; omega, rfl, rfl⟩⟩
  exact Blk.new w _ _

/-- What hands out a new row of things. -/
def RowPost (w : World) (L : List Th) (e : Ending) (w' : World) : Prop :=
  ∃ v, e = .returned v ∧ w'.ownsRow w.heap.size 75 3 v L.length (cellsT L) ∧ Kept [] w w'

set_option maxRecDepth 100000 in
set_option maxHeartbeats 4000000 in
theorem clones_any (v : Value) (L : List Th) (base : Nat) (w : World) (ho : w.ownsRow base 75 3 v L.length (cellsT L)) (hl : L.length ≤ 16384) :
    Calls Try.prog 30 #[v] w (RowPost w L) := by
  obtain ⟨i0, z0, hi0, hz0, hz1, hz2, hz3⟩ := thInfo
  rcases ho.2 with ⟨rfl, h0⟩ | ⟨g, cap, cur, rfl, hbg, hg, hnc, hcm, hcs, htk⟩
  · have e : L = [] := List.eq_nil_of_length_eq_zero h0
    subst e
    clear ho
    go_enter Try.func30, Try.ntmps30
    go_wp2_with fail
    go_ret
    exact ⟨_, rfl, World.ownsRow_nil _ _ _ _, Kept.refl _ _⟩
  · have HC : Hid (∀ j u, (cellsT L)[j]? = some u → w.cell? ((⟨g, 0, none⟩ : Addr).add j) = some u) := fun j u hu => by
      have ha : (⟨g, 0, none⟩ : Addr).add j = ⟨g, j, none⟩ := by unfold Addr.add; split <;> simp_all
      have hj := (List.getElem?_eq_some_iff.1 hu).1
      rw [cellsT_len] at hj
      rw [ha, ho.cellAt j hj]; exact hu
    have HLN := Lib.hid (cellsT_len L)
    obtain ⟨n, hn⟩ : ∃ n, L.length = n := ⟨_, rfl⟩
    rw [hn] at hl hnc HLN ⊢
    have HN := Lib.hid hn
    clear hn ho hg hcs htk
    unfold maxLen at hcm
    go_enter Try.func30, Try.ntmps30
    go_wp2_with (at_builtin; refine wpList_append_own _ rfl _ _ 50 rfl w.heap.size 75 i0 z0 3 32 Try.underlying50 hi0 hz0 hz1 hz2 hz3 (by decide) _ 0 [] rfl (own_empty w _ (Nat.le_refl _)) ⟨g, 0, none⟩ n cap (cellsT L) rfl HLN.out (fun j u hu => ((Kept.refl [] w).alloc _).cell (by simp) (HC.out j u hu)) (fun u hu => cellsT_one hu) (by unfold maxLen; omega) (by omega) (by simp) ?_)
    intro v' w4 hown4 hgrow4 _
    have hK4 : Kept [] w w4 := ((Kept.refl [] w).alloc _).grown hgrow4 (fun x hx => .inr (by simp [Value.ownBlock] at hx; omega))
    have HOWN4 := Lib.hid hown4
    clear hown4 hgrow4
    go_wp2_with fail
    go_ret
    refine ⟨_, rfl, ?_, hK4⟩
    have := HOWN4.out
    rw [HN.out]
    simpa using this

/-- What Clone hands out. -/
def TwinPost (w : World) (m : Int) (L : List Th) (e : Ending) (w' : World) : Prop :=
  ∃ b' F', e = .returned (.pointer (some ⟨b', 0, none⟩)) ∧ Sh w' F' b' m L ∧ (∀ z ∈ F', w.heap.size ≤ z) ∧ Kept [] w w'

theorem twin_own {w W w2 : World} {v' : Value} {n : Nat} {xs : List Value} (hk : Kept [] w w2) (hW : W.heap.size ≤ w2.heap.size) (ho : w2.ownsRow W.heap.size 75 3 v' n xs) (hs : w.heap.size ≤ W.heap.size := by first | exact Nat.le_refl _ | simp) : w2.ownsRow w.heap.size 75 3 v' n xs := rowBase ho hs
theorem twin_done {w w2 : World} {m : Int} {L : List Th} {v' : Value} (hm0 : 0 ≤ m) (hm1 : m ≤ 16384) (hl : L.length ≤ 16384) (hk : Kept [] w w2) (ho : w2.ownsRow w.heap.size 75 3 v' L.length (cellsT L)) :
    TwinPost w m L (.returned (.pointer (some ⟨w2.heap.size, 0, none⟩))) (w2.alloc (.cells #[.int .i64 m, v'] 52)) := by
  refine ⟨w2.heap.size, w2.heap.size :: v'.ownBlock.toList, rfl, ⟨hm0, hm1, hl, v', Blk.new w2 _ _, ?_, rfl, ?_⟩, ?_, hk.alloc _⟩
  · exact ownsRow_keep (rowBase ho (Nat.zero_le _)) ((Kept.refl [] w2).alloc _) (by simp)
  · intro hx
    have := (ho.lt _ hx).2
    omega
  · intro z hz
    simp at hz
    rcases hz with rfl | hz
    · exact hk.size
    · exact (ho.lt z hz).1

set_option maxRecDepth 100000 in
set_option maxHeartbeats 4000000 in
theorem clone_any (F : List Nat) (b : Nat) (m : Int) (L : List Th) (w : World) (h : Sh w F b m L) (hm : m ≠ 0) : Calls Try.prog 9 #[.pointer (some ⟨b, 0, none⟩)] w (TwinPost w m L) := by
  obtain ⟨hm0, hm1, hl, lv, hb, ho, hF, hn⟩ := h
  have c0 := hb.cell 0
  have c1 := hb.cell 1
  simp at c0 c1
  have hmb : (m == 0) = false := by simpa using hm
  have CL := Lib.hid (fun (W : World) (k : Kept [] w W) => clones_any lv L 0 W (ownsRow_keep ho k (by simp)) hl)
  clear ho hF hn hb hm
  go_enter Try.func9, Try.ntmps9
  go_wp2_with fail
  go_region_with (go_at_call 30; refine (CL.out _ (by first | exact (Kept.refl [] w).drew | exact (Kept.refl [] w).drewN _ | exact Kept.refl [] w)).mono ?_; rintro e w2 ⟨v', rfl, ho2, hk2⟩; have hk3 : Kept [] w w2 := Kept.trans (by first | exact (Kept.refl [] w).drew | exact (Kept.refl [] w).drewN _ | exact Kept.refl [] w) hk2; have d0 := hk3.cell (by simp) c0; have d1 := hk3.cell (by simp) c1; have ho3 := twin_own hk3 (by first | exact hk2.size) ho2; clear ho2 hk2; obtain ⟨A2, cc2, rfl⟩ := own_len ho3)
  all_goals
    go_wp2_with fail
    go_ret
    exact twin_done hm0 hm1 hl hk3 ho3

theorem clone_nil (w : World) : Calls Try.prog 9 #[.pointer none] w fun e w' => e = .returned (.pointer none) ∧ w = w' := by
  go_enter Try.func9, Try.ntmps9
  go_wp2_with fail
  go_ret
  exact ⟨rfl, rfl⟩
theorem clone_zero (F : List Nat) (b : Nat) (L : List Th) (w : World) (h : Sh w F b 0 L) : Calls Try.prog 9 #[.pointer (some ⟨b, 0, none⟩)] w fun e w' => e = .returned (.pointer none) ∧ w = w' := by
  obtain ⟨hm0, hm1, hl, lv, hb, ho, hF, hn⟩ := h
  have c0 := hb.cell 0
  simp at c0
  clear ho hF hn hb
  go_enter Try.func9, Try.ntmps9
  go_wp2_with fail
  go_ret
  exact ⟨rfl, rfl⟩

end Go.Proofs.Ytdboipjbpkhacaa

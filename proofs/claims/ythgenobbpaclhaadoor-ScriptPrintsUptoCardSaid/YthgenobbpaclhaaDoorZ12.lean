/- Scripts, the program's: an engine's line. -/
import Derived.Test.YthgenobbpaclhaaDoorZ8
set_option linter.unusedVariables false
set_option linter.unusedSimpArgs false
set_option linter.unnecessarySimpa false
namespace Go.Proofs.YthgenobbpaclhaaDoor
open Go.RowKit Go.Shelf
attribute [local go_sem] Oper.semAt_some

/-- An engine. -/
structure ConfD where
  parents : List Int
  sources : List Int
  slide : Int
def confC (c : ConfD) (pv sv : Value) : Array Value := #[pv, sv, .int .i64 c.slide]
def ConfV (w : World) (c : ConfD) (pv sv : Value) : Prop := RdI w .i64 pv c.parents ∧ RdI w .i64 sv c.sources
theorem ConfV.keep {w w' : World} {c : ConfD} {pv sv : Value} (h : ConfV w c pv sv) (hk : Kept [] w w') : ConfV w' c pv sv := ⟨h.1.keep hk, h.2.keep hk⟩
structure ConfSm (c : ConfD) : Prop where
  plen : c.parents.length ≤ 1048576
  parents : ∀ n ∈ c.parents, I64 n
  slen : c.sources.length ≤ 1048576
  sources : ∀ n ∈ c.sources, I64 n
  slide : I64 c.slide
def engB : ByteArray := { data := #[101, 110, 103, 105, 110, 101] }
def headW (c : ConfD) : List ByteArray := [engB, numT c.slide] ++ listW c.parents ++ listW c.sources
def headT (c : ConfD) : ByteArray := joinT (headW c)
theorem listW_len (l : List Int) : (listW l).length = l.length + 1 := by unfold listW; rw [List.length_cons, List.length_map]
theorem headW_len {c : ConfD} (h : ConfSm c) : (headW c).length = 4 + c.parents.length + c.sources.length := by
  unfold headW
  rw [List.length_append, List.length_append, listW_len, listW_len]
  simp
  omega
theorem headW_size {c : ConfD} (h : ConfSm c) : ∀ u ∈ headW c, u.size ≤ 300 := by
  have nl : ∀ l : List Int, l.length ≤ 1048576 → (∀ n ∈ l, I64 n) → ∀ u ∈ listW l, u.size ≤ 300 := fun l hl hn u hu => by
    unfold listW at hu
    rcases List.mem_cons.1 hu with rfl | hu
    · exact num_size ⟨by omega, by omega⟩
    · obtain ⟨n, hm, rfl⟩ := List.mem_map.1 hu; exact num_size (hn n hm)
  intro u hu
  unfold headW at hu
  rcases List.mem_append.1 hu with hu | hu
  · rcases List.mem_append.1 hu with hu | hu
    · simp at hu
      rcases hu with rfl | rfl
      · decide
      · exact num_size h.slide
    · exact nl _ h.plen h.parents u hu
  · exact nl _ h.slen h.sources u hu
theorem headT_size {c : ConfD} (h : ConfSm c) : (headT c).size ≤ 700000000 := by
  have h1 := joinT_size (headW c) 300 (headW_size h)
  rw [headW_len h] at h1
  have h2 := h.plen
  have h3 := h.slen
  unfold headT
  omega
theorem cW_one (ws : List ByteArray) : ∀ u ∈ cW ws, u.oneCell' = true := fun u hu => by
  unfold cW at hu
  obtain ⟨z, _, rfl⟩ := List.mem_map.1 hu
  rfl
theorem OwnS.cells {w : World} {base g c n : Nat} {ws : List ByteArray} (h : OwnS w base (.slice (some ⟨g, 0, none⟩) n c) ws) : ∀ j u, (cW ws)[j]? = some u → w.cell? ((⟨g, 0, none⟩ : Addr).add j) = some u := fun j u hu => World.ownsRow.cells h (g := g) rfl j u hu
theorem OwnS.cells' {w : World} {base g c n : Nat} {ws : List ByteArray} (h : OwnS w base (.slice (some ⟨g, 0, none⟩) n c) ws) : ∀ j u, (cW ws)[j]? = some u → w.cell? ((⟨g, 0, none⟩ : Addr).add j) = some u := h.cells
theorem OwnS.at_pos {w : World} {base : Nat} {v : Value} {ws : List ByteArray} (h : OwnS w base v ws) (h0 : 0 < ws.length) : ∃ g cap, v = .slice (some ⟨g, 0, none⟩) ws.length cap := by
  rcases h.2 with ⟨_, hz⟩ | ⟨g, cap, cur, rfl, _⟩
  · omega
  · exact ⟨g, cap, rfl⟩

set_option maxRecDepth 100000 in
set_option maxHeartbeats 4000000 in
theorem head_any (c : ConfD) (pv sv : Value) (w : World) (hc : ConfV w c pv sv) (sm : ConfSm c) (ht : TabVar w) : Calls Tryd.prog 12 #[.agg (confC c pv sv)] w fun e w' => e = .returned (.string (headT c)) ∧ Kept [] w w' := by
  obtain ⟨i0, hi0, hz0, hz1, hz2⟩ := info_parts infoStr5
  have HC := Lib.hid hc
  have SM := Lib.hid sm
  have HT := Lib.hid ht
  obtain ⟨PA, pc, rfl, hp1, _⟩ := hc.1
  obtain ⟨SA, sc, rfl, hs1, _⟩ := hc.2
  have hpl := sm.plen
  have hsl := sm.slen
  clear hc sm ht hp1 hs1
  obtain ⟨W0, hW0⟩ : ∃ W0, w.alloc (.cells #[.slice PA c.parents.length pc, .slice SA c.sources.length sc, .int .i64 c.slide] 24) = W0 := ⟨_, rfl⟩
  have HK0 : Hid (Kept [] w W0) := by show Kept _ _ _; rw [← hW0]; exact (Kept.refl [] w).alloc _
  have HB0 : Hid (Blk W0 w.heap.size #[.slice PA c.parents.length pc, .slice SA c.sources.length sc, .int .i64 c.slide] 24) := by show Blk _ _ _ _; rw [← hW0]; exact Blk.new _ _ _
  have HW0 := Lib.hid hW0
  clear hW0
  have HNU : Hid (∀ W, Kept [] W0 W → Calls Tryd.prog 22 #[.int .i64 c.slide] W fun e w' => e = .returned (.string (numT c.slide)) ∧ Kept [] W w') := fun W hk => num_any c.slide SM.out.slide W (HT.out.keep (HK0.out.trans hk))
  have HLP : Hid (∀ W, Kept [] W0 W → Calls Tryd.prog 23 #[.slice PA c.parents.length pc] W (WordsPost W (listW c.parents))) := fun W hk => list_any _ c.parents W (HC.out.1.keep (HK0.out.trans hk)) hpl SM.out.parents (HT.out.keep (HK0.out.trans hk))
  have HLS : Hid (∀ W, Kept [] W0 W → Calls Tryd.prog 23 #[.slice SA c.sources.length sc] W (WordsPost W (listW c.sources))) := fun W hk => list_any _ c.sources W (HC.out.2.keep (HK0.out.trans hk)) hsl SM.out.sources (HT.out.keep (HK0.out.trans hk))
  have HF : Hid (∀ W, Kept [] W0 W → W.cell? ⟨w.heap.size, 0, none⟩ = some (.slice PA c.parents.length pc) ∧ W.cell? ⟨w.heap.size, 1, none⟩ = some (.slice SA c.sources.length sc) ∧ W.cell? ⟨w.heap.size, 2, none⟩ = some (.int .i64 c.slide)) := fun W hk => by
    have h := HB0.out.kept hk (by simp)
    exact ⟨h.cell 0, h.cell 1, h.cell 2⟩
  obtain ⟨a0, a1, a2⟩ := HF.out _ (Kept.refl _ _)
  have hmx' : Tryd.prog.follows .mixedOrders = true := by kernel_rfl
  have HP1 := Lib.hid (listW_len c.parents)
  have HS1 := Lib.hid (listW_len c.sources)
  dsimp only [confC]
  go_enter Tryd.func12, Tryd.ntmps12
  go_upto_region 1 with fail
  rw [show w.alloc (.cells #[.slice PA c.parents.length pc, .slice SA c.sources.length sc, .int .i64 c.slide] 24) = W0 from HW0.out]
  go_cut [3] from 4 (fun p wx => OwnS wx W0.heap.size p ([engB, numT c.slide] ++ listW c.parents) ∧ Kept [] W0 wx)
  case first =>
    go_region_held3 (fun w' => w'.cell? ⟨w.heap.size, 0, none⟩ = some (.slice PA c.parents.length pc) ∧ w'.cell? ⟨w.heap.size, 1, none⟩ = some (.slice SA c.sources.length sc) ∧ w'.cell? ⟨w.heap.size, 2, none⟩ = some (.int .i64 c.slide)) (first | exact ⟨a0, a1, a2⟩ | exact HF.out _ (Kept.refl _ _).drew | exact HF.out _ HK1.out | exact HF.out _ (HK1.out.alloc _) | exact HF.out _ HK2.out | exact HF.out _ (HK2.out.alloc _) | exact HF.out _ HK6.out) (first
      | (go_at_call 22; refine (HNU.out _ (Kept.refl _ _).drew).mono ?_; rintro e w1 ⟨rfl, hk1⟩; have HK1 : Hid (Kept [] W0 w1) := ((Kept.refl [] W0).drew).trans hk1; clear hk1)
      | (go_at_call 23; first
          | (refine (HLP.out _ HK1.out).mono ?_; rintro e w2 ⟨v2, rfl, ho2, hk2⟩; have HK2 : Hid (Kept [] W0 w2) := HK1.out.trans hk2; have HOB := Lib.hid ((OwnS.lit w2 W0.heap.size [engB, numT c.slide] HK2.out.size (by simp) (by simp [maxLen]))); have HAT : Hid (∀ W', Kept [] w2 W' → OwnS W' w1.heap.size v2 (listW c.parents)) := fun W' hk => ho2.keep hk; obtain ⟨g2, cap2, rfl⟩ := ho2.at_pos (by have := HP1.out; omega); clear hk2 ho2)
          | (refine (HLP.out _ (HK1.out.alloc _)).mono ?_; rintro e w2 ⟨v2, rfl, ho2, hk2⟩; have HK2 : Hid (Kept [] W0 w2) := (HK1.out.alloc _).trans hk2; have HOB := Lib.hid ((OwnS.lit w1 W0.heap.size [engB, numT c.slide] HK1.out.size (by simp) (by simp [maxLen])).keep hk2); have HAT : Hid (∀ W', Kept [] w2 W' → OwnS W' _ v2 (listW c.parents)) := fun W' hk => ho2.keep hk; obtain ⟨g2, cap2, rfl⟩ := ho2.at_pos (by have := HP1.out; omega); clear hk2 ho2))
      | (refine step_append_lies _ (by rfl) _ _ 62 (by rfl) W0.heap.size 9 i0 (.string { data := #[] }) 1 16 Tryd.underlying62 hi0 hz0 hz1 hz2 (by rfl) (by decide) (.slice (some ⟨_, 0, none⟩) 2 2) 2 (cW [engB, numT c.slide]) (by rfl) HOB.out ⟨g2, 0, none⟩ (listW c.parents).length cap2 (cW (listW c.parents)) (by rfl) (by unfold cW; rw [List.length_map, Nat.mul_one]) (by first | exact (HAT.out _ (Kept.refl _ _)).cells | exact (HAT.out _ ((Kept.refl _ _).alloc _)).cells) (cW_one _) (by have := HP1.out; omega) (by have := HP1.out; unfold maxLen; omega) (by have := HP1.out; omega) (by have := HK2.out.size; first | exact this | (simp; omega)) _ rfl ?_; intro g3 cap3 w6 hown6 hgrow6 hat6 hlt6; have HK6 : Hid (Kept [] W0 w6) := (by first | exact Kept.grown HK2.out hgrow6 (fun x hx => .inr (World.ownsRow.lt HOB.out _ hx).1) | exact Kept.grown (HK2.out.alloc _) hgrow6 (fun x hx => .inr (World.ownsRow.lt HOB.out _ hx).1))))
    all_goals (go_wp2_with fail)
    all_goals go_meet
    all_goals (refine ⟨?_, HK6.out⟩)
    all_goals (show World.ownsRow _ _ _ _ _ _ _)
    all_goals (rw [List.length_append])
    all_goals (unfold cW at hown6 ⊢)
    all_goals (rw [List.map_append])
    all_goals (exact hown6)
  case rest =>
    obtain ⟨hown, hkc⟩ := hcut
    have HKC := Lib.hid hkc
    have HOC := Lib.hid hown
    obtain ⟨CA, cc, rfl⟩ := hown.len
    obtain ⟨s0, s1, s2⟩ := HF.out _ hkc
    have hcl : ([engB, numT c.slide] ++ listW c.parents).length = c.parents.length + 3 := by rw [List.length_append, HP1.out]; simp; omega
    have HCL := Lib.hid hcl
    rw [hcl] at HOC ⊢
    have HOCR : Hid (wc.ownsRow W0.heap.size 9 1 (.slice CA (c.parents.length + 3) cc) (c.parents.length + 3) (cW ([engB, numT c.slide] ++ listW c.parents))) := by have := HOC.out; unfold OwnS at this; rwa [HCL.out] at this
    clear hown hkc hcl a0 a1 a2
    refine ‹∀ (a : Act) (w : World), Code.wp Tryd.prog _ _ a w → _› _ _ ?_
    go_wp2_with fail
    refine (HLS.out _ HKC.out).mono ?_
    rintro e w2 ⟨v2, rfl, ho2, hk2⟩
    have HK2 : Hid (Kept [] W0 w2) := HKC.out.trans hk2
    have HO2 := Lib.hid ho2
    obtain ⟨g2, cap2, rfl⟩ := ho2.at_pos (by have := HS1.out; omega)
    have HOB : Hid (w2.ownsRow W0.heap.size 9 1 (.slice CA (c.parents.length + 3) cc) (c.parents.length + 3) (cW ([engB, numT c.slide] ++ listW c.parents))) := own_keep HOCR.out hk2
    obtain ⟨m, hm⟩ : ∃ m, (listW c.sources).length = m := ⟨_, rfl⟩
    have HM := Lib.hid hm
    have hmb : m = c.sources.length + 1 := by rw [← hm]; exact HS1.out
    have HMB := Lib.hid hmb
    have hmb2 : m ≤ 1048577 := by omega
    have hsz2 := HK2.out.size
    rw [hm]
    clear hk2 ho2 hm hmb s0 s1 s2
    go_wp2_with (at_builtin; refine wpList_append_own_at _ rfl _ _ 62 rfl W0.heap.size 9 i0 (.string { data := #[] }) 1 16 Tryd.underlying62 hi0 hz0 hz1 hz2 rfl (by decide) (.slice CA (c.parents.length + 3) cc) (c.parents.length + 3) _ rfl HOB.out ⟨g2, 0, none⟩ m cap2 (cW (listW c.sources)) rfl (by unfold cW; rw [List.length_map, Nat.mul_one]; exact HM.out) HO2.out.cells' (cW_one _) (by unfold maxLen; omega) (by omega) (by omega) ?_)
    intro v' w5 hown5 hgrow5 _ hat5
    have HK5 : Hid (Kept [] W0 w5) := HK2.out.grown hgrow5 (fun x hx => .inr (World.ownsRow.lt HOB.out _ hx).1)
    have HO5 : Hid (OwnS w5 W0.heap.size v' (headW c)) := by
      show World.ownsRow _ _ _ _ _ _ _
      unfold headW
      rw [List.length_append, HCL.out, HM.out]
      unfold cW at hown5 ⊢
      rw [List.map_append]
      exact hown5
    have HJ := Lib.hid (join_any v' (headW c) W0.heap.size w5 HO5.out (by
      have h1 := join_len (headW c) 300 (headW_size SM.out)
      rw [headW_len SM.out] at h1
      omega) (by rw [headW_len SM.out]; omega))
    clear hown5 hgrow5 hat5
    go_wp2_with fail
    refine HJ.out.mono ?_
    rintro e w6 ⟨rfl, hk6⟩
    have HK6 := Lib.hid ((HK0.out.trans HK5.out).trans hk6)
    clear hk6
    go_wp2_with fail
    go_ret
    exact ⟨rfl, HK6.out⟩

end Go.Proofs.YthgenobbpaclhaaDoor

/- The words of any text, walked: the law's walk. -/
import Derived.Test.YtmkpbffjgpoplaaDoorE26
import Derived.Test.YtmkpbffjgpoplaaDoorVL
set_option linter.unusedVariables false
set_option linter.unusedSimpArgs false
set_option linter.unnecessarySimpa false
namespace Go.Proofs.YtmkpbffjgpoplaaDoor
open Go.RowKit Go.Shelf
attribute [local go_sem] Oper.semAt_some

theorem RdT.nil (w : World) : RdT w (.slice none 0 0) [] := ⟨none, 0, rfl, by simp, fun h => absurd rfl h⟩

set_option maxRecDepth 100000 in
set_option maxHeartbeats 4000000 in
theorem lawWalks_any (s : ByteArray) (stop k : Int) (hs : s.size ≤ 140737488351232) (w : World) (hv : Vars w) : Calls Tryd.prog 4 #[.string s, .int .i64 stop, .int .i64 k] w fun e w' => e = .returned (.bool true) ∧ Kept [] w w' := by
  obtain ⟨n, hn⟩ : ∃ n, s.size = n := ⟨_, rfl⟩
  have HN := Lib.hid hn
  have hl := len_at s hn
  by_cases hlong : n ≤ 4096
  · have hd : decide ((n : Int) ≤ (4096 : Int)) = true := decide_eq_true (by omega)
    obtain ⟨k0, hk0, _, _, hlen⟩ := words_last s (by omega)
    obtain ⟨L, hL⟩ : ∃ L, (wordsV s 0).1 = L := ⟨_, rfl⟩
    have HXS : Hid (walkV s = L) := by show _ = _; rw [walkV_of (by omega), hL]
    have hlen2 : L.length ≤ 1048576 := by rw [hL] at hlen; omega
    obtain ⟨p0, hp0⟩ : ∃ p, (wordsV s 0).2 = p := ⟨_, rfl⟩
    have HWD := Lib.hid (fun W => rWords_any s (by omega) W)
    clear hn
    go_enter Tryd.func4, Tryd.ntmps4
    go_wp2_with fail
    refine (HWD.out _).mono ?_
    rintro e w2 ⟨v, rfl, hown, hk⟩
    rw [hp0]
    rw [hL] at hown
    have HK := Lib.hid hk
    have HU := Lib.hid (RdT.of_own hown hlen2)
    obtain ⟨A, c, rfl⟩ := own_len hown
    clear hown hk hp0 hlen hL hk0
    go_wp2_with fail
    refine (live_any _ (hv.keep HK.out)).mono ?_
    rintro e w3 ⟨rfl, hk3⟩
    have HK3 := Lib.hid (HK.out.trans hk3)
    have HU3 := Lib.hid (HU.out.keep hk3)
    clear hk3
    go_wp2_with fail
    refine (lWalk_any s w3).mono ?_
    rintro e w4 ⟨rfl, hw4⟩
    have hk4 : Kept [] w3 w4 := by rw [hw4]; exact (Kept.refl [] w3).alloc _
    have ht4 : w4.cell? ⟨w3.heap.size, 0, none⟩ = some (.string s) := by rw [hw4]; exact (Blk.new w3 _ _).cell 0
    have HT4 := Lib.hid ht4
    have HK4 := Lib.hid (HK3.out.trans hk4)
    have HU4 := Lib.hid (HU3.out.keep hk4)
    clear hw4 hk4 ht4
    go_wp2_with fail
    refine (tells_any w3.heap.size s _ _ stop w4 (hv.keep HK4.out) HT4.out HU4.out HXS.out).mono ?_
    rintro e w5 ⟨rfl, hk5⟩
    have HK5 := Lib.hid (HK4.out.trans hk5)
    have HU5 := Lib.hid (HU4.out.keep hk5)
    clear hk5
    go_wp2_with fail
    refine (lWalk_any s w5).mono ?_
    rintro e w6 ⟨rfl, hw6⟩
    have hk6 : Kept [] w5 w6 := by rw [hw6]; exact (Kept.refl [] w5).alloc _
    have ht6 : w6.cell? ⟨w5.heap.size, 0, none⟩ = some (.string s) := by rw [hw6]; exact (Blk.new w5 _ _).cell 0
    have HT6 := Lib.hid ht6
    have HK6 := Lib.hid (HK5.out.trans hk6)
    have HU6 := Lib.hid (HU5.out.keep hk6)
    clear hw6 hk6 ht6
    go_wp2_with fail
    refine (tells_any w5.heap.size s _ _ 0 w6 (hv.keep HK6.out) HT6.out HU6.out HXS.out).mono ?_
    rintro e w7 ⟨rfl, hk7⟩
    have HK7 := Lib.hid (HK6.out.trans hk7)
    clear hk7
    go_wp2_with fail
    refine (lBlank_any s k hs w7).mono ?_
    rintro e w8 ⟨rfl, hw8⟩
    have HK8 : Hid (Kept [] w w8) := by show Kept _ _ _; rw [← hw8]; exact HK7.out
    clear hw8
    obtain ⟨z, hz⟩ : ∃ z, blankI s k = z := ⟨_, rfl⟩
    have HBR := Lib.hid (fun W => rBlank_any s k hs W)
    rw [hz] at HBR ⊢
    clear hz
    go_wp2_with fail
    refine (HBR.out w8).mono ?_
    rintro e w9 ⟨rfl, hw9⟩
    have HK9 : Hid (Kept [] w w9) := by show Kept _ _ _; rw [← hw9]; exact HK8.out
    clear hw9
    go_wp2_with fail
    refine (lSymbol_any s w9).mono ?_
    rintro e w10 ⟨rfl, hk10⟩
    have HK10 := Lib.hid (HK9.out.trans hk10)
    clear hk10
    obtain ⟨y, hy⟩ : ∃ y, symV s = y := ⟨_, rfl⟩
    have HSR := Lib.hid (fun W => rSymbol_any s W)
    rw [hy] at HSR ⊢
    clear hy
    go_wp2_with fail
    refine (HSR.out w10).mono ?_
    rintro e w11 ⟨rfl, hk11⟩
    have HK11 := Lib.hid (HK10.out.trans hk11)
    clear hk11
    go_wp2_with fail
    go_ret
    exact ⟨rfl, HK11.out⟩
  · have hd : decide ((n : Int) ≤ (4096 : Int)) = false := decide_eq_false (by omega)
    have HXS : Hid (walkV s = []) := by show _ = _; unfold walkV; rw [if_neg (by omega)]
    have HK := Lib.hid (Kept.refl [] w)
    have HU := Lib.hid (RdT.nil w)
    clear hn
    go_enter Tryd.func4, Tryd.ntmps4
    go_wp2_with fail
    refine (live_any _ (hv.keep HK.out)).mono ?_
    rintro e w3 ⟨rfl, hk3⟩
    have HK3 := Lib.hid (HK.out.trans hk3)
    have HU3 := Lib.hid (HU.out.keep hk3)
    clear hk3
    go_wp2_with fail
    refine (lWalk_any s w3).mono ?_
    rintro e w4 ⟨rfl, hw4⟩
    have hk4 : Kept [] w3 w4 := by rw [hw4]; exact (Kept.refl [] w3).alloc _
    have ht4 : w4.cell? ⟨w3.heap.size, 0, none⟩ = some (.string s) := by rw [hw4]; exact (Blk.new w3 _ _).cell 0
    have HT4 := Lib.hid ht4
    have HK4 := Lib.hid (HK3.out.trans hk4)
    have HU4 := Lib.hid (HU3.out.keep hk4)
    clear hw4 hk4 ht4
    go_wp2_with fail
    refine (tells_any w3.heap.size s _ _ stop w4 (hv.keep HK4.out) HT4.out HU4.out HXS.out).mono ?_
    rintro e w5 ⟨rfl, hk5⟩
    have HK5 := Lib.hid (HK4.out.trans hk5)
    have HU5 := Lib.hid (HU4.out.keep hk5)
    clear hk5
    go_wp2_with fail
    refine (lWalk_any s w5).mono ?_
    rintro e w6 ⟨rfl, hw6⟩
    have hk6 : Kept [] w5 w6 := by rw [hw6]; exact (Kept.refl [] w5).alloc _
    have ht6 : w6.cell? ⟨w5.heap.size, 0, none⟩ = some (.string s) := by rw [hw6]; exact (Blk.new w5 _ _).cell 0
    have HT6 := Lib.hid ht6
    have HK6 := Lib.hid (HK5.out.trans hk6)
    have HU6 := Lib.hid (HU5.out.keep hk6)
    clear hw6 hk6 ht6
    go_wp2_with fail
    refine (tells_any w5.heap.size s _ _ 0 w6 (hv.keep HK6.out) HT6.out HU6.out HXS.out).mono ?_
    rintro e w7 ⟨rfl, hk7⟩
    have HK7 := Lib.hid (HK6.out.trans hk7)
    clear hk7
    go_wp2_with fail
    refine (lBlank_any s k hs w7).mono ?_
    rintro e w8 ⟨rfl, hw8⟩
    have HK8 : Hid (Kept [] w w8) := by show Kept _ _ _; rw [← hw8]; exact HK7.out
    clear hw8
    obtain ⟨z, hz⟩ : ∃ z, blankI s k = z := ⟨_, rfl⟩
    have HBR := Lib.hid (fun W => rBlank_any s k hs W)
    rw [hz] at HBR ⊢
    clear hz
    go_wp2_with fail
    refine (HBR.out w8).mono ?_
    rintro e w9 ⟨rfl, hw9⟩
    have HK9 : Hid (Kept [] w w9) := by show Kept _ _ _; rw [← hw9]; exact HK8.out
    clear hw9
    go_wp2_with fail
    refine (lSymbol_any s w9).mono ?_
    rintro e w10 ⟨rfl, hk10⟩
    have HK10 := Lib.hid (HK9.out.trans hk10)
    clear hk10
    obtain ⟨y, hy⟩ : ∃ y, symV s = y := ⟨_, rfl⟩
    have HSR := Lib.hid (fun W => rSymbol_any s W)
    rw [hy] at HSR ⊢
    clear hy
    go_wp2_with fail
    refine (HSR.out w10).mono ?_
    rintro e w11 ⟨rfl, hk11⟩
    have HK11 := Lib.hid (HK10.out.trans hk11)
    clear hk11
    go_wp2_with fail
    go_ret
    exact ⟨rfl, HK11.out⟩

theorem walks_row (w : World) (hL : laidMetH Tryd.prog Rows.lexWalksRow.laid w) (s : ByteArray) (hs : s.size ≤ 140737488351232) (stop : Int) (h1 : (Lit.int .i64 stop).wf = true) (k : Int) (h2 : (Lit.int .i64 k).wf = true) :
    Calls Tryd.prog 4 #[.string s, .int .i64 stop, .int .i64 k] w fun e w' => e = .returned (.bool true) ∧ Below w.heap.size w w' :=
  (lawWalks_any s stop k hs w (vars_of_laid hL)).mono fun e w' ⟨he, hk⟩ => ⟨he, hk.below⟩

end Go.Proofs.YtmkpbffjgpoplaaDoor

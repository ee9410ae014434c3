/- WaterSame: which are the same; what no call made; what is told is nobody's else. -/
import Derived.Test.YtadmhofipapmcaaJ
import Derived.Deep.RegionWith
set_option linter.unusedVariables false
set_option linter.unusedSimpArgs false
namespace Go.Proofs.Ytadmhofipapmcaa
open Go.RowKit

def errFrom (xs : List Int) : Int := if fromOk xs = true then 0 else 1
/-- p leads to what From makes of xs. -/
def PW (base : Nat) (w : World) (p : Option Addr) (xs : List Int) : Prop :=
  (p = none ∧ fromOk xs = false) ∨ (∃ b, p = some ⟨b, 0, none⟩ ∧ fromOk xs = true ∧ base ≤ b ∧ WaterAt w b xs.length (filled xs xs.length))
def PR (base : Nat) (w : World) (p : Option Addr) (xs : List Int) : Prop :=
  (p = none ∧ fromOk xs = false) ∨ (∃ b g, p = some ⟨b, 0, none⟩ ∧ fromOk xs = true ∧ base ≤ b ∧ base ≤ g ∧ RefAt w b g xs)
theorem PW.keep {base : Nat} {w w' : World} {p : Option Addr} {xs : List Int} (h : PW base w p xs) (k : Kept [] w w') : PW base w' p xs := by
  rcases h with h | ⟨b, h1, h2, h3, h4⟩
  · exact .inl h
  · exact .inr ⟨b, h1, h2, h3, h4.kept k (by simp)⟩
theorem PR.keep {base : Nat} {w w' : World} {p : Option Addr} {xs : List Int} (h : PR base w p xs) (k : Kept [] w w') : PR base w' p xs := by
  rcases h with h | ⟨b, g, h1, h2, h3, h4, h5⟩
  · exact .inl h
  · exact .inr ⟨b, g, h1, h2, h3, h4, h5.keep k⟩
def FromP (w : World) (xs : List Int) (e : Ending) (w' : World) : Prop := ∃ p, e = .returned (.tuple #[.pointer p, .int .i64 (errFrom xs)]) ∧ PW w.heap.size w' p xs ∧ Kept [] w w'
def FromR (w : World) (xs : List Int) (e : Ending) (w' : World) : Prop := ∃ p, e = .returned (.tuple #[.pointer p, .int .i64 (errFrom xs)]) ∧ PR w.heap.size w' p xs ∧ Kept [] w w'
theorem fromP (v : Value) (xs : List Int) (w : World) (hx : RdI w .i64 v xs) : Calls Try.prog 16 #[v] w (FromP w xs) := by
  refine (from_any v xs w hx).mono ?_
  rintro e w' (⟨hb, rfl, hk⟩ | ⟨hb, b, rfl, h1, h2, hk⟩)
  · exact ⟨none, by unfold errFrom; rw [hb]; rfl, .inl ⟨rfl, hb⟩, hk⟩
  · exact ⟨_, by unfold errFrom; rw [hb]; rfl, .inr ⟨b, rfl, hb, h1, h2⟩, hk⟩
theorem fromR (v : Value) (xs : List Int) (w : World) (hx : RdI w .i64 v xs) : Calls Try.prog 17 #[v] w (FromR w xs) := by
  refine (reffrom_any v xs w hx).mono ?_
  rintro e w' (⟨hb, rfl, hk⟩ | ⟨hb, b, g, rfl, h1, h2, h3, hk⟩)
  · exact ⟨none, by unfold errFrom; rw [hb]; rfl, .inl ⟨rfl, hb⟩, hk⟩
  · exact ⟨_, by unfold errFrom; rw [hb]; rfl, .inr ⟨b, g, rfl, hb, h1, h2, h3⟩, hk⟩
theorem same_pn (base : Nat) (p q : Option Addr) (xs : List Int) (w : World) (hp : PW base w p xs) (h : NoneW w q) : Calls Try.prog 19 #[.pointer p, .pointer q] w fun e w' => e = .returned (.bool false) ∧ w = w' := by
  rcases hp with ⟨rfl, _⟩ | ⟨b, rfl, hok, _, hA⟩
  · exact same_l none q w (.inl rfl)
  · exact same_r b _ _ q w hA (fromOk_len xs hok).1 h

set_option maxRecDepth 100000 in
set_option maxHeartbeats 4000000 in
theorem same_walk (w : World) (A1 : Option Addr) (n1 cap1 : Nat) (xs : List Int) (hx : (Rk.slice (Rk.int .i64)).K w xs [.slice A1 n1 cap1]) (A2 : Option Addr) (n2 cap2 : Nat) (ys : List Int) (hy : (Rk.slice (Rk.int .i64)).K w ys [.slice A2 n2 cap2]) :
    Calls Try.prog 6 #[.slice A1 n1 cap1, .slice A2 n2 cap2] w fun e w' => e = .returned (.bool true) ∧ Below w.heap.size w w' := by
  have rx := RdI.of_rk hx
  have ry := RdI.of_rk hy
  clear hx hy
  go_enter Try.func6, Try.ntmps6
  go_wp2_with fail
  refine (fromP _ xs _ rx).mono ?_
  rintro e w1 ⟨pv, rfl, hv1, hK1⟩
  go_wp2_with fail
  refine (fromP _ ys _ (ry.keep hK1)).mono ?_
  rintro e w2 ⟨pw, rfl, hw2, hK2⟩
  have hK02 := hK1.trans hK2
  go_wp2_with fail
  refine (fromR _ xs _ (rx.keep hK02)).mono ?_
  rintro e w3 ⟨pr, rfl, hr3, hK3⟩
  have hK03 := hK02.trans hK3
  go_wp2_with fail
  refine (fromR _ ys _ (ry.keep hK03)).mono ?_
  rintro e w4 ⟨ps, rfl, hs4, hK4⟩
  go_wp2_with fail
  refine (begun_ok _).mono ?_
  rintro e w5 ⟨rfl, hK5⟩
  have hK05 := (hK03.trans hK4).trans hK5
  have hv := hv1.keep (((hK2.trans hK3).trans hK4).trans hK5)
  have hw := hw2.keep ((hK3.trans hK4).trans hK5)
  have hr := hr3.keep (hK4.trans hK5)
  have hs := hs4.keep hK5
  have sz1 := hK1.size
  have sz2 := hK2.size
  have sz3 := hK3.size
  have sz4 := hK4.size
  have sz5 := hK5.size
  clear hv1 hw2 hr3 hs4
  go_wp2_with fail
  obtain ⟨W6, hW6⟩ : ∃ W6, W6 = ((w5.alloc (.cells #[.int .i64 0, .int .i64 0, .int .i64 0, .int .i64 0, .int .i64 0, .int .i64 0, .int .i64 0, .int .i64 0, .int .i64 0, .int .i64 0, .int .i64 0, .int .i64 0, .int .i64 0] 50)).alloc (.cells #[.pointer none, .pointer (some ⟨w5.heap.size, 0, none⟩)] 23)) := ⟨_, rfl⟩
  have hZ : WaterAt W6 w5.heap.size 0 l00 := by rw [hW6]; exact ⟨by omega, rfl, (Blk.new w5 (wcells (0 : Nat) l00) 50).alloc _⟩
  have hL : Blk W6 (w5.heap.size + 1) #[.pointer none, .pointer (some ⟨w5.heap.size, 0, none⟩)] 23 := by
    rw [hW6]
    have := Blk.new (w5.alloc (.cells #[.int .i64 0, .int .i64 0, .int .i64 0, .int .i64 0, .int .i64 0, .int .i64 0, .int .i64 0, .int .i64 0, .int .i64 0, .int .i64 0, .int .i64 0, .int .i64 0, .int .i64 0] 50)) #[.pointer none, .pointer (some ⟨w5.heap.size, 0, none⟩)] 23
    rwa [World.size_alloc] at this
  have hK6 : Kept [] w5 W6 := by rw [hW6]; exact ((Kept.refl [] w5).alloc _).alloc _
  rw [← hW6]
  clear hW6
  have hv6 := hv.keep hK6
  have hw6 := hw.keep hK6
  have hr6 := hr.keep hK6
  have hs6 := hs.keep hK6
  have hK06 := hK05.trans hK6
  have el0 : W6.cell? ⟨w5.heap.size + 1, 0, none⟩ = some (.pointer none) := hL.cell 0
  have el1 : W6.cell? ⟨w5.heap.size + 1, 1, none⟩ = some (.pointer (some ⟨w5.heap.size, 0, none⟩)) := hL.cell 1
  clear hv hw hr hs
  go_loop [55] (fun i => ∃ k : Nat, k ≤ 2 ∧ i = .int .i64 k) (fun i => 2 - (intOf i).toNat)
  case atStart => exact ⟨0, by omega, rfl⟩
  case round =>
    obtain ⟨k, hk, rfl⟩ := hrel
    by_cases hlt : k < 2
    · obtain ⟨p, hp, hN⟩ : ∃ p, W6.cell? ⟨w5.heap.size + 1, k, none⟩ = some (.pointer p) ∧ NoneW W6 p := by
        rcases Nat.lt_or_ge k 1 with h | h
        · obtain rfl : k = 0 := by omega
          exact ⟨none, el0, .inl rfl⟩
        · obtain rfl : k = 1 := by omega
          exact ⟨_, el1, .inr ⟨_, rfl, hZ⟩⟩
      have hk2 : (k : Int) < 2 := by omega
      go_wp2_with (first | (go_at_call 9; refine (mark_none p _ _ _ hN).mono ?_; rintro e w' ⟨rfl, rfl⟩) | (go_at_call 14; refine (merged_none p _ hN).mono ?_; rintro e w' ⟨rfl, rfl⟩) | (go_at_call 22; refine (at_none p _ _ hN).mono ?_; rintro e w' ⟨rfl, rfl⟩) | (go_at_call 10; refine (horizon_none p _ hN).mono ?_; rintro e w' ⟨rfl, rfl⟩) | (go_at_call 13; refine (marks_none p _ hN).mono ?_; rintro e w' ⟨rfl, rfl⟩) | (go_at_call 11; refine (late_none p _ _ _ hN).mono ?_; rintro e w' ⟨rfl, rfl⟩) | (go_at_call 12; refine (done_none p _ hN).mono ?_; rintro e w' ⟨rfl, rfl⟩) | (go_at_call 18; refine (clone_none p _ hN).mono ?_; rintro e w' ⟨rfl, rfl⟩))
      refine (same_l p pv _ hN).mono ?_
      rintro e w' ⟨rfl, rfl⟩
      go_wp2_with fail
      refine (same_pn w.heap.size pv p xs _ hv6 hN).mono ?_
      rintro e w' ⟨rfl, rfl⟩
      go_wp2_with fail
      go_round
      case rel => exact ⟨k + 1, by omega, by go_num⟩
      case measure => simp [intOf]; omega
    · have hk2 : ¬ (k : Int) < 2 := by omega
      rcases hr6 with ⟨rfl, hb⟩ | ⟨br, gr, rfl, hok, hbr, hgr, hRr⟩
      · obtain ⟨rfl, _⟩ : pv = none ∧ True := by
          rcases hv6 with ⟨h, _⟩ | ⟨_, _, h, _⟩
          · exact ⟨h, trivial⟩
          · rw [hb] at h; cases h
        clear hb
        go_wp2_with (go_at_call 19; refine (same_l none pw _ (.inl rfl)).mono ?_; rintro e w' ⟨rfl, rfl⟩)
        go_ret
        exact ⟨rfl, hK06.below⟩
      · rcases hs6 with ⟨rfl, hb⟩ | ⟨bs, gs, rfl, hok2, hbs, hgs, hRs⟩
        · obtain ⟨rfl, _⟩ : pw = none ∧ True := by
            rcases hw6 with ⟨h, _⟩ | ⟨_, _, h, _⟩
            · exact ⟨h, trivial⟩
            · rw [hb] at h; cases h
          clear hb hok
          go_wp2_with (go_at_call 19; refine (same_pn w.heap.size pv none xs _ hv6 (.inl rfl)).mono ?_; rintro e w' ⟨rfl, rfl⟩)
          go_ret
          exact ⟨rfl, hK06.below⟩
        · obtain ⟨bv, rfl, hbv, hAv⟩ : ∃ bv, pv = some ⟨bv, 0, none⟩ ∧ w.heap.size ≤ bv ∧ WaterAt W6 bv xs.length (filled xs xs.length) := by
            rcases hv6 with ⟨_, h⟩ | ⟨b, h1, _, h2, h3⟩
            · rw [hok] at h; cases h
            · exact ⟨b, h1, h2, h3⟩
          obtain ⟨bw, rfl, hbw, hAw⟩ : ∃ bw, pw = some ⟨bw, 0, none⟩ ∧ w1.heap.size ≤ bw ∧ WaterAt W6 bw ys.length (filled ys ys.length) := by
            rcases hw6 with ⟨_, h⟩ | ⟨b, h1, _, h2, h3⟩
            · rw [hok2] at h; cases h
            · exact ⟨b, h1, h2, h3⟩
          obtain ⟨hx1, hx2⟩ := fromOk_len xs hok
          obtain ⟨hy1, hy2⟩ := fromOk_len ys hok2
          have HTX : Hid ((filled xs xs.length).take xs.length = xs) := filled_take xs
          have HTY : Hid ((filled ys ys.length).take ys.length = ys) := filled_take ys
          have hlv := hAv.2.2.lt
          have hlw := hAw.2.2.lt
          have hlr : br < W6.heap.size := by obtain ⟨_, _, _, _, h4, _⟩ := hRr; exact h4.lt
          have hls : bs < W6.heap.size := by obtain ⟨_, _, _, _, h4, _⟩ := hRs; exact h4.lt
          have hlgr : gr < W6.heap.size := World.block_lt_of_cell? W6 _ (hRr.cell 0 _ (List.getElem?_eq_getElem (by omega)))
          have hlgs : gs < W6.heap.size := World.block_lt_of_cell? W6 _ (hRs.cell 0 _ (List.getElem?_eq_getElem (by omega)))
          have rx6 := rx.keep hK06
          have hrxl : ∀ b', (Value.slice A1 n1 cap1).ownBlock = some b' → xs ≠ [] → b' < w.heap.size := by
            intro b' hb' hne
            obtain ⟨A', c', he, _, h⟩ := rx
            injection he with h1 h2 h3
            subst h1 h3
            obtain ⟨b'', o, he2, hc⟩ := h hne
            subst he2
            simp [Value.ownBlock] at hb'
            subst hb'
            exact World.block_lt_of_cell? w _ (hc 0 _ (List.getElem?_eq_getElem (by omega)))
          clear hok hok2
          have HXL := Lib.hid hrxl
          clear hrxl
          go_wp2_with fail
          refine (marks_any bv xs.length _ _ hAv hx1).mono ?_
          rintro e w7 ⟨v1, rfl, ho1, hK7⟩
          rw [HTX.out] at ho1
          obtain ⟨g1, cc1, rfl, hg1, hg1l⟩ := ho1.form (by omega)
          obtain ⟨N, hN⟩ : ∃ N, xs.length = N := ⟨_, rfl⟩
          rw [hN] at ho1 ⊢
          have HN := Lib.hid hN
          have hNN : N ≤ 12 := by omega
          clear hN
          go_wp2_with fail
          go_loopw [124] (fun i wr => ∃ (k : Nat) (zs : List Int), k ≤ N ∧ i = .int .i64 k ∧ zs.length = N ∧ wr.ownsRow W6.heap.size 2 1 (.slice (some ⟨g1, 0, none⟩) N cc1) N (zs.map (.int .i64)) ∧ Kept [g1] w7 wr) (fun i _ => N - (intOf i).toNat)
          case atStart => exact ⟨0, xs, by omega, rfl, HN.out, ho1, Kept.refl _ _⟩
          case round =>
            obtain ⟨j, zs, hj, rfl, hzl, hor, hKj⟩ := hrel
            have HZL := Lib.hid hzl
            clear hzl
            by_cases hjt : j < N
            · have hjz : j < zs.length := by have := HZL.out; omega
              obtain ⟨z, hz⟩ : ∃ z, zs[j]? = some z := ⟨_, List.getElem?_eq_getElem hjz⟩
              have e1 : wr.cell? ⟨g1, j, none⟩ = some (.int .i64 z) := by
                rw [hor.cellAt j (by omega), List.getElem?_map, hz]; rfl
              have f1 := hor.frozenAt j
              obtain ⟨hst1, hst2⟩ := hor.stored j (.int .i64 (wrap64 (z + 1)))
              have HST := Lib.hid hst1
              clear hst1 hst2 hz
              go_wp2_with fail
              go_roundw
              case rel => exact ⟨j + 1, zs.set j (wrap64 (z + 1)), by omega, by go_num, by rw [List.length_set]; exact HZL.out, by rw [List.map_set]; exact HST.out, hKj.setCell (.inl (by simp)) _⟩
              case measure => simp [intOf]; omega
            · have hg1n : g1 ≠ bv ∧ g1 ≠ bw ∧ g1 ≠ br ∧ g1 ≠ bs ∧ g1 ≠ gr ∧ g1 ≠ gs := by omega
              have hAv8 := (hAv.kept hK7 (by simp)).kept hKj (by simp; omega)
              have hAw8 := (hAw.kept hK7 (by simp)).kept hKj (by simp; omega)
              have hRr8 := (hRr.keep hK7).kept hKj (by simp; omega) (by simp; omega)
              have hRs8 := (hRs.keep hK7).kept hKj (by simp; omega) (by simp; omega)
              have rx8 := (rx6.keep hK7).kept hKj (fun b' hb' => by
                by_cases hne : xs = []
                · rw [hne] at hx1; simp at hx1
                · have := HXL.out b' hb' hne; simp; omega)
              have hK08 : Kept [] w wr := Kept.after (hK06.trans hK7) hKj (by simp; omega)
              go_wp2_with fail
              refine (same_any bv bw _ _ _ _ _ hAv8 hx1 hAw8 hy1).mono ?_
              rintro e w9 ⟨rfl, hK9⟩
              rw [HTX.out, HTY.out]
              go_wp2_with fail
              refine (refsame_any br gr bs gs xs ys _ (hRr8.keep hK9) (hRs8.keep hK9)).mono ?_
              rintro e w' ⟨rfl, m, rfl⟩
              have hK9m := hK9.drewN m
              go_wp2_with fail
              refine (same_any bv bv _ _ _ _ _ (hAv8.kept hK9m (by simp)) hx1 (hAv8.kept hK9m (by simp)) hx1).mono ?_
              rintro e w10 ⟨rfl, hK10⟩
              rw [dec_self]
              go_wp2_with fail
              refine (marks_any bv _ _ _ ((hAv8.kept hK9m (by simp)).kept hK10 (by simp)) hx1).mono ?_
              rintro e w11 ⟨v2, rfl, ho2, hK11⟩
              rw [HTX.out] at ho2
              go_wp2_with fail
              refine (equal_any .i64 v2 _ xs xs _ (RdI.of_own ho2).1 (((rx8.keep hK9m).keep hK10).keep hK11)).mono ?_
              rintro e w' ⟨rfl, m2, rfl⟩
              rw [dec_self]
              go_wp2_with fail
              go_ret
              exact ⟨rfl, ((((hK08.trans hK9m).trans hK10).trans hK11).drewN _).below⟩

end Go.Proofs.Ytadmhofipapmcaa

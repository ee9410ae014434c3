/- ShelfDoes. -/
import Derived.Test.YtdboipjbpkhacaaS19
set_option linter.unusedVariables false
set_option linter.unusedSimpArgs false
set_option linter.unnecessarySimpa false
namespace Go.Proofs.Ytdboipjbpkhacaa
open Go.RowKit Go.Shelf

set_option maxRecDepth 100000 in
set_option maxHeartbeats 8000000 in
theorem shelfDoes_any (w : World) (m : Int) (v : Value) (l : List Opn) (hx : RdO w v l) :
    Calls Try.prog 4 #[.int .i64 m, v] w fun e w' => e = .returned (.bool true) ∧ Kept [] w w' := by
  have HX := Lib.hid hx
  obtain ⟨A, c, rfl, hmx, hx⟩ := hx
  clear hx
  obtain ⟨n, hn⟩ : ∃ n, l.length = n := ⟨_, rfl⟩
  rw [hn] at hmx HX ⊢
  have HN := Lib.hid hn
  clear hn
  unfold maxLen at hmx
  by_cases hm : 1 ≤ m ∧ m ≤ 16384
  rotate_left
  · have N1 := Lib.hid (new_bad m w hm)
    have N2 := Lib.hid (rnew_bad m w hm)
    clear hm
    go_enter Try.func4, Try.ntmps4
    go_wp2_with fail
    refine N1.out.mono ?_
    rintro e w' ⟨rfl, rfl⟩
    go_wp2_with fail
    refine N2.out.mono ?_
    rintro e w' ⟨rfl, rfl⟩
    go_wp2_with fail
    refine (live_any _).mono ?_
    rintro e w1 ⟨rfl, hk1⟩
    go_wp2_with fail
    go_ret
    exact ⟨rfl, hk1⟩
  have N1 := Lib.hid (new_any m w hm)
  have N2 := Lib.hid (fun W => rnew_any m W hm)
  clear hm
  go_enter Try.func4, Try.ntmps4
  go_wp2_with fail
  refine N1.out.mono ?_
  rintro e w1 ⟨rfl, hs1, hk1⟩
  obtain ⟨sb, hsb⟩ : ∃ sb, w.heap.size = sb := ⟨_, rfl⟩
  rw [hsb] at hs1 ⊢
  have hF1 : ∀ z ∈ [sb], w.heap.size ≤ z := by simp; omega
  clear hsb
  go_wp2_with fail
  refine (N2.out w1).mono ?_
  rintro e w2 ⟨rfl, hr2, hk2⟩
  obtain ⟨rb, hrb⟩ : ∃ rb, w1.heap.size = rb := ⟨_, rfl⟩
  rw [hrb] at hr2 ⊢
  have hs1l := hk1.size
  have hG2 : ∀ z ∈ [rb], w.heap.size ≤ z := by simp; omega
  have hsl := hs1.lt sb (by simp)
  have hd2 : ∀ z ∈ [sb], z ∉ [rb] := by simp; omega
  have hs2 := hs1.keep hk2
  have hK2 := hk1.trans hk2
  clear hrb hs1 hk1 hk2 hsl hs1l
  go_wp2_with fail
  refine (live_any _).mono ?_
  rintro e w3 ⟨rfl, hk3⟩
  have hs3 := hs2.keep hk3
  have hr3 := hr2.keep hk3
  have hK3 := hK2.trans hk3
  clear hs2 hr2 hK2 hk3
  go_wp2_with fail
  go_loopw [39] (fun i wr => ∃ (k : Nat) (F G : List Nat) (L : List Th), i = .int .i64 k ∧ k ≤ n ∧ Sh wr F sb m L ∧ RSh wr G rb m L ∧ (∀ z ∈ F, z ∉ G) ∧ (∀ z ∈ F, w.heap.size ≤ z) ∧ (∀ z ∈ G, w.heap.size ≤ z) ∧ Kept [] w wr) (fun i _ => n - (intOf i).toNat)
  case atStart => exact ⟨0, _, _, [], rfl, by omega, hs3, hr3, hd2, hF1, hG2, hK3⟩
  case round =>
    obtain ⟨k, F, G, L, rfl, hk, hs, hr, hd, hF, hG, hK⟩ := hrel
    clear hs3 hr3 hd2 hF1 hG2 hK3
    by_cases hlt : k < n
    · obtain ⟨⟨d, ⟨x1, x2⟩, xt, at'⟩, ho⟩ : ∃ o, l[k]? = some o := ⟨_, List.getElem?_eq_getElem (by rw [HN.out]; exact hlt)⟩
      obtain ⟨A', c', he, _, hcell⟩ := HX.out.keep hK
      obtain ⟨bb, off, rfl, hcc⟩ := hcell (by rintro rfl; simp at ho)
      injection he with he1 he2 he3
      subst he1 he3
      have e0 := hcc k _ ho 0 (by omega)
      have e1 := hcc k _ ho 1 (by omega)
      have e2 := hcc k _ ho 2 (by omega)
      have e3 := hcc k _ ho 3 (by omega)
      have e4 := hcc k _ ho 4 (by omega)
      simp [opCells] at e0 e1 e2 e3 e4
      have hka := (Kept.refl [] wr).alloc (.cells #[.int .i64 d, .int .i64 x1, .int .i64 x2, .string xt, .int .i64 at'] 31)
      have bo := Blk.new wr #[.int .i64 d, .int .i64 x1, .int .i64 x2, .string xt, .int .i64 at'] 31
      have hFl := hs.lt
      have hGl := hr.lt
      have DO := Lib.hid (does_any F G sb rb m L d x1 x2 xt at' _ (hs.keep hka) (hr.keep hka) hd)
      have hoF : wr.heap.size ∉ F ++ G := fun h => by
        rw [List.mem_append] at h
        rcases h with h | h
        · have := hFl _ h; omega
        · have := hGl _ h; omega
      have HKA := Lib.hid hka
      have HBO := Lib.hid bo
      have hkaK := hK.trans hka
      clear hcc ho hcell he2 hka bo hs hr
      go_wp2_with fail
      refine DO.out.mono ?_
      rintro e w4 ⟨rfl, hk4, F4, G4, hs4, hr4, hF4, hG4, hd4⟩
      have hK4 : Kept [] w w4 := hkaK.after hk4 (fun z hz => by
        rw [List.mem_append] at hz
        rcases hz with hz | hz
        · exact hF z hz
        · exact hG z hz)
      have hsA := hkaK.size
      have hF4' : ∀ z ∈ F4, w.heap.size ≤ z := fun z hz => (hF4 z hz).elim (hF z) (fun h => Nat.le_trans hsA h)
      have hG4' : ∀ z ∈ G4, w.heap.size ≤ z := fun z hz => (hG4 z hz).elim (hG z) (fun h => Nat.le_trans hsA h)
      have c4 := (HBO.out.kept hk4 hoF).cell 4
      simp at c4
      clear hk4 hF4 hG4 hF hG hd hkaK
      go_wp2_with fail
      refine (same_any F4 G4 sb rb m _ at' 0 _ hs4 hr4).mono ?_
      rintro e w5 ⟨rfl, hk5⟩
      have c5 := hk5.cell (by simp) c4
      have hs5 := hs4.keep hk5
      have hr5 := hr4.keep hk5
      have hK5 := hK4.trans hk5
      clear hs4 hr4 hK4 hk5 c4
      go_wp2_with fail
      refine (same_any F4 G4 sb rb m _ at' 1 _ hs5 hr5).mono ?_
      rintro e w6 ⟨rfl, hk6⟩
      have hs6 := hs5.keep hk6
      have hr6 := hr5.keep hk6
      have hK6 := hK5.trans hk6
      clear hs5 hr5 hK5 hk6 c5
      go_wp2_with fail
      go_roundw
      case rel => exact ⟨k + 1, F4, G4, _, by go_num, by omega, hs6, hr6, hd4, hF4', hG4', hK6⟩
      case measure => simp [intOf]; omega
    · go_wp2_with fail
      refine (take_none sb _).mono ?_
      rintro e w' ⟨rfl, rfl⟩
      go_wp2_with fail
      refine (same_any F G sb rb m L 0 0 _ hs hr).mono ?_
      rintro e w5 ⟨rfl, hk5⟩
      go_wp2_with fail
      go_ret
      exact ⟨rfl, hK.trans hk5⟩

theorem shelfDoes_walk (w : World) (m : Int) (wm : (Lit.int .i64 m).wf = true) (A : Option Addr) (n cap : Nat) (x : List Opn) (hx : (Rk.slice opR).K w x [.slice A n cap]) :
    Calls Try.prog 4 #[.int .i64 m, .slice A n cap] w fun e w' => e = .returned (.bool true) ∧ Below w.heap.size w w' :=
  (shelfDoes_any w m _ x (RdO.of_rk hx)).mono fun _ _ ⟨he, hk⟩ => ⟨he, hk.below⟩

end Go.Proofs.Ytdboipjbpkhacaa

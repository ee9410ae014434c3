/- The reference's Path, Dist, Next, Meet, Wide, for any two. -/
import Derived.Test.YtikpnlmimhnmmaaT33
import Derived.Test.YtikpnlmimhnmmaaT17
set_option linter.unusedVariables false
set_option linter.unusedSimpArgs false
set_option linter.unnecessarySimpa false
namespace Go.Proofs.Ytikpnlmimhnmmaa
open Go.RowKit Tr

theorem inBb_not {n : Nat} {i : Int} (h : inBb n i = false) : ¬ inB n i := fun c => by rw [(inBb_iff _ _).2 c] at h; cases h

set_option maxHeartbeats 2000000 in
theorem rpath_any (r : Nat) (v : Value) (P : List Int) (a b : Int) (w : World) (h : RT w r v P) (hT : Tree P) :
    Calls Try.prog 40 #[.pointer (some ⟨r, 0, none⟩), .int .i64 a, .int .i64 b] w (RisePost w (pathG P a b)) := by
  unfold pathG
  have HI := Lib.hid (is_ref r v P a w h)
  have HJ := Lib.hid (is_ref r v P b w h)
  cases ha : inBb P.length a with
  | false =>
    rw [if_neg (fun c => inBb_not ha c.1)]
    rw [ha] at HI
    clear ha h HJ
    go_enter Try.func40, Try.ntmps40
    go_wp2_with fail
    refine HI.out.mono ?_
    rintro e w' ⟨rfl, rfl⟩
    go_wp2_with fail
    go_ret
    exact ⟨_, rfl, World.ownsRow_nil _ _ _ _, Kept.refl _ _⟩
  | true =>
    cases hb : inBb P.length b with
    | false =>
      rw [if_neg (fun c => inBb_not hb c.2)]
      rw [ha] at HI
      rw [hb] at HJ
      clear ha hb h
      go_enter Try.func40, Try.ntmps40
      go_wp2_with fail
      refine HI.out.mono ?_
      rintro e w' ⟨rfl, rfl⟩
      go_wp2_with fail
      refine HJ.out.mono ?_
      rintro e w' ⟨rfl, rfl⟩
      go_wp2_with fail
      go_ret
      exact ⟨_, rfl, World.ownsRow_nil _ _ _ _, Kept.refl _ _⟩
    | true =>
      rw [if_pos ⟨(inBb_iff _ _).1 ha, (inBb_iff _ _).1 hb⟩]
      exact rpath_in r v P a b w h hT ((inBb_iff _ _).1 ha) ((inBb_iff _ _).1 hb)

set_option maxHeartbeats 1000000 in
theorem rdist_any (r : Nat) (v : Value) (P : List Int) (x y : Int) (w : World) (h : RT w r v P) (hT : Tree P) :
    Calls Try.prog 41 #[.pointer (some ⟨r, 0, none⟩), .int .i64 x, .int .i64 y] w fun e w' => e = .returned (.int .i64 (distG P x y)) ∧ Kept [] w w' := by
  have hl := path_le hT x y
  unfold distG
  go_enter Try.func41, Try.ntmps41
  go_wp2_with fail
  refine (rpath_any r v P x y _ h hT).mono ?_
  rintro e w1 ⟨v, rfl, hown, hK⟩
  obtain ⟨A, c, rfl, -⟩ := own_len hown
  go_wp2_with fail
  go_ret
  exact ⟨rfl, hK⟩

set_option maxHeartbeats 2000000 in
theorem rnext_any (r : Nat) (v : Value) (P : List Int) (x y : Int) (w : World) (h : RT w r v P) (hT : Tree P) :
    Calls Try.prog 32 #[.pointer (some ⟨r, 0, none⟩), .int .i64 x, .int .i64 y] w (NextPost w (pathG P x y)) := by
  have hl := path_le hT x y
  obtain ⟨l, hl2⟩ : ∃ l, pathG P x y = l := ⟨_, rfl⟩
  have PA := rpath_any r v P x y w h hT
  rw [hl2] at hl PA ⊢
  have PA' := Lib.hid PA
  clear hl2 PA
  match l with
  | [] =>
    go_enter Try.func32, Try.ntmps32
    go_wp2_with fail
    refine (PA'.out).mono ?_
    rintro e w1 ⟨v, rfl, hown, hK⟩
    obtain ⟨A, c, rfl, -⟩ := own_len hown
    go_wp2_with fail
    go_ret2
    exact ⟨rfl, hK⟩
  | [z] =>
    go_enter Try.func32, Try.ntmps32
    go_wp2_with fail
    refine (PA'.out).mono ?_
    rintro e w1 ⟨v, rfl, hown, hK⟩
    obtain ⟨A, c, rfl, -⟩ := own_len hown
    go_wp2_with fail
    go_ret2
    exact ⟨rfl, hK⟩
  | z :: u :: rr =>
    go_enter Try.func32, Try.ntmps32
    go_wp2_with fail
    refine (PA'.out).mono ?_
    rintro e w1 ⟨v, rfl, hown, hK⟩
    obtain ⟨g, cap, rfl, hg, hgl⟩ := hown.form (by simp)
    have hc := hown.cellAt 1 (by simp)
    simp only [List.map_cons, List.getElem?_cons_succ, List.getElem?_cons_zero] at hc
    obtain ⟨n, hn⟩ : ∃ n, (z :: u :: rr).length = n := ⟨_, rfl⟩
    have hn2 : 2 ≤ n := by rw [← hn]; simp
    rw [hn] at hl ⊢
    clear hn hown
    go_wp2_with fail
    go_ret2
    exact ⟨rfl, hK⟩

set_option maxRecDepth 100000 in
set_option maxHeartbeats 4000000 in
theorem rmeet_any (r : Nat) (v : Value) (P : List Int) (x y : Int) (w : World) (h : RT w r v P) (hT : Tree P) :
    Calls Try.prog 31 #[.pointer (some ⟨r, 0, none⟩), .int .i64 x, .int .i64 y] w (MeetPost w (meetG P x y) (!(pathG P x y).isEmpty)) := by
  have hl := path_le hT x y
  obtain ⟨l, hl2⟩ : ∃ l, pathG P x y = l := ⟨_, rfl⟩
  unfold meetG
  have PA := rpath_any r v P x y w h hT
  rw [hl2] at hl PA ⊢
  have PA' := Lib.hid PA
  have DE := Lib.hid (fun (i : Int) (w' : World) (k : Kept [] w w') => rdepth_any r v P i w' (RT.keep h k) hT)
  have HBD := Lib.hid (depthG_bd hT)
  clear hl2 PA h hT
  cases l with
  | nil =>
    go_enter Try.func31, Try.ntmps31
    go_wp2_with fail
    refine (PA'.out).mono ?_
    rintro e w1 ⟨v, rfl, hown, hK⟩
    obtain ⟨A, c, rfl, -⟩ := own_len hown
    go_wp2_with fail
    go_ret2
    exact ⟨rfl, hK⟩
  | cons z zs =>
    obtain ⟨G, hG⟩ : ∃ G, minBy (depthG P) z zs = G := ⟨_, rfl⟩
    show Calls _ _ _ _ (MeetPost w (minBy (depthG P) z zs) true)
    rw [hG]
    have HGG := Lib.hid hG
    clear hG
    go_enter Try.func31, Try.ntmps31
    go_wp2_with fail
    refine (PA'.out).mono ?_
    rintro e w1 ⟨v, rfl, hown, hK1⟩
    obtain ⟨g, cap, rfl, hg, hgl⟩ := hown.form (by simp)
    have hc := hown.cellAt 0 (by simp)
    simp only [List.map_cons, List.getElem?_cons_zero] at hc
    obtain ⟨n, hn⟩ : ∃ n, (z :: zs).length = n := ⟨_, rfl⟩
    have hn1 : 1 ≤ n := by rw [← hn]; simp
    rw [hn] at hl hown ⊢
    have HN := Lib.hid hn
    have HC : Hid (∀ (i : Nat) (x : Int), (z :: zs)[i]? = some x → w1.cell? ⟨g, i, none⟩ = some (.int .i64 x)) := fun k x hx => by
      rw [hown.cellAt k (by rw [← HN.out, Nat.mul_one]; exact (List.getElem?_eq_some_iff.1 hx).1), List.getElem?_map, hx]; rfl
    clear hn hown
    have hne : (((n : Nat) : Int) == 0) = false := by simp; omega
    go_wp2_with fail
    go_loopw [9, 10] (fun p i wr => ∃ (m : Int) (k : Nat), k ≤ n ∧ p = .int .i64 m ∧ i = .int .i64 k ∧ minBy (depthG P) m ((z :: zs).drop k) = G ∧ Kept [] w1 wr) (fun _ i _ => n - (intOf i).toNat)
    case atStart => exact ⟨z, 0, by omega, rfl, rfl, by rw [List.drop_zero, minBy, if_neg (by omega)]; exact HGG.out, Kept.refl _ _⟩
    case round =>
      obtain ⟨m, k, hkn, rfl, rfl, hm, hK⟩ := hrel
      have HM := Lib.hid hm
      clear hm
      by_cases hlt : k < n
      · obtain ⟨x, hx⟩ : ∃ x, (z :: zs)[k]? = some x := ⟨_, List.getElem?_eq_getElem (by rw [HN.out]; exact hlt)⟩
        have hcx := hK.cell (by simp) (HC.out k x hx)
        have HX := Lib.hid hx
        clear hx
        go_wp2_with fail
        refine (DE.out x _ (hK1.trans hK)).mono ?_
        rintro e w2 ⟨rfl, hk2⟩
        have hK2 := hK.trans hk2
        have hcx2 := hk2.cell (by simp) hcx
        go_wp2_with fail
        refine (DE.out m _ (hK1.trans hK2)).mono ?_
        rintro e w3 ⟨rfl, hk3⟩
        have hK3 := hK2.trans hk3
        have hcx3 := hk3.cell (by simp) hcx2
        by_cases hd : depthG P x < depthG P m
        · go_wp2_with fail
          go_roundw
          case rel =>
            refine ⟨x, k + 1, by omega, rfl, by go_num, ?_, hK3⟩
            obtain ⟨h1, h2⟩ := List.getElem?_eq_some_iff.1 HX.out
            rw [← HM.out, List.drop_eq_getElem_cons h1, minBy, h2, if_pos hd]
          case measure => simp [intOf]; omega
        · go_wp2_with fail
          go_roundw
          case rel =>
            refine ⟨m, k + 1, by omega, rfl, by go_num, ?_, hK3⟩
            obtain ⟨h1, h2⟩ := List.getElem?_eq_some_iff.1 HX.out
            rw [← HM.out, List.drop_eq_getElem_cons h1, minBy, h2, if_neg (by omega)]
          case measure => simp [intOf]; omega
      · go_wp2_with fail
        go_ret2
        have e : m = G := by
          have := HM.out
          rwa [List.drop_eq_nil_of_le (by rw [HN.out]; omega), minBy] at this
        rw [e]
        exact ⟨rfl, hK1.trans hK⟩

set_option maxRecDepth 100000 in
set_option maxHeartbeats 4000000 in
theorem rwide_any (r : Nat) (v : Value) (P : List Int) (w : World) (h : RT w r v P) (hT : Tree P) :
    Calls Try.prog 25 #[.pointer (some ⟨r, 0, none⟩)] w fun e w' => e = .returned (.int .i64 (wideG P)) ∧ Kept [] w w' := by
  have hn16 := hT.le
  obtain ⟨R, hR⟩ : ∃ R, wideG P = R := ⟨_, rfl⟩
  rw [hR]
  unfold wideG at hR
  have hc0 := h.1
  have DI := Lib.hid (fun (i j : Int) (w' : World) (k : Kept [] w w') => rdist_any r v P i j w' (RT.keep h k) hT)
  obtain ⟨A, c, rfl, _, _⟩ := h.2
  obtain ⟨n, hn⟩ : ∃ n, P.length = n := ⟨_, rfl⟩
  rw [hn] at hR hn16 hc0
  have HR := Lib.hid hR
  have HN := Lib.hid hn
  have HB := Lib.hid (distG_bd hT)
  clear hR hn h hT
  go_enter Try.func25, Try.ntmps25
  go_wp2_with fail
  go_loopw [3, 4] (fun p i wr => ∃ (m : Int) (k : Nat), k ≤ n ∧ 0 ≤ m ∧ m ≤ 30 ∧ p = .int .i64 m ∧ i = .int .i64 k ∧ wideAll P n m ((List.range n).drop k) = R ∧ Kept [] w wr) (fun _ i _ => n - (intOf i).toNat)
  case atStart => exact ⟨0, 0, by omega, by omega, by omega, rfl, rfl, by rw [List.drop_zero]; exact HR.out, Kept.refl _ _⟩
  case round =>
    obtain ⟨m, k, hkn, hm0, hm30, rfl, rfl, hm, hK⟩ := hrel
    have HM := Lib.hid hm
    have hc1 := hK.cell (by simp) hc0
    clear hm
    by_cases hlt : k < n
    · go_wp2_with fail
      go_loopw [3, 5] (fun p i wr => ∃ (m' : Int) (j : Nat), j ≤ n ∧ 0 ≤ m' ∧ m' ≤ 30 ∧ p = .int .i64 m' ∧ i = .int .i64 j ∧ wideRow P k m' ((List.range n).drop j) = wideRow P k m (List.range n) ∧ Kept [] w wr) (fun _ i _ => n - (intOf i).toNat)
      case atStart => exact ⟨m, 0, by omega, by omega, by omega, rfl, rfl, by rw [List.drop_zero], hK⟩
      case round =>
        obtain ⟨m', j, hjn, hm0', hm30', rfl, rfl, hm', hK'⟩ := hrel
        have HM' := Lib.hid hm'
        have hc2 := hK'.cell (by simp) hc0
        clear hm'
        by_cases hlt' : j < n
        · go_wp2_with fail
          refine (DI.out k j _ hK').mono ?_
          rintro e w1 ⟨rfl, hk⟩
          have hbd := HB.out k j
          go_wp2_with fail
          go_roundw
          case rel =>
            refine ⟨max m' (distG P k j), j + 1, by omega, by omega, by omega, by go_num, by go_num, ?_, hK'.trans hk⟩
            rw [← HM'.out, range_drop hlt', wideRow]
          case measure => simp [intOf]; omega
        · go_wp2_with fail
          go_roundw
          case rel =>
            refine ⟨m', k + 1, by omega, by omega, by omega, rfl, by go_num, ?_, hK'⟩
            have := HM'.out
            rw [List.drop_eq_nil_of_le (by simp; omega), wideRow] at this
            rw [← HM.out, range_drop hlt, wideAll, this]
          case measure => simp [intOf]; omega
    · go_wp2_with fail
      go_ret
      refine ⟨ret_int ?_, hK⟩
      have := HM.out
      rw [List.drop_eq_nil_of_le (by simp; omega), wideAll] at this
      exact this

end Go.Proofs.Ytikpnlmimhnmmaa

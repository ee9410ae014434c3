/- TreePaths. -/
import Derived.Test.YtikpnlmimhnmmaaT16
import Derived.Deep.RegionHeld3
import Derived.Deep.CutBlock
import Derived.Deep.DeepCutAuto
set_option linter.unusedVariables false
set_option linter.unusedSimpArgs false
namespace Go.Proofs.Ytikpnlmimhnmmaa
open Go.RowKit Tr

def nextV (l : List Int) : Int × Bool := match l with | _ :: y :: _ => (y, true) | _ => (0, false)
def NextPost (w : World) (l : List Int) (e : Ending) (w' : World) : Prop := e = .returned (.tuple #[.int .i64 (nextV l).1, .bool (nextV l).2]) ∧ Kept [] w w'
set_option maxHeartbeats 2000000 in
theorem next_any (b : Nat) (P : List Int) (x y : Int) (w : World) (h : TreeAt w b P) (hT : Tree P) :
    Calls Try.prog 19 #[.pointer (some ⟨b, 0, none⟩), .int .i64 x, .int .i64 y] w (NextPost w (pathG P x y)) := by
  have hl := path_le hT x y
  obtain ⟨l, hl2⟩ : ∃ l, pathG P x y = l := ⟨_, rfl⟩
  have PA := path_any b P x y
  rw [hl2] at hl PA ⊢
  have PA' := Lib.hid PA
  clear hl2 PA
  match l with
  | [] =>
    go_enter Try.func19, Try.ntmps19
    go_wp2_with fail
    refine (PA'.out _ h hT).mono ?_
    rintro e w1 ⟨v, rfl, hown, hK⟩
    obtain ⟨A, c, rfl, -⟩ := own_len hown
    go_wp2_with fail
    go_ret2
    exact ⟨rfl, hK⟩
  | [z] =>
    go_enter Try.func19, Try.ntmps19
    go_wp2_with fail
    refine (PA'.out _ h hT).mono ?_
    rintro e w1 ⟨v, rfl, hown, hK⟩
    obtain ⟨A, c, rfl, -⟩ := own_len hown
    go_wp2_with fail
    go_ret2
    exact ⟨rfl, hK⟩
  | z :: u :: r =>
    go_enter Try.func19, Try.ntmps19
    go_wp2_with fail
    refine (PA'.out _ h hT).mono ?_
    rintro e w1 ⟨v, rfl, hown, hK⟩
    obtain ⟨g, cap, rfl, hg, hgl⟩ := hown.form (by simp)
    have hc := hown.cellAt 1 (by simp)
    simp only [List.map_cons, List.getElem?_cons_succ, List.getElem?_cons_zero] at hc
    obtain ⟨n, hn⟩ : ∃ n, (z :: u :: r).length = n := ⟨_, rfl⟩
    have hn2 : 2 ≤ n := by rw [← hn]; simp
    rw [hn] at hl ⊢
    clear hn hown
    go_wp2_with fail
    go_ret2
    exact ⟨rfl, hK⟩

set_option maxRecDepth 100000 in
set_option maxHeartbeats 8000000 in
theorem treePaths_law (w : World) (v : Value) (P : List Int) (a b : Int) (hx : RdI w .i64 v P) :
    Calls Try.prog 4 #[v, .int .i64 a, .int .i64 b] w fun e w' => e = .returned (.bool true) ∧ Kept [] w w' := by
  have HX := Lib.hid hx
  obtain ⟨A, c, rfl, hmx, hx⟩ := hx
  unfold maxLen at hmx
  clear hx
  obtain ⟨n, hn⟩ : ∃ n, P.length = n := ⟨_, rfl⟩
  rw [hn] at hmx HX ⊢
  have HN := Lib.hid hn
  clear hn
  go_enter Try.func4, Try.ntmps4
  go_wp2_with fail
  refine (new_any _ P _ HX.out).mono ?_
  rintro e w1 ⟨hk1, ⟨hne, rfl⟩ | ⟨he, rfl, hT1⟩⟩
  · obtain ⟨E, hE⟩ : ∃ E, treeErr P = E := ⟨_, rfl⟩
    rw [hE] at hne ⊢
    clear hE
    go_wp2_with fail
    refine (live_any _).mono ?_
    rintro e w2 ⟨rfl, hk2⟩
    go_wp2_with fail
    go_ret
    exact ⟨rfl, hk1.trans hk2⟩
  have hT := tree_of he
  have HT := Lib.hid hT
  clear he
  by_cases ha : a < 0
  · go_wp2_with fail
    refine (live_any _).mono ?_
    rintro e w2 ⟨rfl, hk2⟩
    go_wp2_with fail
    go_ret
    exact ⟨rfl, hk1.trans hk2⟩
  by_cases ha' : (n : Int) ≤ a
  · go_wp2_with fail
    refine (live_any _).mono ?_
    rintro e w2 ⟨rfl, hk2⟩
    go_wp2_with fail
    go_ret
    exact ⟨rfl, hk1.trans hk2⟩
  by_cases hb : b < 0
  · go_wp2_with fail
    refine (live_any _).mono ?_
    rintro e w2 ⟨rfl, hk2⟩
    go_wp2_with fail
    go_ret
    exact ⟨rfl, hk1.trans hk2⟩
  by_cases hb' : (n : Int) ≤ b
  · go_wp2_with fail
    refine (live_any _).mono ?_
    rintro e w2 ⟨rfl, hk2⟩
    go_wp2_with fail
    go_ret
    exact ⟨rfl, hk1.trans hk2⟩
  have hia : inB P.length a := by rw [HN.out]; unfold inB; omega
  have hib : inB P.length b := by rw [HN.out]; unfold inB; omega
  have hle := path_le hT a b
  have eab := pathG_in hia hib
  have eba := pathG_in hib hia
  obtain ⟨r, hr⟩ := path_head hT hia hib
  have hend := path_end hT hib _ a hia rfl
  have hback := path_back hT hia hib
  have HNXT := Lib.hid (fun (i : Nat) (x y : Int) => path_next (i := i) (x := x) (y := y) hT hia hib)
  rw [eab] at hle
  have PA := path_any w.heap.size P a b
  have PB := path_any w.heap.size P b a
  have DA := dist_any w.heap.size P a b
  have edg : distG P a b = ((path P a b).length : Int) - 1 := by unfold distG; rw [eab]; have := congrArg List.length hr; simp at this; omega
  rw [edg] at DA
  rw [eab] at PA
  rw [eba] at PB
  have hbl : (path P b a).length = (path P a b).length := by rw [← hback, List.length_reverse]
  obtain ⟨L, hL⟩ : ∃ L, path P a b = L := ⟨_, rfl⟩
  obtain ⟨M, hM⟩ : ∃ M, path P b a = M := ⟨_, rfl⟩
  rw [hL] at hle PA DA hr hend hback hbl HNXT
  rw [hM] at PB hback hbl
  obtain ⟨k, hk⟩ : ∃ k, L.length = k := ⟨_, rfl⟩
  rw [hk] at hle DA hend hbl
  have hk1' : 1 ≤ k := by rw [← hk, hr]; simp
  have hhead : L[0]? = some a := by rw [hr]; rfl
  have HHEAD := Lib.hid hhead
  have HEND := Lib.hid hend
  have HPA := Lib.hid PA
  have HPB := Lib.hid PB
  have HDA := Lib.hid DA
  have HBACK := Lib.hid hback
  have HBL := Lib.hid hbl
  have HK := Lib.hid hk
  have HIB := Lib.hid hib
  clear hia hib eab eba hr hend hback PA PB DA edg hL hM hk hhead hbl hT
  go_wp2_with fail
  refine (live_any _).mono ?_
  rintro e w2 ⟨rfl, hk2⟩
  have hT2 := RawAt.keep hT1 hk2
  have hK2 := hk1.trans hk2
  go_wp2_with fail
  refine (HPA.out _ hT2 HT.out).mono ?_
  rintro e w3 ⟨v3, rfl, ho3, hk3⟩
  rw [HK.out] at ho3
  obtain ⟨g3, cap3, rfl, hg3, hg3l⟩ := ho3.form (by omega)
  have hT3 := RawAt.keep hT2 hk3
  have hK3 := hK2.trans hk3
  have HO3 := Lib.hid ho3
  clear ho3
  go_wp2_with fail
  refine (HPB.out _ hT3 HT.out).mono ?_
  rintro e w4 ⟨v4, rfl, ho4, hk4⟩
  rw [HBL.out] at ho4
  obtain ⟨g4, cap4, rfl, hg4, hg4l⟩ := ho4.form (by omega)
  have hT4 := RawAt.keep hT3 hk4
  have hK4 := hK3.trans hk4
  have HO4 := Lib.hid ho4
  clear ho4
  go_wp2_with fail
  refine (reverse_any g4 k cap4 w3.heap.size M _ HO4.out hk1' (by omega)).mono ?_
  rintro e w5 ⟨rfl, ho5, hk5⟩
  rw [HBACK.out] at ho5
  have hsz3 := hK3.size
  have hsT := hT1.2.2.lt
  have hs12 := hk2.size
  have hs23 := hk3.size
  have hT5 : TreeAt w5 w.heap.size P := RawAt.kept hT4 hk5 (by simp; omega)
  have hK5 : Kept [] w w5 := Kept.after hK4 hk5 (by simp; omega)
  have ho35 := (ownsRow_keep (ownsRow_keep HO3.out hk4 (by simp)) hk5 (by intro x hx; simp [Value.ownBlock] at hx; simp; omega))
  have HO5 := Lib.hid ho5
  have HO35 := Lib.hid ho35
  clear ho5 ho35 hT1 hT2 hT3 hT4 hk1 hk2 hk3 hk4 hk5 hK2 hK3 hK4
  go_wp2_with fail
  refine (HDA.out _ hT5 HT.out).mono ?_
  rintro e w6 ⟨rfl, hk6⟩
  have hT6 := RawAt.keep hT5 hk6
  have hK6 := hK5.trans hk6
  have ho36 := ownsRow_keep HO35.out hk6 (by simp)
  have ho56 := ownsRow_keep HO5.out hk6 (by simp)
  have hc0 : w6.cell? ⟨g3, 0, none⟩ = some (.int .i64 a) := by rw [ho36.cellAt 0 (by omega), List.getElem?_map, HHEAD.out]; rfl
  have hcl : w6.cell? ⟨g3, k - 1, none⟩ = some (.int .i64 b) := by rw [ho36.cellAt (k - 1) (by omega), List.getElem?_map, HEND.out]; rfl
  have HO36 := Lib.hid ho36
  have HO56 := Lib.hid ho56
  clear ho36 ho56 hT5 hk6 hK5
  go_wp2_with fail
  have r3 : RdI w6 .i64 (.slice (some ⟨g3, 0, none⟩) k cap3) L := (RdI.of_own HO36.out).1
  have r5 : RdI w6 .i64 (.slice (some ⟨g4, 0, none⟩) k cap4) L := (RdI.of_own HO56.out).1
  refine (equal_any .i64 _ _ L L _ (by exact r3) (by exact r5)).mono ?_
  rintro e w7 ⟨rfl, q, rfl⟩
  rw [dec_self]
  have hkc := (own_cap HO36.out).1
  have hkc2 := (own_cap HO36.out).2
  clear r3 r5 hc0 hcl
  have HT6 : Hid (TreeAt w6 w.heap.size P) := hT6
  go_wp2_with fail
  go_loopw [11] (fun p wr => ∃ (j : Nat), j + 1 ≤ k ∧ p = .int .i64 ((j : Int) + 1) ∧ Kept [] w6 wr) (fun i _ => k - (intOf i).toNat)
  case atStart => exact ⟨0, by omega, rfl, (Kept.refl [] w6).drewN q⟩
  case round =>
    obtain ⟨j, hik, rfl, hKr⟩ := hrel
    by_cases hlt : j + 1 < k
    · obtain ⟨x, hx⟩ : ∃ x, L[j]? = some x := ⟨_, List.getElem?_eq_getElem (by rw [HK.out]; omega)⟩
      obtain ⟨y, hy⟩ : ∃ y, L[j + 1]? = some y := ⟨_, List.getElem?_eq_getElem (by rw [HK.out]; omega)⟩
      obtain ⟨hxi, hyi, hpar, ⟨rr, hrr⟩, hnot⟩ := HNXT.out j x y hx hy
      have hnear := near_mem hxi hyi hpar
      have hcont : (L.take (j + 1)).contains y = false := by simpa using hnot
      have ho := ownsRow_keep HO36.out hKr (by simp)
      have hcx : wr.cell? ⟨g3, j, none⟩ = some (.int .i64 x) := by rw [ho.cellAt j (by omega), List.getElem?_map, hx]; rfl
      have hcy : wr.cell? ⟨g3, j + 1, none⟩ = some (.int .i64 y) := by rw [ho.cellAt (j + 1) (by omega), List.getElem?_map, hy]; rfl
      have hTr : TreeAt wr w.heap.size P := RawAt.keep hT6 hKr
      have NA := near_any w.heap.size P x
      obtain ⟨NL, hNL⟩ : ∃ NL, sel (nearB P x) P.length = NL := ⟨_, rfl⟩
      rw [hNL] at hnear NA
      have NX := next_any w.heap.size P x b
      rw [pathG_in hxi HIB.out, hrr] at NX
      have HHO : Hid (wr.ownsRow w2.heap.size 3 1 (.slice (some ⟨g3, 0, none⟩) k cap3) k (L.map (Value.int .i64))) := ho
      have HPRE : Hid (∀ w', Kept [] wr w' → RdI w' .i64 (.slice (some ⟨g3, 0, none⟩) (j + 1) cap3) (L.take (j + 1))) := fun w' hk' => by
        have h1 := ownsRow_keep ho hk' (by simp)
        have h2 := ownsRow_prefix h1 (m := j + 1) (by omega)
        rw [← List.map_take] at h2
        exact (RdI.of_own h2).1
      have HNEAR := Lib.hid hnear
      have HCONT := Lib.hid hcont
      have HNA := Lib.hid NA
      have HNX := Lib.hid NX
      clear hx hy hpar hrr hnot hnear hcont NA hNL NX ho hxi hyi
      have hK := Kept.refl [] wr
      have hwj : IntKind.i64.wrap (j : Int) = (j : Int) := by unfold IntKind.wrap; simp [IntKind.signed, IntKind.bits]; omega
      have hwj1 : IntKind.i64.wrap ((j : Int) + 1) = (j : Int) + 1 := by unfold IntKind.wrap; simp [IntKind.signed, IntKind.bits]; omega
      have hwj2 : ((j : Int) + 1).toNat = j + 1 := by omega
      have hq1 : (j : Int) < (k : Int) := by omega
      have hq2 : (j : Int) + 1 < (k : Int) := by omega
      have hq3 : (0 : Int) ≤ (j : Int) + 1 := by omega
      have hq4 : (j : Int) + 1 ≤ (cap3 : Int) := by omega
      have hq5 : (j : Int) + 1 ≤ (k : Int) := by omega
      have hq6 : j + 1 ≤ cap3 := by omega
      go_upto_region 12 with fail
      go_cut [115] (fun s wc => s = .bool false ∧ Kept [] wr wc)
      case first =>
       go_region_held3 (fun w' => w'.cell? ⟨g3, j, none⟩ = some (.int .i64 x) ∧ w'.cell? ⟨g3, j + 1, none⟩ = some (.int .i64 y)) (first | exact ⟨hcx, hcy⟩ | exact ⟨hcx2, hcy2⟩) (first
        | (go_at_call 18; refine (HNA.out _ (by first | exact hTr | exact hTr.drewN _)).mono ?_; rintro e w8 ⟨vn, rfl, hownN, hk1⟩; have hk2 : Kept [] wr w8 := Kept.trans (by first | exact hK | exact hK.drewN _) hk1; have hcy2 : w8.cell? ⟨g3, j + 1, none⟩ = some (.int .i64 y) := hk2.cell (by simp) hcy; have hcx2 : w8.cell? ⟨g3, j, none⟩ = some (.int .i64 x) := hk2.cell (by simp) hcx)
        | (go_at_call_of 17 vn; refine (contains_any _ NL y _ (RdI.of_own hownN).1).mono ?_; rintro e w' ⟨rfl, m2, rfl⟩; rw [HNEAR.out])
        | (go_at_call 17; refine (contains_any (.slice (some ⟨g3, 0, none⟩) (j + 1) cap3) (L.take (j + 1)) y _ (HPRE.out _ (by first | exact hk2 | exact hk2.drewN _ | exact (hk2.drewN _).drewN _))).mono ?_; rintro e w' ⟨rfl, m3, rfl⟩; rw [HCONT.out]))
       all_goals
        go_wp2_with fail
        go_meet
        case rel => exact ⟨rfl, by first | exact hk2 | exact hk2.drewN _ | exact (hk2.drewN _).drewN _ | exact ((hk2.drewN _).drewN _).drewN _⟩
      case rest =>
        obtain ⟨rfl, hkc⟩ := hcut
        have hcxc : wc.cell? ⟨g3, j, none⟩ = some (.int .i64 x) := hkc.cell (by simp) hcx
        go_wp2_with fail
        refine (HNX.out _ (RawAt.keep hTr hkc) HT.out).mono ?_
        rintro e w9 ⟨rfl, hk9⟩
        have hcy9 : w9.cell? ⟨g3, j + 1, none⟩ = some (.int .i64 y) := (hkc.trans hk9).cell (by simp) hcy
        dsimp only [nextV]
        go_wp2_with fail
        go_roundw
        case rel =>
          exact ⟨j + 1, by omega, by go_num, (hKr.trans hkc).trans hk9⟩
        case measure => simp [intOf]; omega
    · go_wp2_with fail
      go_ret
      exact ⟨rfl, hK6.trans hKr⟩

theorem treePaths_walk (w : World) (A : Option Addr) (n cap : Nat) (P : List Int) (hx : (Rk.slice (Rk.int .i64)).K w P [.slice A n cap]) (a : Int) (wa : (Lit.int .i64 a).wf = true) (b : Int) (wb : (Lit.int .i64 b).wf = true) :
    Calls Try.prog 4 #[.slice A n cap, .int .i64 a, .int .i64 b] w fun e w' => e = .returned (.bool true) ∧ Below w.heap.size w w' :=
  (treePaths_law w _ P a b (RdI.of_rk hx)).mono fun _ _ ⟨he, hk⟩ => ⟨he, hk.below⟩

end Go.Proofs.Ytikpnlmimhnmmaa

/- The reference's Ways. -/
import Derived.Test.YtikpnlmimhnmmaaT34
import Derived.Test.YtikpnlmimhnmmaaT22
set_option linter.unusedVariables false
set_option linter.unusedSimpArgs false
set_option linter.unnecessarySimpa false
namespace Go.Proofs.Ytikpnlmimhnmmaa
open Go.RowKit Tr

def cellsW (xs : List (Int × Int)) : List Value := xs.flatMap (fun p => [.int .i64 p.1, .int .i64 p.2])
theorem cellsW_app (xs ys : List (Int × Int)) : cellsW (xs ++ ys) = cellsW xs ++ cellsW ys := by unfold cellsW; rw [List.flatMap_append]
theorem cellsW_len (xs : List (Int × Int)) : (cellsW xs).length = xs.length * 2 := by
  induction xs with
  | nil => rfl
  | cons x xs ih =>
    have e : cellsW (x :: xs) = .int .i64 x.1 :: .int .i64 x.2 :: cellsW xs := rfl
    rw [e]; simp only [List.length_cons, ih]; omega
theorem cellsW_get : ∀ (xs : List (Int × Int)) (i : Nat) (x : Int × Int), xs[i]? = some x → (cellsW xs)[i * 2]? = some (.int .i64 x.1) ∧ (cellsW xs)[i * 2 + 1]? = some (.int .i64 x.2)
  | [], i, x, h => by simp at h
  | y :: ys, 0, x, h => by simp at h; subst h; exact ⟨rfl, rfl⟩
  | y :: ys, i + 1, x, h => by
    have := cellsW_get ys i x (by simpa using h)
    have e : cellsW (y :: ys) = .int .i64 y.1 :: .int .i64 y.2 :: cellsW ys := rfl
    rw [e, show (i + 1) * 2 = i * 2 + 1 + 1 by omega, show i * 2 + 1 + 1 + 1 = (i * 2 + 1) + 1 + 1 by omega]
    simpa using this
theorem RdW.of_own {w : World} {base : Nat} {e : TypeId} {v : Value} {n : Nat} {xs : List (Int × Int)} (h : w.ownsRow base e 2 v n (cellsW xs)) (h256 : xs.length ≤ 256) : RdW w v xs ∧ n = xs.length := by
  have hl : n = xs.length := by have := h.1; rw [cellsW_len] at this; omega
  subst hl
  refine ⟨?_, rfl⟩
  by_cases h0 : xs = []
  · subst h0
    obtain ⟨A, c, rfl, -⟩ := own_len h
    exact ⟨A, c, rfl, h256, fun hn => absurd rfl hn⟩
  · obtain ⟨g, cap, rfl, _, _⟩ := h.form (List.length_pos_iff.2 h0)
    refine ⟨_, cap, rfl, h256, fun _ => ⟨g, 0, rfl, fun i x hx => ?_⟩⟩
    have hi := (List.getElem?_eq_some_iff.1 hx).1
    have := cellsW_get xs i x hx
    rw [Nat.zero_add, h.cellAt _ (by omega), h.cellAt _ (by omega)]
    exact this
theorem infoWay : (Try.prog.info? 45).map (fun i => (i.zero, i.size, i.bytes)) = some (some (.agg #[.int .i64 0, .int .i64 0]), 2, 16) := by kernel_rfl
theorem cell_two_new (w : World) (x y : Value) (t : TypeId) : ∀ j u, [x, y][j]? = some u → (w.alloc (.cells #[x, y] t)).cell? ((⟨w.heap.size, 0, none⟩ : Addr).add j) = some u := by
  intro j u hj
  have ha : (⟨w.heap.size, 0, none⟩ : Addr).add j = ⟨w.heap.size, j, none⟩ := by unfold Addr.add; split <;> simp_all
  rw [ha, (Blk.new w _ _).cell]
  simpa using hj

def RWaysPost (w : World) (xs : List (Int × Int)) (e : Ending) (w' : World) : Prop := ∃ v, e = .returned v ∧ RdW w' v xs ∧ Kept [] w w'

set_option maxRecDepth 100000 in
set_option maxHeartbeats 4000000 in
theorem rways_any (r : Nat) (v : Value) (P : List Int) (w : World) (h : RT w r v P) (h16 : P.length ≤ 16) :
    Calls Try.prog 28 #[.pointer (some ⟨r, 0, none⟩)] w (RWaysPost w (waysL (fun k => sel (nearB P k) P.length) P.length)) := by
  obtain ⟨i0, hi0, hz0, hz1, hz2⟩ := info_parts infoWay
  have hc0 := h.1
  have NEA := Lib.hid (fun (i : Nat) (w' : World) (k : Kept [] w w') => rnear_any r v P i w' (RT.keep h k) h16)
  obtain ⟨A, c, rfl, _, _⟩ := h.2
  have HSL : ∀ k, (sel (nearB P k) P.length).length ≤ 16 := fun k => Nat.le_trans (sel_le _ _) h16
  obtain ⟨NL, hNL⟩ : ∃ NL : Nat → List Int, (fun k : Nat => sel (nearB P k) P.length) = NL := ⟨_, rfl⟩
  have hNL' : ∀ k : Nat, sel (nearB P k) P.length = NL k := fun k => by rw [← hNL]
  rw [hNL]
  simp only [hNL'] at NEA
  have HNL : ∀ k, (NL k).length ≤ 16 := fun k => by rw [← hNL' k]; exact Nat.le_trans (sel_le _ _) h16
  obtain ⟨n, hn⟩ : ∃ n, P.length = n := ⟨_, rfl⟩
  rw [hn] at h16 hc0 ⊢
  have HLE := Lib.hid (waysL_le NL HNL)
  have HNLE := Lib.hid HNL
  have HSUC := Lib.hid (waysL_succ NL)
  clear hNL hNL' HNL HSL hn h
  go_enter Try.func28, Try.ntmps28
  go_wp2_with fail
  go_loopw [3, 4] (fun o ii wr => ∃ (i : Nat), i ≤ n ∧ ii = .int .i64 i ∧ wr.ownsRow w.heap.size 45 2 o (waysL NL i).length (cellsW (waysL NL i)) ∧ Kept [] w wr) (fun _ ii _ => n - (intOf ii).toNat)
  case atStart => exact ⟨0, by omega, rfl, World.ownsRow_nil _ _ _ _, Kept.refl _ _⟩
  case round =>
    obtain ⟨i, hi, rfl, hown, hK⟩ := hrel
    have hc1 := hK.cell (by simp) hc0
    obtain ⟨AA, cc, rfl, -⟩ := own_len hown
    have HGB : Hid (∀ x, (Value.slice AA (waysL NL i).length cc).ownBlock = some x → w.heap.size ≤ x ∧ x < wr.heap.size) := fun x hx => hown.lt x hx
    have hle := HLE.out i
    have HOWN := Lib.hid hown
    clear hown
    by_cases hlt : i < n
    · have hlei := HNLE.out i
      have HSU := Lib.hid (HSUC.out i)
      obtain ⟨N, hN⟩ : ∃ N, NL i = N := ⟨_, rfl⟩
      have NE := Lib.hid (NEA.out i wr hK)
      rw [hN] at hlei HSU NE
      obtain ⟨L, hL⟩ : ∃ L, waysL NL i = L := ⟨_, rfl⟩
      rw [hL] at HGB hle HOWN HSU ⊢
      obtain ⟨ll, hll⟩ : ∃ ll, L.length = ll := ⟨_, rfl⟩
      rw [hll] at HGB hle HOWN ⊢
      have HLL := Lib.hid hll
      clear hN hL hll
      obtain ⟨wm, rfl⟩ : ∃ x, x = wr := ⟨_, rfl⟩
      go_wp2_with fail
      refine NE.out.mono ?_
      rintro e w3 ⟨lv, rfl, ho3, hk3⟩
      have HLB : Hid (∀ z, lv.ownBlock = some z → wm.heap.size ≤ z ∧ z < w3.heap.size) := fun z hz => ho3.lt z hz
      obtain ⟨nn, hnn⟩ : ∃ nn, N.length = nn := ⟨_, rfl⟩
      rw [hnn] at hlei
      have HNN := Lib.hid hnn
      have hrd3 := (RdI.of_own ho3).1
      have hK3 := hK.trans hk3
      have hsz3 := hk3.size
      obtain ⟨AL, cL, rfl, -⟩ := own_len ho3
      rw [hnn] at hrd3 HLB ⊢
      have HRD3 := Lib.hid hrd3
      have HO3 := Lib.hid (ownsRow_keep HOWN.out hk3 (by simp))
      clear ho3 hrd3 hnn
      go_wp2_with fail
      go_loopw [3, 6] (fun o kk wr => ∃ (k : Nat), k ≤ nn ∧ kk = .int .i64 k ∧ wr.ownsRow w.heap.size 45 2 o (ll + k) (cellsW (L ++ (N.take k).map (fun z => ((i : Int), z)))) ∧ Kept [] w wr ∧ RdI wr .i64 (.slice AL nn cL) N ∧ w3.heap.size ≤ wr.heap.size ∧ (∀ z, o.ownBlock = some z → (Value.slice AL nn cL).ownBlock ≠ some z)) (fun _ kk _ => nn - (intOf kk).toNat)
      case atStart => exact ⟨0, by omega, rfl, by simpa using HO3.out, hK3, HRD3.out, Nat.le_refl _, fun z hz hz2 => by have := (HGB.out z hz).2; have := (HLB.out z hz2).1; omega⟩
      case round =>
        obtain ⟨k, hk, rfl, hown4, hK4, hrd4, hsz4, hob4⟩ := hrel
        obtain ⟨A4, c4, rfl, -⟩ := own_len hown4
        have HGB4 : Hid (∀ x, (Value.slice A4 (ll + k) c4).ownBlock = some x → w.heap.size ≤ x) := fun x hx => (hown4.lt x hx).1
        have HOWN4 := Lib.hid hown4
        have HOB4 := Lib.hid hob4
        have HRD4 := Lib.hid hrd4
        clear hown4 hob4 hrd4
        have hc4 := hK4.cell (by simp) hc0
        by_cases hlt4 : k < nn
        · obtain ⟨y, hy⟩ : ∃ y, N[k]? = some y := ⟨_, List.getElem?_eq_getElem (by rw [HNN.out]; omega)⟩
          obtain ⟨A', c', he, _, hh⟩ := HRD4.out
          obtain ⟨bl, ol, rfl, hcell⟩ := hh (by rintro rfl; simp at hy)
          injection he with he1 he2 he3
          subst he1 he3
          have hcy := hcell k y hy
          have HNX : Hid (cellsW (L ++ (N.take k).map (fun z => ((i : Int), z))) ++ [.int .i64 i, .int .i64 y] = cellsW (L ++ (N.take (k + 1)).map (fun z => ((i : Int), z)))) := by
            obtain ⟨h1, h2⟩ := List.getElem?_eq_some_iff.1 hy
            show _ = _
            rw [List.take_succ_eq_append_getElem h1, h2, List.map_append, ← List.append_assoc, cellsW_app (L ++ _)]
            rfl
          clear hh hcell hy he2
          go_wp2_with (at_builtin; refine wpList_append_own_at _ rfl _ _ 49 rfl w.heap.size 45 i0 (.agg #[.int .i64 0, .int .i64 0]) 2 16 Try.underlying49 hi0 hz0 hz1 hz2 rfl (by decide) _ (ll + k) (cellsW (L ++ (N.take k).map (fun z => ((i : Int), z)))) rfl (World.ownsRow.alloc HOWN4.out _) ⟨wr.heap.size, 0, none⟩ 1 1 [.int .i64 i, .int .i64 y] rfl rfl (cell_two_new _ _ _ _) (by simp [Value.oneCell']) (by unfold maxLen; omega) (by omega) (by have := hK4.size; simp; omega) ?_)
          intro v' w5 hown5 hgrow5 _ hat5
          have hK5 : Kept [] w w5 := (hK4.alloc _).grown hgrow5 (fun x hx => .inr (HGB4.out x hx))
          have hKS : Kept ((Value.slice A4 (ll + k) c4).ownBlock.toList) wr w5 := ((Kept.refl _ wr).alloc _).grown hgrow5 (fun x hx => .inl (by rw [hx]; simp))
          have hrd5 := HRD4.out.kept hKS (fun b hb hm => HOB4.out b (by simpa using hm) hb)
          have hsz5 : w3.heap.size ≤ w5.heap.size := Nat.le_trans hsz4 hKS.size
          have hob5 : ∀ z, v'.ownBlock = some z → (Value.slice (some ⟨bl, ol, none⟩) nn cL).ownBlock ≠ some z := fun z hz hz2 => by
            rcases hat5 with h0 | h0
            · rw [h0] at hz; exact HOB4.out z hz hz2
            · rw [h0] at hz
              have h2 : wr.heap.size + 1 = z := Option.some.inj hz
              have := (HLB.out z hz2).2
              omega
          rw [← List.map_take, HNX.out] at hown5
          have HOWN5 := Lib.hid hown5
          have HOB5 := Lib.hid hob5
          have HRD5 := Lib.hid hrd5
          clear hown5 hgrow5 hat5 hob5 hKS hrd5
          go_wp2_with fail
          go_roundw
          case rel => exact ⟨k + 1, by omega, by go_num, HOWN5.out, hK5, HRD5.out, hsz5, HOB5.out⟩
          case measure => simp [intOf]; omega
        · have e : k = nn := by omega
          subst e
          go_wp2_with fail
          go_roundw
          case rel =>
            refine ⟨i + 1, by omega, by go_num, ?_, hK4⟩
            have := HOWN4.out
            rw [List.take_of_length_le (by rw [HNN.out]; omega), ← HSU.out] at this
            have e2 : (waysL NL (i + 1)).length = ll + k := by rw [HSU.out, List.length_append, List.length_map, HLL.out, HNN.out]
            rw [e2]
            exact this
          case measure => simp [intOf]; omega
    · have e : i = n := by omega
      subst e
      go_wp2_with fail
      go_ret
      exact ⟨_, rfl, (RdW.of_own HOWN.out (by omega)).1, hK⟩

end Go.Proofs.Ytikpnlmimhnmmaa

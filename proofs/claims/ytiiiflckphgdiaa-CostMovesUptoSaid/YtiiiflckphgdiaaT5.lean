/- The way between two brokers. -/
import Derived.Test.YtiiiflckphgdiaaT4
import Derived.Deep.CutBlock
import Derived.Deep.DeepCutAuto
set_option linter.unusedVariables false
set_option linter.unusedSimpArgs false
namespace Go.Proofs.Ytiiiflckphgdiaa
open Go.RowKit Tr

theorem ownsRow_prefix {w : World} {base : Nat} {e : TypeId} {g n cap m : Nat} {xs : List Value} (h : w.ownsRow base e 1 (.slice (some ⟨g, 0, none⟩) n cap) n xs) (hm : m ≤ n) :
    w.ownsRow base e 1 (.slice (some ⟨g, 0, none⟩) m cap) m (xs.take m) := by
  refine ⟨by rw [List.length_take, h.1]; omega, ?_⟩
  rcases h.2 with ⟨h0, _⟩ | ⟨g', cap', cur, h0, h1, h2, h3, h4, h5, h6⟩
  · cases h0
  · injection h0 with h7 h8 h9
    injection h7 with h7
    injection h7 with h7
    subst h7 h9
    refine .inr ⟨g, cap, cur, rfl, h1, h2, by omega, h4, h5, ?_⟩
    rw [← h6, List.take_take]
    congr 1
    omega

theorem own_cap {w : World} {base : Nat} {e : TypeId} {size g n cap : Nat} {xs : List Value} (h : w.ownsRow base e size (.slice (some ⟨g, 0, none⟩) n cap) n xs) : n ≤ cap ∧ cap ≤ 9223372036854775807 := by
  rcases h.2 with ⟨h0, _⟩ | ⟨g', cap', cur, h0, h1, h2, h3, h4, _⟩
  · cases h0
  · injection h0 with h7 h8 h9
    subst h9
    unfold maxLen at h4
    exact ⟨h3, by omega⟩

namespace Tr
/-- How long two lists are the same from the begin. -/
def cp : List Int → List Int → Nat
  | a :: x, b :: y => if a = b then cp x y + 1 else 0
  | _, _ => 0
theorem cp_le_l : ∀ (x y : List Int), cp x y ≤ x.length
  | [], _ => by simp [cp]
  | _ :: _, [] => by simp [cp]
  | a :: x, b :: y => by
    rw [cp]
    split
    · have := cp_le_l x y; simp; omega
    · simp
theorem cp_comm : ∀ (x y : List Int), cp x y = cp y x
  | [], [] => rfl
  | [], _ :: _ => by simp [cp]
  | _ :: _, [] => by simp [cp]
  | a :: x, b :: y => by
    rw [cp, cp, cp_comm x y]
    by_cases h : a = b
    · rw [if_pos h, if_pos h.symm]
    · rw [if_neg h, if_neg (fun e => h e.symm)]
theorem cp_le_r (x y : List Int) : cp x y ≤ y.length := by rw [cp_comm]; exact cp_le_l y x
theorem cp_get : ∀ (x y : List Int) (k : Nat), k < cp x y → x[k]? = y[k]? ∧ k < x.length
  | [], _, k, h => by simp [cp] at h
  | _ :: _, [], k, h => by simp [cp] at h
  | a :: x, b :: y, k, h => by
    rw [cp] at h
    split at h
    · rename_i e
      cases k with
      | zero => simp [e]
      | succ k =>
        have := cp_get x y k (by omega)
        simp [this.1]
        exact this.2
    · omega
theorem cp_end : ∀ (x y : List Int) (u v : Int), x[cp x y]? = some u → y[cp x y]? = some v → u ≠ v
  | [], _, u, v, h, _ => by simp at h
  | _ :: _, [], u, v, _, h => by simp at h
  | a :: x, b :: y, u, v, h1, h2 => by
    rw [cp] at h1 h2
    split at h1
    · rename_i e
      rw [if_pos e] at h2
      rw [List.getElem?_cons_succ] at h1 h2
      exact cp_end x y u v h1 h2
    · rename_i e
      rw [if_neg e] at h2
      simp at h1 h2
      subst h1 h2
      exact e

/-- The root's side first. -/
def rt (P : List Int) (i : Int) : List Int := (rise P i).reverse
def com (P : List Int) (a b : Int) : Nat := cp (rt P a) (rt P b)
/-- The way from a to b. -/
def path (P : List Int) (a b : Int) : List Int :=
  (rise P a).take ((rise P a).length + 1 - com P a b) ++ ((rise P b).take ((rise P b).length + 1 - com P a b)).reverse.tail
theorem com_comm (P : List Int) (a b : Int) : com P a b = com P b a := cp_comm _ _
theorem com_le_l (P : List Int) (a b : Int) : com P a b ≤ (rise P a).length := by unfold com rt; have := cp_le_l (rise P a).reverse (rise P b).reverse; simpa using this
theorem com_le_r (P : List Int) (a b : Int) : com P a b ≤ (rise P b).length := by rw [com_comm]; exact com_le_l P b a
theorem rt_root {P : List Int} (h : Tree P) {i : Int} (hi : inB P.length i) : ∃ r, (rt P i)[0]? = some r ∧ (rise P i)[depth P i]? = some r := by
  have hl := rise_len h hi
  have hlt : depth P i < (rise P i).length := by omega
  refine ⟨_, ?_, List.getElem?_eq_getElem hlt⟩
  unfold rt
  rw [List.getElem?_reverse (by omega)]
  rw [← List.getElem?_eq_getElem hlt]
  congr 1
  omega
theorem com_pos {P : List Int} (h : Tree P) {a b : Int} (ha : inB P.length a) (hb : inB P.length b) : 1 ≤ com P a b := by
  obtain ⟨r, h1, h2⟩ := rt_root h ha
  obtain ⟨s, h3, h4⟩ := rt_root h hb
  have e := rise_last h ha hb h2 h4
  subst e
  unfold com
  cases hx : rt P a with
  | nil => rw [hx] at h1; simp at h1
  | cons u x =>
    cases hy : rt P b with
    | nil => rw [hy] at h3; simp at h3
    | cons v y =>
      rw [hx] at h1
      rw [hy] at h3
      simp at h1 h3
      rw [cp, if_pos (by rw [h1, h3])]
      omega
end Tr

def pathG (P : List Int) (a b : Int) : List Int := if inB P.length a ∧ inB P.length b then path P a b else []

set_option maxRecDepth 100000 in
set_option maxHeartbeats 4000000 in
theorem path_in (b : Nat) (P : List Int) (x y : Int) (w : World) (h : TreeAt w b P) (hT : Tree P) (hx : inB P.length x) (hy : inB P.length y) :
    Calls Try.prog 92 #[.pointer (some ⟨b, 0, none⟩), .int .i64 x, .int .i64 y] w (RisePost w (path P x y)) := by
  obtain ⟨i0, hi, hz0, hz1, hz2⟩ := info_parts infoInt
  have hbx : (decide ((0:Int) ≤ x) && decide (x < (P.length:Int))) = true := by unfold inB at hx; simp; omega
  have hby : (decide ((0:Int) ≤ y) && decide (y < (P.length:Int))) = true := by unfold inB at hy; simp; omega
  have HBX := Lib.hid hbx
  have HBY := Lib.hid hby
  have erx : riseG P x = rise P x := by unfold riseG; rw [if_pos hx]
  have ery : riseG P y = rise P y := by unfold riseG; rw [if_pos hy]
  have hlx := riseG_le hT x
  have hly := riseG_le hT y
  have RX := rise_any b P x
  have RY := rise_any b P y
  rw [erx] at hlx RX
  rw [ery] at hly RY
  have RX' := Lib.hid RX
  have RY' := Lib.hid RY
  have hc1 := com_pos hT hx hy
  have hc2 := com_le_l P x y
  have hc3 := com_le_r P x y
  have HG : Hid (∀ k, k < com P x y → (rise P x).reverse[k]? = (rise P y).reverse[k]?) := fun k hk => (cp_get _ _ k hk).1
  have HE : Hid (∀ u v, (rise P x).reverse[com P x y]? = some u → (rise P y).reverse[com P x y]? = some v → u ≠ v) := fun u v h1 h2 => cp_end _ _ u v h1 h2
  clear hbx hby erx ery RX RY hx hy
  unfold path
  obtain ⟨X, hX⟩ : ∃ X, rise P x = X := ⟨_, rfl⟩
  obtain ⟨Y, hY⟩ : ∃ Y, rise P y = Y := ⟨_, rfl⟩
  obtain ⟨C, hC⟩ : ∃ C, com P x y = C := ⟨_, rfl⟩
  rw [hX] at hlx hc2 HG HE RX' ⊢
  rw [hY] at hly hc3 HG HE RY' ⊢
  rw [hC] at hc1 hc2 hc3 HG HE ⊢
  clear hX hY hC
  obtain ⟨lx, hlX⟩ : ∃ lx, X.length = lx := ⟨_, rfl⟩
  obtain ⟨ly, hlY⟩ : ∃ ly, Y.length = ly := ⟨_, rfl⟩
  rw [hlX] at hlx hc2 ⊢
  rw [hlY] at hly hc3 ⊢
  have HLX := Lib.hid hlX
  have HLY := Lib.hid hlY
  clear hlX hlY
  obtain ⟨R, hR⟩ : ∃ R, X.take (lx + 1 - C) ++ (Y.take (ly + 1 - C)).reverse.tail = R := ⟨_, rfl⟩
  rw [hR]
  have HR := Lib.hid hR
  clear hR
  go_enter Try.func92, Try.ntmps92
  go_wp2_with fail
  refine (is_some b P.length _ x _ h).mono ?_
  rintro e w' ⟨rfl, rfl⟩
  rw [HBX.out]
  go_wp2_with fail
  refine (is_some b P.length _ y _ h).mono ?_
  rintro e w' ⟨rfl, rfl⟩
  rw [HBY.out]
  go_wp2_with fail
  refine (RX'.out w h hT).mono ?_
  rintro e w1 ⟨v1, rfl, ho1, hK1⟩
  rw [HLX.out] at ho1
  obtain ⟨g1, cap1, rfl, hg1, hg1l⟩ := ho1.form (by omega)
  go_wp2_with fail
  refine (RY'.out w1 (RawAt.keep h hK1) hT).mono ?_
  rintro e w2 ⟨v2, rfl, ho2, hK2⟩
  rw [HLY.out] at ho2
  obtain ⟨g2, cap2, rfl, hg2, hg2l⟩ := ho2.form (by omega)
  have ho1' := ownsRow_keep ho1 hK2 (by simp)
  have hgne : g1 ≠ g2 := by omega
  have hK02 := hK1.trans hK2
  have HO1 := Lib.hid ho1'
  have HO2 := Lib.hid ho2
  have hgw : w.heap.size ≤ g2 := by have := hK1.size; omega
  obtain ⟨hc1a, hc1b⟩ := own_cap ho1
  obtain ⟨hc2a, hc2b⟩ := own_cap ho2
  clear ho1 ho2 ho1' hg2 hg1l
  go_upto_block 0 with fail
  go_cut [7, 8] (fun u v wc => ∃ (p q m : Nat), 1 ≤ p ∧ 1 ≤ q ∧ p + C = lx + 1 ∧ q + C = ly + 1 ∧ u = .slice (some ⟨g1, 0, none⟩) p cap1 ∧ v = .slice (some ⟨g2, 0, none⟩) q cap2 ∧ wc = w2.drewN m)
  case first =>
    go_wp2_with fail
    go_loopw [7, 8] (fun u v wr => ∃ (k p q m : Nat), k + 1 ≤ C ∧ p + k = lx ∧ q + k = ly ∧ u = .slice (some ⟨g1, 0, none⟩) p cap1 ∧ v = .slice (some ⟨g2, 0, none⟩) q cap2 ∧ wr = w2.drewN m) (fun u _ _ => sliceLen u)
    case atStart => exact ⟨0, lx, ly, 0, by omega, by omega, by omega, rfl, rfl, rfl⟩
    case round =>
      obtain ⟨k, p, q, m, hk, hp, hq, rfl, rfl, rfl⟩ := hrel
      have HP := Lib.hid hp
      have HQ := Lib.hid hq
      have hp1 : 1 ≤ p := by omega
      have hq1 : 1 ≤ q := by omega
      have hp16 : p ≤ 16 := by omega
      have hq16 : q ≤ 16 := by omega
      have hpc : p ≤ cap1 := by omega
      have hqc : q ≤ cap2 := by omega
      clear hp hq
      by_cases hlast : k + 1 = C
      · have HLAST := Lib.hid hlast
        clear hlast
        by_cases hp1' : p = 1
        · have b1 : decide ((1 : Int) < (p : Int)) = false := by simp; omega
          clear hp1'
          go_wp2_with fail
          go_quiet (fail)
          go_wp2_with fail
          go_meet
          case rel => exact ⟨p, q, _, by omega, by omega, by have := HP.out; have := HLAST.out; omega, by have := HQ.out; have := HLAST.out; omega, rfl, rfl, by rw [World.drewN_drewN]⟩
        · have b1 : decide ((1 : Int) < (p : Int)) = true := by simp; omega
          by_cases hq1'' : q = 1
          · have b2 : decide ((1 : Int) < (q : Int)) = false := by simp; omega
            clear hq1''
            go_wp2_with fail
            go_quiet (fail)
            go_wp2_with fail
            go_meet
            case rel => exact ⟨p, q, _, by omega, by omega, by have := HP.out; have := HLAST.out; omega, by have := HQ.out; have := HLAST.out; omega, rfl, rfl, by rw [World.drewN_drewN]⟩
          · have b2 : decide ((1 : Int) < (q : Int)) = true := by simp; omega
            have hp2 : 1 < p := by omega
            have hq2 : 1 < q := by omega
            obtain ⟨z1, hz1x⟩ : ∃ z, X[p - 2]? = some z := ⟨_, List.getElem?_eq_getElem (by have := HP.out; have := HLX.out; omega)⟩
            obtain ⟨z2, hz2x⟩ : ∃ z, Y[q - 2]? = some z := ⟨_, List.getElem?_eq_getElem (by have := HQ.out; have := HLY.out; omega)⟩
            have hzz : z1 ≠ z2 := by
              have e1 := HP.out
              have e2 := HQ.out
              have e3 := HLX.out
              have e4 := HLY.out
              have e5 := HLAST.out
              refine HE.out z1 z2 ?_ ?_
              · rw [List.getElem?_reverse (by omega), e3, show lx - 1 - C = p - 2 by omega]; exact hz1x
              · rw [List.getElem?_reverse (by omega), e4, show ly - 1 - C = q - 2 by omega]; exact hz2x
            have hzb : (z1 == z2) = false := by simp [hzz]
            have e1 : w2.cell? ⟨g1, p - 2, none⟩ = some (.int .i64 z1) := by rw [HO1.out.cellAt (p - 2) (by have := HP.out; omega), List.getElem?_map, hz1x]; rfl
            have e2 : w2.cell? ⟨g2, q - 2, none⟩ = some (.int .i64 z2) := by rw [HO2.out.cellAt (q - 2) (by have := HQ.out; omega), List.getElem?_map, hz2x]; rfl
            have HZZ := Lib.hid hzz
            clear hz1x hz2x hzz
            go_wp2_with fail
            go_quiet (fail)
            go_wp2_with fail
            go_meet
            case rel => exact ⟨p, q, _, by omega, by omega, by have := HP.out; have := HLAST.out; omega, by have := HQ.out; have := HLAST.out; omega, rfl, rfl, by rw [World.drewN_drewN]⟩
      · have hp2 : 1 < p := by have := HP.out; omega
        have hq2 : 1 < q := by have := HQ.out; omega
        obtain ⟨z, hz⟩ : ∃ z, X[p - 2]? = some z := ⟨_, List.getElem?_eq_getElem (by have := HP.out; have := HLX.out; omega)⟩
        have hz2 : Y[q - 2]? = some z := by
          have := HG.out (k + 1) (by omega)
          have e1 := HP.out
          have e2 := HQ.out
          have e3 := HLX.out
          have e4 := HLY.out
          rw [List.getElem?_reverse (by omega), List.getElem?_reverse (by omega), e3, e4, show lx - 1 - (k + 1) = p - 2 by omega, show ly - 1 - (k + 1) = q - 2 by omega, hz] at this
          exact this.symm
        have e1 : w2.cell? ⟨g1, p - 2, none⟩ = some (.int .i64 z) := by rw [HO1.out.cellAt (p - 2) (by have := HP.out; omega), List.getElem?_map, hz]; rfl
        have e2 : w2.cell? ⟨g2, q - 2, none⟩ = some (.int .i64 z) := by rw [HO2.out.cellAt (q - 2) (by have := HQ.out; omega), List.getElem?_map, hz2]; rfl
        have b1 : decide ((1 : Int) < (p : Int)) = true := by simp; omega
        have b2 : decide ((1 : Int) < (q : Int)) = true := by simp; omega
        clear hz hz2
        go_wp2_with fail
        go_quiet (fail)
        go_wp2_with fail
        go_quiet (fail)
        go_wp2_with fail
        go_roundw
        case rel => exact ⟨k + 1, p - 1, q - 1, _, by omega, by have := HP.out; omega, by have := HQ.out; omega, rfl, rfl, by rw [World.drewN_drewN, World.drewN_drewN]⟩
        case measure => simp [sliceLen]; omega
  case rest =>
    obtain ⟨p, q, m, hp1, hq1, hp, hq, rfl, rfl, rfl⟩ := hcut
    have HP := Lib.hid hp
    have HQ := Lib.hid hq
    have hp16 : p ≤ 16 := by omega
    have hq16 : q ≤ 16 := by omega
    have hpc : p ≤ cap1 := by omega
    have hqc : q ≤ cap2 := by omega
    have hqy : q ≤ ly := by omega
    have hpx : p ≤ lx := by omega
    clear hp hq
    go_wp2_with fail
    have hYq : (Y.take q).length = q := by rw [List.length_take, HLY.out]; have := HQ.out; omega
    have HYQ := Lib.hid hYq
    clear hYq
    have ho2q : w2.ownsRow w1.heap.size 3 1 (.slice (some ⟨g2, 0, none⟩) q cap2) q ((Y.take q).map (.int .i64)) := by
      have := ownsRow_prefix HO2.out (m := q) (by have := HQ.out; omega)
      rwa [← List.map_take] at this
    have ho1p : w2.ownsRow w.heap.size 3 1 (.slice (some ⟨g1, 0, none⟩) p cap1) p ((X.take p).map (.int .i64)) := by
      have := ownsRow_prefix HO1.out (m := p) (by have := HP.out; omega)
      rwa [← List.map_take] at this
    have HO2Q := Lib.hid ho2q
    have HO1P := Lib.hid ho1p
    clear ho2q ho1p
    refine (reverse_any g2 q cap2 w1.heap.size (Y.take q) _ (by exact HO2Q.out) (by omega) (by omega)).mono ?_
    rintro e w3 ⟨rfl, hor3, hK3⟩
    have hop3 := ownsRow_keep (by exact HO1P.out) hK3 (by intro x hx; simp [Value.ownBlock] at hx; simp; omega)
    have hKw3 : Kept [] w w3 := Kept.after (hK02.drewN _) hK3 (by simp; exact hgw)
    have HOR3 := Lib.hid hor3
    have HOP3 := Lib.hid hop3
    clear hor3 hop3
    have hsz3 : w.heap.size ≤ w3.heap.size := hKw3.size
    have hl1 : (((Y.take q).reverse.tail).map (Value.int .i64)).length = (q - 1) * 1 := by rw [List.length_map, List.length_tail, List.length_reverse, HYQ.out, Nat.mul_one]
    have HL1 := Lib.hid hl1
    clear hl1
    by_cases hcc : cap2 = 1
    · have hq1' : q = 1 := by omega
      subst hcc
      subst hq1'
      have htl : ((Y.take 1).reverse.tail) = [] := List.eq_nil_of_length_eq_zero (by simp [HYQ.out])
      have HTL := Lib.hid htl
      clear htl
      go_wp2_with (at_builtin; refine wpList_append_own _ rfl _ _ 47 rfl w.heap.size 3 i0 (.int .i64 0) 1 8 Try.underlying47 hi hz0 hz1 hz2 rfl (by decide) _ p ((X.take p).map (.int .i64)) rfl HOP3.out ⟨g2, 0, none⟩ 0 0 [] rfl rfl (by simp) (by simp) (by unfold maxLen; omega) (by omega) hsz3 ?_; intro v' w4 hown4 hgrow4 _)
      go_ret
      change w3.grownBy w4 (Value.ownBlock (.slice (some ⟨g1, 0, none⟩) p cap1)) at hgrow4
      refine ⟨v', rfl, ?_, hKw3.grown hgrow4 (fun x hx => .inr (by simp [Value.ownBlock] at hx; subst hx; exact hg1))⟩
      have ep : lx + 1 - C = p := by have := HP.out; omega
      have eq' : ly + 1 - C = 1 := by have := HQ.out; omega
      rw [← HR.out, ep, eq', HTL.out, List.append_nil]
      simp only [List.append_nil, Nat.add_zero] at hown4
      have hXp : (X.take p).length = p := by rw [List.length_take, HLX.out]; have := HP.out; omega
      simp only [List.length_map, hXp]
      simpa using hown4
    · have hcc2 : ¬ (cap2 - 1 = 0) := by omega
      have hca : ∀ j u, (((Y.take q).reverse.tail).map (Value.int .i64))[j]? = some u → w3.cell? ((⟨g2, 1, none⟩ : Addr).add j) = some u := by
        intro j u hu
        have ha : (⟨g2, 1, none⟩ : Addr).add j = ⟨g2, 1 + j, none⟩ := by unfold Addr.add; split <;> simp_all
        have hj : j < q - 1 := by
          have := (List.getElem?_eq_some_iff.1 hu).1
          rw [HL1.out] at this; omega
        rw [ha, HOR3.out.cellAt (1 + j) (by omega)]
        rw [List.getElem?_map, List.getElem?_tail] at hu
        rw [List.getElem?_map, Nat.add_comm 1 j]
        exact hu
      have HCA := Lib.hid hca
      clear hca
      go_wp2_with (at_builtin; refine wpList_append_own _ rfl _ _ 47 rfl w.heap.size 3 i0 (.int .i64 0) 1 8 Try.underlying47 hi hz0 hz1 hz2 rfl (by decide) _ p ((X.take p).map (.int .i64)) rfl HOP3.out ⟨g2, 1, none⟩ (q - 1) (cap2 - 1) (((Y.take q).reverse.tail).map (.int .i64)) rfl HL1.out HCA.out (by intro u hu; obtain ⟨z, _, rfl⟩ := List.mem_map.1 hu; rfl) (by unfold maxLen; omega) (by omega) hsz3 ?_; intro v' w4 hown4 hgrow4 _)
      go_ret
      change w3.grownBy w4 (Value.ownBlock (.slice (some ⟨g1, 0, none⟩) p cap1)) at hgrow4
      refine ⟨v', rfl, ?_, hKw3.grown hgrow4 (fun x hx => .inr (by simp [Value.ownBlock] at hx; subst hx; exact hg1))⟩
      have ep : lx + 1 - C = p := by have := HP.out; omega
      have eq' : ly + 1 - C = q := by have := HQ.out; omega
      rw [← HR.out, ep, eq', List.map_append]
      have hXp : (X.take p ++ ((Y.take q).reverse).tail).length = p + (q - 1) := by
        rw [List.length_append, List.length_take, HLX.out]
        have h1 := HL1.out
        rw [List.length_map] at h1
        have := HP.out
        omega
      simp only [List.length_map, hXp]
      exact hown4

end Go.Proofs.Ytiiiflckphgdiaa

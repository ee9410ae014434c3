/- Whether attributes are the same; attributes in memory of their own. -/
import Derived.Test.YthgenobbpaclhaaDoorRows
import Derived.WalkKit
import Derived.WalkSpells
import Derived.WalkLawsBesides
import Derived.Deep.QuietTactic
import Derived.BigQuiet
import Derived.Lib.Hide
import Derived.Lib.ConvBytes
import Derived.Deep.Slices
import Derived.ProofKit
import Derived.SizedLaws
import Derived.Test.YthgenobbpaclhaaDoorShelf
import Derived.Laws.BytesArg
import Derived.Laws.BitsLemmas
import Derived.Deep.RegionHeld3
import Derived.Deep.AppendLies
import Derived.Maps.AppendAt
import Derived.Test.YthgenobbpaclhaaDoorV10
set_option linter.unusedVariables false
set_option linter.unusedSimpArgs false
set_option linter.unnecessarySimpa false
namespace Go.Proofs.YthgenobbpaclhaaDoor
open Go.RowKit Go.Shelf
attribute [local go_sem] Oper.semAt_some

def eqA (x y : AttrD) : Bool := (x.1.toList == y.1.toList) && ((x.2.1 == y.2.1) && ((x.2.2.1 == y.2.2.1) && (x.2.2.2.toList == y.2.2.2.toList)))
def sameGo : List AttrD → List AttrD → Bool
  | [], [] => true
  | x :: xs, y :: ys => eqA x y && sameGo xs ys
  | _, _ => false
theorem sameGo_self : ∀ l, sameGo l l = true
  | [] => rfl
  | x :: xs => by rw [sameGo, sameGo_self xs]; simp [eqA]
theorem sameGo_len : ∀ l m, l.length ≠ m.length → sameGo l m = false
  | [], [], h => absurd rfl h
  | [], _ :: _, _ => rfl
  | _ :: _, [], _ => rfl
  | x :: xs, y :: ys, h => by rw [sameGo, sameGo_len xs ys (by simpa using h)]; simp

set_option maxRecDepth 100000 in
set_option maxHeartbeats 4000000 in
theorem equal_attrs (v u : Value) (l m : List AttrD) (w : World) (hx : Rds attrR w v l) (hy : Rds attrR w u m) :
    Calls Tryd.prog 49 #[v, u] w fun e w' => e = .returned (.bool (sameGo l m)) ∧ Kept [] w w' := by
  have HX := Lib.hid hx
  have HY := Lib.hid hy
  obtain ⟨A, c, rfl, hmx⟩ := hx.form
  obtain ⟨B, d, rfl, hmy⟩ := hy.form
  obtain ⟨n, hn⟩ : ∃ n, l.length = n := ⟨_, rfl⟩
  obtain ⟨p, hp⟩ : ∃ p, m.length = p := ⟨_, rfl⟩
  obtain ⟨G, hG⟩ : ∃ G, sameGo l m = G := ⟨_, rfl⟩
  have HLN : Hid (n ≠ p → G = false) := fun h => by rw [← hG]; exact sameGo_len l m (by rw [hn, hp]; exact h)
  have HG := Lib.hid hG
  rw [hG]
  rw [hn] at hmx HX ⊢
  rw [hp] at hmy HY ⊢
  have HN := Lib.hid hn
  have HP := Lib.hid hp
  clear hn hp hx hy hG
  by_cases hnp : n = p
  · subst hnp
    clear HLN
    go_enter Tryd.func49, Tryd.ntmps49
    go_wp2_with fail
    go_loopw [13] (fun i wr => ∃ (k : Nat), k ≤ n ∧ i = .int .i64 k ∧ sameGo (l.drop k) (m.drop k) = G ∧ Kept [] w wr) (fun i _ => n - (intOf i).toNat)
    case atStart => exact ⟨0, by omega, rfl, HG.out, Kept.refl _ _⟩
    case round =>
      obtain ⟨k, hk, rfl, hg, hK⟩ := hrel
      have HGO := Lib.hid hg
      have HK := Lib.hid hK
      clear hg
      by_cases hlt : k < n
      · obtain ⟨b, off, c', x, cs', he, hx, hE, hc⟩ := (Rds.keep HX.out hK).at (k := k) (by rw [HN.out]; exact hlt)
        injection he with he1 he2 he3
        subst he1 he3
        obtain ⟨rfl, _, _⟩ := attrR_cells hE
        clear hE
        obtain ⟨x0, x1, x2, x3⟩ := x
        have e0 := hc 0 (by decide)
        have e1 := hc 1 (by decide)
        have e2 := hc 2 (by decide)
        have e3 := hc 3 (by decide)
        simp [attrC, show attrR.sz = 4 from rfl] at e0 e1 e2 e3
        obtain ⟨b2, off2, c2, y, cs2, he, hy, hE, hc2⟩ := (Rds.keep HY.out hK).at (k := k) (by rw [HP.out]; exact hlt)
        injection he with he1 he2' he3
        subst he1 he3
        obtain ⟨rfl, _, _⟩ := attrR_cells hE
        clear hE
        obtain ⟨y0, y1, y2, y3⟩ := y
        have d0 := hc2 0 (by decide)
        have d1 := hc2 1 (by decide)
        have d2 := hc2 2 (by decide)
        have d3 := hc2 3 (by decide)
        simp [attrC, show attrR.sz = 4 from rfl] at d0 d1 d2 d3
        have HD := Lib.hid (drop_at hx)
        have HE := Lib.hid (drop_at hy)
        have hk0 : (0 : Int) ≤ (k : Int) := by omega
        have hkn : (k : Int) < (n : Int) := by omega
        clear hx hy he2 he2' hc hc2 hK
        cases q0 : (x0.toList == y0.toList) with
        | false =>
          have Q0 := Lib.hid q0
          go_wp2_with fail
          go_quiet (fail)
          go_wp2_with fail
          go_ret
          refine ⟨ret_bool ?_, HK.out.drewN _⟩
          rw [← HGO.out, HD.out, HE.out, sameGo, eqA, Q0.out]; rfl
        | true =>
          cases q1 : (x1 == y1) with
          | false =>
            have Q1 := Lib.hid q1
            go_wp2_with fail
            go_quiet (fail)
            go_wp2_with fail
            go_ret
            refine ⟨ret_bool ?_, HK.out.drewN _⟩
            rw [← HGO.out, HD.out, HE.out, sameGo, eqA, Q1.out]; simp
          | true =>
            cases q2 : (x2 == y2) with
            | false =>
              have Q2 := Lib.hid q2
              go_wp2_with fail
              go_quiet (fail)
              go_wp2_with fail
              go_ret
              refine ⟨ret_bool ?_, HK.out.drewN _⟩
              rw [← HGO.out, HD.out, HE.out, sameGo, eqA, Q2.out]; simp
            | true =>
              cases q3 : (x3.toList == y3.toList) with
              | false =>
                have Q3 := Lib.hid q3
                go_wp2_with fail
                go_quiet (fail)
                go_wp2_with fail
                go_ret
                refine ⟨ret_bool ?_, HK.out.drewN _⟩
                rw [← HGO.out, HD.out, HE.out, sameGo, eqA, Q3.out]; simp
              | true =>
                have HQ : Hid (eqA (x0, x1, x2, x3) (y0, y1, y2, y3) = true) := by show _ = _; unfold eqA; rw [q0, q1, q2, q3]; rfl
                go_wp2_with fail
                go_quiet (fail)
                go_wp2_with fail
                go_roundw
                case rel =>
                  refine ⟨k + 1, by omega, by go_num, ?_, HK.out.drewN _⟩
                  rw [← HGO.out, HD.out, HE.out, sameGo, HQ.out]
                  rfl
                case measure => simp [intOf]; omega
      · go_wp2_with fail
        go_ret
        refine ⟨ret_bool ?_, hK⟩
        have := HGO.out
        rwa [List.drop_eq_nil_of_le (by rw [HN.out]; omega), List.drop_eq_nil_of_le (by rw [HP.out]; omega), sameGo] at this
  · have HE := Lib.hid (HLN.out hnp)
    have hb : ((n : Int) == (p : Int)) = false := by rw [beq_eq_false_iff_ne]; omega
    rw [HE.out]
    clear hnp
    go_enter Tryd.func49, Tryd.ntmps49
    go_wp2_with fail
    go_ret
    exact ⟨rfl, Kept.refl _ _⟩

end Go.Proofs.YthgenobbpaclhaaDoor

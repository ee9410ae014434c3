/- Whether attributes are the same: the document's; attributes in memory of their own; the value of any name. -/
import Derived.Test.YthgenobbpaclhaaDoorRows
import Derived.WalkKit
import Derived.WalkSpells
import Derived.WalkLawsBesides
import Derived.Deep.QuietTactic
import Derived.BigQuiet
import Derived.Lib.Hide
import Derived.Lib.ConvBytes
import Derived.Deep.Slices
import Derived.ProofKit
import Derived.SizedLaws
import Derived.Test.YthgenobbpaclhaaDoorShelf
import Derived.Laws.BytesArg
import Derived.Laws.BitsLemmas
import Derived.Deep.RegionHeld3
import Derived.Deep.AppendLies
import Derived.Maps.AppendAt
import Derived.Test.YthgenobbpaclhaaDoorV11
set_option linter.unusedVariables false
set_option linter.unusedSimpArgs false
set_option linter.unnecessarySimpa false
namespace Go.Proofs.YthgenobbpaclhaaDoor
open Go.RowKit Go.Shelf
attribute [local go_sem] Oper.semAt_some Lib.run_eql_slice_nil

set_option maxRecDepth 100000 in
set_option maxHeartbeats 4000000 in
theorem rsame_any (v u : Value) (l m : List AttrD) (w : World) (hx : Rds attrR w v l) (hy : Rds attrR w u m) :
    Calls Tryd.prog 30 #[v, u] w fun e w' => e = .returned (.bool (sameGo l m)) ∧ Kept [] w w' := by
  have HX := Lib.hid hx
  have HY := Lib.hid hy
  obtain ⟨A, c, rfl, hmx⟩ := hx.form
  obtain ⟨B, d, rfl, hmy⟩ := hy.form
  obtain ⟨n, hn⟩ : ∃ n, l.length = n := ⟨_, rfl⟩
  obtain ⟨p, hp⟩ : ∃ p, m.length = p := ⟨_, rfl⟩
  obtain ⟨G, hG⟩ : ∃ G, sameGo l m = G := ⟨_, rfl⟩
  have HLN : Hid (n ≠ p → G = false) := fun h => by rw [← hG]; exact sameGo_len l m (by rw [hn, hp]; exact h)
  have HG := Lib.hid hG
  rw [hG]
  rw [hn] at hmx HX ⊢
  rw [hp] at hmy HY ⊢
  have HN := Lib.hid hn
  have HP := Lib.hid hp
  clear hn hp hx hy hG
  by_cases hnp : n = p
  · subst hnp
    clear HLN
    go_enter Tryd.func30, Tryd.ntmps30
    go_wp2_with fail
    go_loopw [5] (fun i wr => ∃ (k : Nat), k ≤ n ∧ i = .int .i64 k ∧ sameGo (l.drop k) (m.drop k) = G ∧ Kept [] w wr) (fun i _ => n - (intOf i).toNat)
    case atStart => exact ⟨0, by omega, rfl, HG.out, Kept.refl _ _⟩
    case round =>
      obtain ⟨k, hk, rfl, hg, hK⟩ := hrel
      have HGO := Lib.hid hg
      have HK := Lib.hid hK
      clear hg
      by_cases hlt : k < n
      · obtain ⟨b, off, c', x, cs', he, hx, hE, hc⟩ := (Rds.keep HX.out hK).at (k := k) (by rw [HN.out]; exact hlt)
        injection he with he1 he2 he3
        subst he1 he3
        obtain ⟨rfl, _, _⟩ := attrR_cells hE
        clear hE
        obtain ⟨x0, x1, x2, x3⟩ := x
        have e0 := hc 0 (by decide)
        have e1 := hc 1 (by decide)
        have e2 := hc 2 (by decide)
        have e3 := hc 3 (by decide)
        simp [attrC, show attrR.sz = 4 from rfl] at e0 e1 e2 e3
        obtain ⟨b2, off2, c2, y, cs2, he, hy, hE, hc2⟩ := (Rds.keep HY.out hK).at (k := k) (by rw [HP.out]; exact hlt)
        injection he with he1 he2' he3
        subst he1 he3
        obtain ⟨rfl, _, _⟩ := attrR_cells hE
        clear hE
        obtain ⟨y0, y1, y2, y3⟩ := y
        have d0 := hc2 0 (by decide)
        have d1 := hc2 1 (by decide)
        have d2 := hc2 2 (by decide)
        have d3 := hc2 3 (by decide)
        simp [attrC, show attrR.sz = 4 from rfl] at d0 d1 d2 d3
        have HD := Lib.hid (drop_at hx)
        have HE := Lib.hid (drop_at hy)
        have hk0 : (0 : Int) ≤ (k : Int) := by omega
        have hkn : (k : Int) < (n : Int) := by omega
        clear hx hy he2 he2' hc hc2 hK
        cases q0 : (x0.toList == y0.toList) with
        | false =>
          have Q0 := Lib.hid q0
          go_wp2_with fail
          go_quiet (fail)
          go_wp2_with fail
          go_ret
          refine ⟨ret_bool ?_, HK.out.drewN _⟩
          rw [← HGO.out, HD.out, HE.out, sameGo, eqA, Q0.out]; rfl
        | true =>
          cases q1 : (x1 == y1) with
          | false =>
            have Q1 := Lib.hid q1
            go_wp2_with fail
            go_quiet (fail)
            go_wp2_with fail
            go_ret
            refine ⟨ret_bool ?_, HK.out.drewN _⟩
            rw [← HGO.out, HD.out, HE.out, sameGo, eqA, Q1.out]; simp
          | true =>
            cases q2 : (x2 == y2) with
            | false =>
              have Q2 := Lib.hid q2
              go_wp2_with fail
              go_quiet (fail)
              go_wp2_with fail
              go_ret
              refine ⟨ret_bool ?_, HK.out.drewN _⟩
              rw [← HGO.out, HD.out, HE.out, sameGo, eqA, Q2.out]; simp
            | true =>
              cases q3 : (x3.toList == y3.toList) with
              | false =>
                have Q3 := Lib.hid q3
                go_wp2_with fail
                go_quiet (fail)
                go_wp2_with fail
                go_ret
                refine ⟨ret_bool ?_, HK.out.drewN _⟩
                rw [← HGO.out, HD.out, HE.out, sameGo, eqA, Q3.out]; simp
              | true =>
                have HQ : Hid (eqA (x0, x1, x2, x3) (y0, y1, y2, y3) = true) := by show _ = _; unfold eqA; rw [q0, q1, q2, q3]; rfl
                go_wp2_with fail
                go_quiet (fail)
                go_wp2_with fail
                go_roundw
                case rel =>
                  refine ⟨k + 1, by omega, by go_num, ?_, HK.out.drewN _⟩
                  rw [← HGO.out, HD.out, HE.out, sameGo, HQ.out]
                  rfl
                case measure => simp [intOf]; omega
      · go_wp2_with fail
        go_ret
        refine ⟨ret_bool ?_, hK⟩
        have := HGO.out
        rwa [List.drop_eq_nil_of_le (by rw [HN.out]; omega), List.drop_eq_nil_of_le (by rw [HP.out]; omega), sameGo] at this
  · have HE := Lib.hid (HLN.out hnp)
    have hb : ((n : Int) == (p : Int)) = false := by rw [beq_eq_false_iff_ne]; omega
    rw [HE.out]
    clear hnp
    go_enter Tryd.func30, Tryd.ntmps30
    go_wp2_with fail
    go_ret
    exact ⟨rfl, Kept.refl _ _⟩

def cellsA (xs : List AttrD) : List Value := xs.flatMap attrC
theorem cellsA_len (xs : List AttrD) : (cellsA xs).length = xs.length * 4 := by
  induction xs with
  | nil => rfl
  | cons x xs ih =>
    have e : cellsA (x :: xs) = attrC x ++ cellsA xs := rfl
    rw [e, List.length_append, ih, List.length_cons]
    simp [attrC]; omega
theorem cellsA_get : ∀ (xs : List AttrD) (i : Nat) (x : AttrD), xs[i]? = some x → ∀ j, j < 4 → (cellsA xs)[i * 4 + j]? = (attrC x)[j]?
  | [], i, x, h => by simp at h
  | y :: ys, 0, x, h => by
    simp at h
    subst h
    intro j hj
    have e : cellsA (y :: ys) = attrC y ++ cellsA ys := rfl
    rw [e, List.getElem?_append_left (by simp [attrC]; omega)]
    congr 1
    omega
  | y :: ys, i + 1, x, h => by
    intro j hj
    have e : cellsA (y :: ys) = attrC y ++ cellsA ys := rfl
    rw [e, List.getElem?_append_right (by simp [attrC]; omega)]
    have := cellsA_get ys i x (by simpa using h) j hj
    rw [← this]
    congr 1
    simp [attrC]; omega
theorem cellsA_one {xs : List AttrD} {u : Value} (h : u ∈ cellsA xs) : u.oneCell' = true := by
  unfold cellsA at h
  rw [List.mem_flatMap] at h
  obtain ⟨x, _, hu⟩ := h
  unfold attrC at hu
  simp at hu
  rcases hu with rfl | rfl | rfl | rfl <;> rfl
theorem infoA : ∃ i z, Tryd.prog.info? 61 = some i ∧ i.zero = some z ∧ i.size = 4 ∧ i.bytes = 48 ∧ z.cells.size = 4 := by
  have h : (Tryd.prog.info? 61).map (fun i => (i.zero, i.size, i.bytes)) = some (some (.agg #[.string { data := #[] }, .int .i64 0, .int .i64 0, .string { data := #[] }]), 4, 48) := by kernel_rfl
  obtain ⟨i, h0, h1, h2, h3⟩ := info_parts h
  exact ⟨i, _, h0, h1, h2, h3, rfl⟩
/-- The cells of what is read. -/
theorem Rds.cells {w : World} {l : List AttrD} {A : Option Addr} {n c : Nat} (h : Rds attrR w (.slice A n c) l) (hn : l.length = n) : (A = none ∧ l = [] ∧ c = 0) ∨ ∃ ad, A = some ad ∧ ∀ j u, (cellsA l)[j]? = some u → w.cell? (ad.add j) = some u := by
  obtain ⟨A', c', he, h1, h2, h3, hE⟩ := h
  simp only [List.cons.injEq, and_true] at he
  injection he with he1 he2 he3
  subst he1 he3
  cases A with
  | none => exact .inl ⟨rfl, (h3 rfl).1, (h3 rfl).2⟩
  | some ad =>
    refine .inr ⟨ad, rfl, fun j u hj => ?_⟩
    have hjl := (List.getElem?_eq_some_iff.1 hj).1
    rw [cellsA_len] at hjl
    obtain ⟨b, off, he, hx⟩ := hE (by rintro rfl; simp at hjl)
    injection he with he
    subst he
    have hi : j / 4 < l.length := by omega
    obtain ⟨cs, hK, hc⟩ := hx (j / 4) _ (List.getElem?_eq_getElem hi)
    obtain ⟨rfl, _, _⟩ := attrR_cells hK
    have h4 := hc (j % 4) (by show j % 4 < 4; omega)
    have h5 := cellsA_get l (j / 4) _ (List.getElem?_eq_getElem hi) (j % 4) (by omega)
    rw [show j / 4 * 4 + j % 4 = j by omega, hj] at h5
    rw [← h5] at h4
    have ha : (⟨b, off, none⟩ : Addr).add j = ⟨b, off + j / 4 * attrR.sz + j % 4, none⟩ := by
      have e : off + j / 4 * attrR.sz + j % 4 = off + j := by show off + j / 4 * 4 + j % 4 = off + j; omega
      rw [e]
      unfold Addr.add; split <;> simp_all
    rw [ha]
    exact h4
theorem strs_ok {w : World} {v : Value} {l : List AttrD} (h : Rds attrR w v l) : ∀ x ∈ l, x.1.size ≤ maxLen ∧ x.2.2.2.size ≤ maxLen := by
  intro x hx
  obtain ⟨i, hi, rfl⟩ := List.getElem_of_mem hx
  obtain ⟨b, off, c, y, cs, _, hy, hE, _⟩ := h.at hi
  rw [List.getElem?_eq_getElem hi] at hy
  injection hy with hy
  subst hy
  exact (attrR_cells hE).2
theorem ints_ok {w : World} {v : Value} {l : List AttrD} (h : Rds attrR w v l) : ∀ x ∈ l, attrR.K w x (attrC x) := by
  intro x hx
  obtain ⟨i, hi, rfl⟩ := List.getElem_of_mem hx
  obtain ⟨b, off, c, y, cs, _, hy, hE, _⟩ := h.at hi
  rw [List.getElem?_eq_getElem hi] at hy
  injection hy with hy
  subst hy
  obtain ⟨rfl, _, _⟩ := attrR_cells hE
  exact hE
/-- A row of the call's own reads as its list. -/
theorem rds_of_own {w : World} {base : Nat} {v : Value} {l : List AttrD} (h : w.ownsRow base 61 4 v l.length (cellsA l)) (hl : l.length ≤ maxLen) (hok : ∀ x ∈ l, attrR.K w x (attrC x)) : Rds attrR w v l := by
  rcases h.2 with ⟨rfl, h0⟩ | ⟨g, cap, cur, rfl, hg, hb, h1, h2, _⟩
  · have e : l = [] := List.eq_nil_of_length_eq_zero h0
    subst e
    exact ⟨none, 0, rfl, Nat.le_refl _, Nat.zero_le _, fun _ => ⟨rfl, rfl⟩, fun hn => absurd rfl hn⟩
  · refine ⟨some ⟨g, 0, none⟩, cap, rfl, h1, h2, (fun e => by cases e), fun hn => ⟨g, 0, rfl, fun i x hx => ⟨attrC x, hok x (List.mem_of_getElem? hx), fun j hj => ?_⟩⟩⟩
    have hj4 : j < 4 := hj
    have hi := (List.getElem?_eq_some_iff.1 hx).1
    have e := cellsA_get l i x hx j hj4
    have hlt : j < (attrC x).length := by simp [attrC]; omega
    rw [List.getElem?_eq_getElem hlt] at e ⊢
    have hc := h.cells (g := g) rfl (i * 4 + j) _ e
    have ha : (⟨g, 0, none⟩ : Addr).add (i * 4 + j) = ⟨g, 0 + i * attrR.sz + j, none⟩ := by
      have e2 : 0 + i * attrR.sz + j = i * 4 + j := by show 0 + i * 4 + j = _; omega
      rw [e2]
      unfold Addr.add; split <;> simp_all
    rw [ha] at hc
    exact hc
def ReadPost (w : World) (l : List AttrD) (e : Ending) (w' : World) : Prop := ∃ v, e = .returned v ∧ Rds attrR w' v l ∧ w'.ownsRow w.heap.size 61 4 v l.length (cellsA l) ∧ Kept [] w w'
theorem own_emptyA (w : World) (base : Nat) (hb : base ≤ w.heap.size) : (w.alloc (.cells #[] 61)).ownsRow base 61 4 (.slice (some ⟨w.heap.size, 0, none⟩) 0 0) 0 [] := by
  have h := World.ownsRow_lit (base := base) (e := 61) (size := 4) w #[] 0 hb (by simp) (by simp)
  simpa using h
end Go.Proofs.YthgenobbpaclhaaDoor

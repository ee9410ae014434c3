/- Attributes that are read; the first one of a name. -/
import Derived.Test.YthnfoiaahiopdaaDoorRows
import Derived.WalkKit
import Derived.WalkSpells
import Derived.WalkLawsBesides
import Derived.Deep.QuietTactic
import Derived.BigQuiet
import Derived.Lib.Hide
import Derived.Lib.ConvBytes
import Derived.Deep.Slices
import Derived.ProofKit
import Derived.SizedLaws
import Derived.Test.YthnfoiaahiopdaaDoorShelf
import Derived.Laws.BytesArg
import Derived.Laws.BitsLemmas
import Derived.Deep.RegionHeld3
import Derived.Deep.AppendLies
import Derived.Maps.AppendAt
import Derived.Test.YthnfoiaahiopdaaDoorVR
set_option linter.unusedVariables false
set_option linter.unusedSimpArgs false
set_option linter.unnecessarySimpa false
namespace Go.Proofs.YthnfoiaahiopdaaDoor
open Go.RowKit Go.Shelf
attribute [local go_sem] Oper.semAt_some

abbrev AttrD := ByteArray × ValD
def attrR : Rk AttrD := Rk.str.pair valR
def attrsR : Rk (List AttrD) := Rk.slice attrR
theorem attrR_of : attrR.Of Tryd.prog 36 :=
  Rk.of_struct Tryd.underlying36 (Rk.fields_cons strR_of rfl (by kernel_rfl) (Rk.fields_one valR_of rfl (by kernel_rfl))) (by kernel_rfl)
def attrC (x : AttrD) : List Value := [.string x.1, .int .i64 x.2.1, .int .i64 x.2.2.1, .string x.2.2.2]
theorem attrR_cells {w : World} {x : AttrD} {cs : List Value} (h : attrR.K w x cs) : cs = attrC x ∧ x.1.size ≤ maxLen ∧ x.2.2.2.size ≤ maxLen := by
  obtain ⟨_, _, rfl, ⟨rfl, h1⟩, _, _, rfl, ⟨rfl, _⟩, _, _, rfl, ⟨rfl, _⟩, ⟨rfl, hz⟩⟩ := h
  exact ⟨rfl, h1, hz⟩

/-- v reads as the list l. -/
def Rds {α : Type} (d : Rk α) (w : World) (v : Value) (l : List α) : Prop := (Rk.slice d).K w l [v]
theorem Rds.keep {α : Type} {d : Rk α} {w w' : World} {v : Value} {l : List α} (h : Rds d w v l) (hk : Kept [] w w') : Rds d w' v l := (Rk.slice d).keep hk h
theorem Rds.form {α : Type} {d : Rk α} {w : World} {v : Value} {l : List α} (h : Rds d w v l) : ∃ A c, v = .slice A l.length c ∧ l.length ≤ 9223372036854775807 := by
  obtain ⟨A, c, he, h1, h2, _, hE⟩ := h
  simp only [List.cons.injEq, and_true] at he
  exact ⟨A, c, he, by unfold maxLen at h2; omega⟩
theorem Rds.at {α : Type} {d : Rk α} {w : World} {v : Value} {l : List α} (h : Rds d w v l) {k : Nat} (hk : k < l.length) :
    ∃ b off c x cs, v = .slice (some ⟨b, off, none⟩) l.length c ∧ l[k]? = some x ∧ d.K w x cs ∧ ∀ j, j < d.sz → w.cell? ⟨b, off + k * d.sz + j, none⟩ = cs[j]? := by
  obtain ⟨A, c, he, h1, h2, _, hE⟩ := h
  simp only [List.cons.injEq, and_true] at he
  subst he
  obtain ⟨b, off, rfl, hx⟩ := hE (by rintro rfl; simp at hk)
  obtain ⟨cs, hK, hc⟩ := hx k _ (List.getElem?_eq_getElem hk)
  exact ⟨b, off, c, _, cs, rfl, List.getElem?_eq_getElem hk, hK, hc⟩
/-- Where the first such one stands. -/
def firstIn {α : Type} (p : α → Bool) : Nat → List α → Int
  | _, [] => -1
  | k, x :: xs => if p x then k else firstIn p (k + 1) xs
theorem drop_at {α : Type} {l : List α} {k : Nat} {x : α} (hx : l[k]? = some x) : l.drop k = x :: l.drop (k + 1) := by
  obtain ⟨h1, h2⟩ := List.getElem?_eq_some_iff.1 hx
  rw [List.drop_eq_getElem_cons h1, h2]
/-- The value of a name. -/
def namedV (s : ByteArray) (x : AttrD) : Bool := x.1.toList == s.toList
def getV (s : ByteArray) : List AttrD → ValD × Bool
  | [] => ((0, 0, ByteArray.empty), false)
  | x :: xs => if namedV s x then (x.2, true) else getV s xs
theorem firstIn_get (s : ByteArray) : ∀ (l : List AttrD) (k : Nat), (firstIn (namedV s) k l = -1 ∧ getV s l = ((0, 0, ByteArray.empty), false)) ∨ ∃ j x, firstIn (namedV s) k l = ((k + j : Nat) : Int) ∧ l[j]? = some x ∧ getV s l = (x.2, true)
  | [], k => .inl ⟨rfl, rfl⟩
  | x :: xs, k => by
    rw [firstIn, getV]
    cases h : namedV s x with
    | true => exact .inr ⟨0, x, by simp, rfl, by simp⟩
    | false =>
      rcases firstIn_get s xs (k + 1) with ⟨h1, h2⟩ | ⟨j, y, h1, h2, h3⟩
      · exact .inl ⟨by simpa using h1, by simpa using h2⟩
      · exact .inr ⟨j + 1, y, by simp [h1]; omega, by simpa using h2, by simpa using h3⟩

set_option maxRecDepth 100000 in
set_option maxHeartbeats 4000000 in
theorem index_attrs (gf : Nat) (cs : Array Value) (p : AttrD → Bool) (v : Value) (l : List AttrD) (w : World) (hx : Rds attrR w v l) (eg : ∀ args w, (callFunc gf args).run Tryd.prog w = .ok (.enter gf args) w)
    (hp : ∀ (W : World) (x : AttrD), x ∈ l → Kept [] w W → Calls Tryd.prog gf (#[.agg (attrC x).toArray] ++ cs) W fun e w' => e = .returned (.bool (p x)) ∧ Kept [] W w') :
    Calls Tryd.prog 42 #[v, .func (.func gf) #[] cs] w fun e w' => e = .returned (.int .i64 (firstIn p 0 l)) ∧ Kept [] w w' := by
  have HX := Lib.hid hx
  have HPP := Lib.hid hp
  obtain ⟨A, c, rfl, hmx⟩ := hx.form
  obtain ⟨n, hn⟩ : ∃ n, l.length = n := ⟨_, rfl⟩
  obtain ⟨G, hG⟩ : ∃ G, firstIn p 0 l = G := ⟨_, rfl⟩
  rw [hG]
  rw [hn] at hmx HX ⊢
  have HN := Lib.hid hn
  have HG := Lib.hid hG
  clear hn hx hG hp
  go_enter Tryd.func42, Tryd.ntmps42
  go_wp2_with fail
  go_loopw [8] (fun i wr => ∃ (k : Nat), k ≤ n ∧ i = .int .i64 k ∧ firstIn p k (l.drop k) = G ∧ Kept [] w wr) (fun i _ => n - (intOf i).toNat)
  case atStart => exact ⟨0, by omega, rfl, HG.out, Kept.refl _ _⟩
  case round =>
    obtain ⟨k, hk, rfl, hg, hK⟩ := hrel
    have HGO := Lib.hid hg
    clear hg
    by_cases hlt : k < n
    · obtain ⟨b, off, c', x, cs', he, hx, hE, hc⟩ := (Rds.keep HX.out hK).at (k := k) (by rw [HN.out]; exact hlt)
      injection he with he1 he2 he3
      subst he1 he3
      obtain ⟨rfl, _, _⟩ := attrR_cells hE
      clear hE
      obtain ⟨y0, y1, y2, y3⟩ := x
      have e0 := hc 0 (by decide)
      have e1 := hc 1 (by decide)
      have e2 := hc 2 (by decide)
      have e3 := hc 3 (by decide)
      simp [attrC, show attrR.sz = 4 from rfl] at e0 e1 e2 e3
      have HD := Lib.hid (drop_at hx)
      have HM := Lib.hid (List.mem_of_getElem? hx)
      have HK := Lib.hid hK
      clear hx he2 hc hK
      go_wp2_with fail
      refine (HPP.out wr _ HM.out HK.out).mono ?_
      rintro e w' ⟨rfl, hk1⟩
      have hKK := HK.out.trans hk1
      cases hpx : p (y0, y1, y2, y3) with
      | true =>
        have HPX := Lib.hid hpx
        clear hpx
        go_wp2_with fail
        go_ret
        refine ⟨ret_int ?_, hKK⟩
        rw [← HGO.out, HD.out, firstIn, if_pos HPX.out]
      | false =>
        have HPX := Lib.hid hpx
        clear hpx
        go_wp2_with fail
        go_roundw
        case rel =>
          refine ⟨k + 1, by omega, by go_num, ?_, hKK⟩
          rw [← HGO.out, HD.out, firstIn, HPX.out]
          rfl
        case measure => simp [intOf]; omega
    · go_wp2_with fail
      go_ret
      refine ⟨ret_int ?_, hK⟩
      have := HGO.out
      rwa [List.drop_eq_nil_of_le (by rw [HN.out]; omega), firstIn] at this

set_option maxRecDepth 100000 in
set_option maxHeartbeats 1000000 in
theorem named_any (s : ByteArray) (B : Nat) (x : AttrD) (w : World) (hB : w.cell? ⟨B, 0, none⟩ = some (.string s)) :
    Calls Tryd.prog 43 #[.agg (attrC x).toArray, .pointer (some ⟨B, 0, none⟩)] w fun e w' => e = .returned (.bool (namedV s x)) ∧ Kept [] w w' := by
  obtain ⟨y0, y1, y2, y3⟩ := x
  show Calls Tryd.prog 43 #[.agg #[.string y0, .int .i64 y1, .int .i64 y2, .string y3], .pointer (some ⟨B, 0, none⟩)] w fun e w' => e = .returned (.bool (y0.toList == s.toList)) ∧ Kept [] w w'
  have hk := (Kept.refl [] w).alloc (.cells #[.string y0, .int .i64 y1, .int .i64 y2, .string y3] 36)
  have hb := hk.cell (by simp) hB
  have HK := Lib.hid hk
  have hc := (Blk.new w #[.string y0, .int .i64 y1, .int .i64 y2, .string y3] 36).cell 0
  simp at hc
  clear hk
  go_enter Tryd.func43, Tryd.ntmps43
  go_wp2_with fail
  first
    | (go_ret
       exact ⟨rfl, HK.out⟩)
    | (go_quiet (fail)
       go_wp2_with fail
       go_ret
       exact ⟨rfl, HK.out.drewN _⟩)

def valA (v : ValD) : Value := .agg #[.int .i64 v.1, .int .i64 v.2.1, .string v.2.2]
set_option maxRecDepth 100000 in
set_option maxHeartbeats 2000000 in
theorem get_any (v : Value) (l : List AttrD) (s : ByteArray) (w : World) (hx : Rds attrR w v l) :
    Calls Tryd.prog 20 #[v, .string s] w fun e w' => e = .returned (.tuple #[valA (getV s l).1, .bool (getV s l).2]) ∧ Kept [] w w' := by
  have HX := Lib.hid hx
  obtain ⟨A, c, rfl, hmx⟩ := hx.form
  have hk0 := (Kept.refl [] w).alloc (.cells #[.string s] 9)
  have hk0 := hk0.alloc (.cells #[.int .i64 0, .int .i64 0, .string ByteArray.empty] 23)
  have IX : Hid (∀ W, Kept [] w W → W.cell? ⟨w.heap.size, 0, none⟩ = some (.string s) → Calls Tryd.prog 42 #[.slice A l.length c, .func (.func 43) #[] #[.pointer (some ⟨w.heap.size, 0, none⟩)]] W fun e w' => e = .returned (.int .i64 (firstIn (namedV s) 0 l)) ∧ Kept [] W w') := fun W hk hc =>
    index_attrs 43 #[.pointer (some ⟨w.heap.size, 0, none⟩)] (namedV s) (.slice A l.length c) l W (HX.out.keep hk) (fun _ _ => rfl) (fun W2 x _ hk2 => named_any s w.heap.size x W2 (hk2.cell (by simp) hc))
  have HF := Lib.hid (firstIn_get s l 0)
  obtain ⟨G, hG⟩ : ∃ G, getV s l = G := ⟨_, rfl⟩
  rw [hG] at HF ⊢
  obtain ⟨fi, hfi⟩ : ∃ fi, firstIn (namedV s) 0 l = fi := ⟨_, rfl⟩
  rw [hfi] at HF IX
  obtain ⟨n, hn⟩ : ∃ n, l.length = n := ⟨_, rfl⟩
  rw [hn] at hmx IX HX ⊢
  have HN := Lib.hid hn
  have HK0 := Lib.hid hk0
  clear hG hfi hn hx hk0
  go_enter Tryd.func20, Tryd.ntmps20
  go_wp2_with fail
  refine (IX.out _ HK0.out (by simp)).mono ?_
  rintro e w1 ⟨rfl, hk1⟩
  have HK1 := Lib.hid (HK0.out.trans hk1)
  have hz1 := hk1.size
  have HB1 : Hid (Blk w1 (w.heap.size + 1) #[.int .i64 0, .int .i64 0, .string { data := #[] }] 23) := by
    have h := Blk.new (w.alloc (.cells #[.string s] 9)) #[.int .i64 0, .int .i64 0, .string { data := #[] }] 23
    have e : (w.alloc (.cells #[.string s] 9)).heap.size = w.heap.size + 1 := by simp
    rw [e] at h
    exact h.kept hk1 (by simp)
  have HS1 : Hid (w.heap.size + 2 ≤ w1.heap.size) := by show _ ≤ _; simp at hz1; omega
  have c0 := HB1.out.cell 0
  have c1 := HB1.out.cell 1
  have c2 := HB1.out.cell 2
  have f0 := HB1.out.free 0
  have f1 := HB1.out.free 1
  have f2 := HB1.out.free 2
  simp at c0 c1 c2
  clear hk1 hz1
  rcases HF.out with ⟨e1, e2⟩ | ⟨j, x, e1, hx, e2⟩
  · subst e1
    have HE := Lib.hid e2
    clear e2
    go_wp2_with fail
    refine bodyPost_ret (v := .tuple #[.agg #[.int .i64 0, .int .i64 0, .string { data := #[] }], .bool false]) ?_ rfl ⟨?_, ?_⟩
    · simp [results, Tryd.results20, go_sem, *]
    · rw [HE.out]; rfl
    · exact ((HK1.out.setCell (.inr (Nat.le_succ _)) _).setCell (.inr (Nat.le_succ _)) _).setCell (.inr (Nat.le_succ _)) _
  · have HE := Lib.hid e2
    obtain rfl : fi = (j : Int) := by rw [e1]; simp
    have hjn : j < n := by rw [← HN.out]; exact (List.getElem?_eq_some_iff.1 hx).1
    obtain ⟨b, off, c', y, cs', he, hy, hE, hc⟩ := (Rds.keep HX.out HK1.out).at (k := j) (by rw [HN.out]; exact hjn)
    injection he with he1 he2 he3
    subst he1 he3
    obtain ⟨rfl, _, _⟩ := attrR_cells hE
    obtain rfl : y = x := by rw [hx] at hy; injection hy with hy; exact hy.symm
    obtain ⟨y0, y1, y2, y3⟩ := y
    have d1 := hc 1 (by decide)
    have d2 := hc 2 (by decide)
    have d3 := hc 3 (by decide)
    simp [attrC, show attrR.sz = 4 from rfl] at d1 d2 d3
    clear e1 e2 hx hy he2 hE hc
    go_wp2_with fail
    have bF := ((HB1.out.set 0 (.int .i64 y1)).set 1 (.int .i64 y2)).set 2 (.string y3)
    have g0 := bF.cell 0
    have g1 := bF.cell 1
    have g2 := bF.cell 2
    simp at g0 g1 g2
    refine bodyPost_ret (v := .tuple #[.agg #[.int .i64 y1, .int .i64 y2, .string y3], .bool true]) ?_ rfl ⟨?_, ?_⟩
    · simp [results, Tryd.results20, go_sem, g0, g1, g2]
    · rw [HE.out]; rfl
    · exact ((HK1.out.setCell (.inr (Nat.le_succ _)) _).setCell (.inr (Nat.le_succ _)) _).setCell (.inr (Nat.le_succ _)) _

set_option maxRecDepth 100000 in
set_option maxHeartbeats 4000000 in
theorem rget_any (v : Value) (l : List AttrD) (s : ByteArray) (w : World) (hx : Rds attrR w v l) :
    Calls Tryd.prog 21 #[v, .string s] w fun e w' => e = .returned (.tuple #[valA (getV s l).1, .bool (getV s l).2]) ∧ Kept [] w w' := by
  have HX := Lib.hid hx
  obtain ⟨A, c, rfl, hmx⟩ := hx.form
  have HK0 := Lib.hid ((Kept.refl [] w).alloc (.cells #[.int .i64 0, .int .i64 0, .string { data := #[] }] 23))
  have HB0 := Lib.hid (Blk.new w #[.int .i64 0, .int .i64 0, .string { data := #[] }] 23)
  obtain ⟨W0, hW0⟩ : ∃ W0, w.alloc (.cells #[.int .i64 0, .int .i64 0, .string { data := #[] }] 23) = W0 := ⟨_, rfl⟩
  rw [hW0] at HK0 HB0
  have HW0 := Lib.hid hW0
  obtain ⟨G, hG⟩ : ∃ G, getV s l = G := ⟨_, rfl⟩
  have HG := Lib.hid hG
  obtain ⟨n, hn⟩ : ∃ n, l.length = n := ⟨_, rfl⟩
  rw [hG]
  rw [hn] at hmx HX ⊢
  have HN := Lib.hid hn
  clear hG hn hx hW0
  go_enter Tryd.func21, Tryd.ntmps21
  go_wp2_with fail
  go_loopw [6] (fun i wr => ∃ (k : Nat), k ≤ n ∧ i = .int .i64 k ∧ getV s (l.drop k) = G ∧ W0 = wr) (fun i _ => n - (intOf i).toNat)
  case atStart => exact ⟨0, by omega, rfl, HG.out, HW0.out.symm⟩
  case round =>
    obtain ⟨k, hk, rfl, hg, rfl⟩ := hrel
    have HGO := Lib.hid hg
    clear hg
    have c0 := HB0.out.cell 0
    have c1 := HB0.out.cell 1
    have c2 := HB0.out.cell 2
    have f0 := HB0.out.free 0
    have f1 := HB0.out.free 1
    have f2 := HB0.out.free 2
    simp at c0 c1 c2
    by_cases hlt : k < n
    · obtain ⟨b, off, c', x, cs', he, hx, hE, hc⟩ := (Rds.keep HX.out HK0.out).at (k := k) (by rw [HN.out]; exact hlt)
      injection he with he1 he2 he3
      subst he1 he3
      obtain ⟨rfl, _, _⟩ := attrR_cells hE
      clear hE
      obtain ⟨y0, y1, y2, y3⟩ := x
      have e0 := hc 0 (by decide)
      have e1 := hc 1 (by decide)
      have e2 := hc 2 (by decide)
      have e3 := hc 3 (by decide)
      simp [attrC, show attrR.sz = 4 from rfl] at e0 e1 e2 e3
      have HD := Lib.hid (drop_at hx)
      clear hx he2 hc
      cases hq : (y0.toList == s.toList) with
      | true =>
        have HQ := Lib.hid hq
        go_wp2_with fail
        have bF := ((HB0.out.set 0 (.int .i64 y1)).set 1 (.int .i64 y2)).set 2 (.string y3)
        have g0 := bF.cell 0
        have g1 := bF.cell 1
        have g2 := bF.cell 2
        simp at g0 g1 g2
        refine bodyPost_ret (v := .tuple #[.agg #[.int .i64 y1, .int .i64 y2, .string y3], .bool true]) ?_ rfl ⟨?_, ?_⟩
        · simp [results, Tryd.results21, go_sem, g0, g1, g2]
        · rw [← HGO.out, HD.out, getV, namedV, HQ.out]; rfl
        · exact ((HK0.out.setCell (.inr (Nat.le_refl _)) _).setCell (.inr (Nat.le_refl _)) _).setCell (.inr (Nat.le_refl _)) _
      | false =>
        have HQ := Lib.hid hq
        go_wp2_with fail
        go_roundw
        case rel =>
          refine ⟨k + 1, by omega, by go_num, ?_, trivial⟩
          rw [← HGO.out, HD.out, getV, namedV, HQ.out]
          rfl
        case measure => simp [intOf]; omega
    · go_wp2_with fail
      have bF := ((HB0.out.set 0 (.int .i64 0)).set 1 (.int .i64 0)).set 2 (.string { data := #[] })
      have g0 := bF.cell 0
      have g1 := bF.cell 1
      have g2 := bF.cell 2
      simp at g0 g1 g2
      refine bodyPost_ret (v := .tuple #[.agg #[.int .i64 0, .int .i64 0, .string { data := #[] }], .bool false]) ?_ rfl ⟨?_, ?_⟩
      · simp [results, Tryd.results21, go_sem, g0, g1, g2]
      · rw [← HGO.out, List.drop_eq_nil_of_le (by rw [HN.out]; omega), getV]; rfl
      · exact ((HK0.out.setCell (.inr (Nat.le_refl _)) _).setCell (.inr (Nat.le_refl _)) _).setCell (.inr (Nat.le_refl _)) _

end Go.Proofs.YthnfoiaahiopdaaDoor

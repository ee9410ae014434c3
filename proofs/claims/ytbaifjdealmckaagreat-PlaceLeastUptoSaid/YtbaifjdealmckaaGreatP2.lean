/- Whether one of a list is such: conditions, ints. -/
import Derived.Test.YtbaifjdealmckaaGreatRows
import Derived.WalkKit
import Derived.WalkSpells
import Derived.WalkLawsBesides
import Derived.Deep.QuietTactic
import Derived.BigQuiet
import Derived.Lib.Hide
import Derived.BigRegion
import Derived.Shelf.Abstract
import Derived.Lib.ConvBytes
import Derived.StillTailTactics
import Derived.Laws.AppendOwnNone
import Derived.Deep.AppendLies
import Derived.Deep.Slices
import Derived.ProofKit
import Derived.SizedLaws
import Derived.Test.YtbaifjdealmckaaGreatP1
set_option linter.unusedVariables false
set_option linter.unusedSimpArgs false
set_option linter.unnecessarySimpa false
namespace Go.Proofs.YtbaifjdealmckaaGreat
open Go.RowKit Go.Shelf

/-- Where the first such one stands. -/
def firstIn {α : Type} (p : α → Bool) : Nat → List α → Int
  | _, [] => -1
  | k, x :: xs => if p x then k else firstIn p (k + 1) xs
theorem firstIn_any {α : Type} (p : α → Bool) : ∀ (l : List α) (k : Nat), decide (0 ≤ firstIn p k l) = l.any p
  | [], k => by simp [firstIn]
  | x :: xs, k => by
    rw [firstIn, List.any_cons]
    cases h : p x with
    | true => simp
    | false => simp [firstIn_any p xs (k + 1)]
theorem firstIn_bd {α : Type} (p : α → Bool) : ∀ (l : List α) (k : Nat), -1 ≤ firstIn p k l
  | [], k => by simp [firstIn]
  | x :: xs, k => by
    rw [firstIn]
    split
    · omega
    · exact firstIn_bd p xs (k + 1)
theorem drop_at {α : Type} {l : List α} {k : Nat} {x : α} (hx : l[k]? = some x) : l.drop k = x :: l.drop (k + 1) := by
  obtain ⟨h1, h2⟩ := List.getElem?_eq_some_iff.1 hx
  rw [List.drop_eq_getElem_cons h1, h2]

set_option maxRecDepth 100000 in
set_option maxHeartbeats 4000000 in
theorem index_ints (gf : Nat) (cs : Array Value) (p : Int → Bool) (v : Value) (l : List Int) (w : World) (hx : Rds (Rk.int .i64) w v l) (eg : ∀ args w, (callFunc gf args).run Tryz.prog w = .ok (.enter gf args) w)
    (hp : ∀ (W : World) (x : Int), x ∈ l → Kept [] w W → Calls Tryz.prog gf (#[.int .i64 x] ++ cs) W fun e w' => e = .returned (.bool (p x)) ∧ Kept [] W w') :
    Calls Tryz.prog 63 #[v, .func (.func gf) #[] cs] w fun e w' => e = .returned (.int .i64 (firstIn p 0 l)) ∧ Kept [] w w' := by
  have HX := Lib.hid hx
  have HPP := Lib.hid hp
  obtain ⟨A, c, rfl, hmx⟩ := hx.form
  obtain ⟨n, hn⟩ : ∃ n, l.length = n := ⟨_, rfl⟩
  obtain ⟨G, hG⟩ : ∃ G, firstIn p 0 l = G := ⟨_, rfl⟩
  rw [hG]
  rw [hn] at hmx HX ⊢
  have HN := Lib.hid hn
  have HG := Lib.hid hG
  clear hn hx hG hp
  go_enter Tryz.func63, Tryz.ntmps63
  go_wp2_with fail
  go_loopw [8] (fun i wr => ∃ (k : Nat), k ≤ n ∧ i = .int .i64 k ∧ firstIn p k (l.drop k) = G ∧ Kept [] w wr) (fun i _ => n - (intOf i).toNat)
  case atStart => exact ⟨0, by omega, rfl, HG.out, Kept.refl _ _⟩
  case round =>
    obtain ⟨k, hk, rfl, hg, hK⟩ := hrel
    have HGO := Lib.hid hg
    clear hg
    by_cases hlt : k < n
    · obtain ⟨b, off, c', x, cs', he, hx, hE, hc⟩ := (Rds.keep HX.out hK).at (k := k) (by rw [HN.out]; exact hlt)
      injection he with he1 he2 he3
      subst he1 he3
      obtain ⟨rfl, _⟩ := hE
      have e0 := hc 0 (by decide)
      simp [Rk.int] at e0
      have HD := Lib.hid (drop_at hx)
      have HM := Lib.hid (List.mem_of_getElem? hx)
      have HK := Lib.hid hK
      clear hx he2 hc hK
      go_wp2_with fail
      refine (HPP.out wr x HM.out HK.out).mono ?_
      rintro e w' ⟨rfl, hk1⟩
      have hKK := HK.out.trans hk1
      cases hpx : p x with
      | true =>
        have HPX := Lib.hid hpx
        clear hpx
        go_wp2_with fail
        go_ret
        refine ⟨ret_int ?_, hKK⟩
        rw [← HGO.out, HD.out, firstIn, if_pos HPX.out]
      | false =>
        have HPX := Lib.hid hpx
        clear hpx
        go_wp2_with fail
        go_roundw
        case rel =>
          refine ⟨k + 1, by omega, by go_num, ?_, hKK⟩
          rw [← HGO.out, HD.out, firstIn, HPX.out]
          rfl
        case measure => simp [intOf]; omega
    · go_wp2_with fail
      go_ret
      refine ⟨ret_int ?_, hK⟩
      have := HGO.out
      rwa [List.drop_eq_nil_of_le (by rw [HN.out]; omega), firstIn] at this

theorem contains_ints (gf : Nat) (cs : Array Value) (p : Int → Bool) (v : Value) (l : List Int) (w : World) (hx : Rds (Rk.int .i64) w v l) (eg : ∀ args w, (callFunc gf args).run Tryz.prog w = .ok (.enter gf args) w)
    (hp : ∀ (W : World) (x : Int), x ∈ l → Kept [] w W → Calls Tryz.prog gf (#[.int .i64 x] ++ cs) W fun e w' => e = .returned (.bool (p x)) ∧ Kept [] W w') :
    Calls Tryz.prog 38 #[v, .func (.func gf) #[] cs] w fun e w' => e = .returned (.bool (l.any p)) ∧ Kept [] w w' := by
  have IX := Lib.hid (index_ints gf cs p v l w hx eg hp)
  rw [← firstIn_any p l 0]
  have hb := firstIn_bd p l 0
  obtain ⟨G, hG⟩ : ∃ G, firstIn p 0 l = G := ⟨_, rfl⟩
  rw [hG] at IX hb ⊢
  clear hG hx hp
  go_enter Tryz.func38, Tryz.ntmps38
  go_wp2_with fail
  refine IX.out.mono ?_
  rintro e w' ⟨rfl, hk⟩
  go_wp2_with fail
  go_ret
  exact ⟨rfl, hk⟩

set_option maxRecDepth 100000 in
set_option maxHeartbeats 4000000 in
theorem index_conds (gf : Nat) (cs : Array Value) (p : CondD → Bool) (v : Value) (l : List CondD) (w : World) (hx : Rds condR w v l) (eg : ∀ args w, (callFunc gf args).run Tryz.prog w = .ok (.enter gf args) w)
    (hp : ∀ (W : World) (x : CondD), x ∈ l → Kept [] w W → Calls Tryz.prog gf (#[.agg (condCells x).toArray] ++ cs) W fun e w' => e = .returned (.bool (p x)) ∧ Kept [] W w') :
    Calls Tryz.prog 115 #[v, .func (.func gf) #[] cs] w fun e w' => e = .returned (.int .i64 (firstIn p 0 l)) ∧ Kept [] w w' := by
  have HX := Lib.hid hx
  have HPP := Lib.hid hp
  obtain ⟨A, c, rfl, hmx⟩ := hx.form
  obtain ⟨n, hn⟩ : ∃ n, l.length = n := ⟨_, rfl⟩
  obtain ⟨G, hG⟩ : ∃ G, firstIn p 0 l = G := ⟨_, rfl⟩
  rw [hG]
  rw [hn] at hmx HX ⊢
  have HN := Lib.hid hn
  have HG := Lib.hid hG
  clear hn hx hG hp
  go_enter Tryz.func115, Tryz.ntmps115
  go_wp2_with fail
  go_loopw [8] (fun i wr => ∃ (k : Nat), k ≤ n ∧ i = .int .i64 k ∧ firstIn p k (l.drop k) = G ∧ Kept [] w wr) (fun i _ => n - (intOf i).toNat)
  case atStart => exact ⟨0, by omega, rfl, HG.out, Kept.refl _ _⟩
  case round =>
    obtain ⟨k, hk, rfl, hg, hK⟩ := hrel
    have HGO := Lib.hid hg
    clear hg
    by_cases hlt : k < n
    · obtain ⟨b, off, c', x, cs', he, hx, hE, hc⟩ := (Rds.keep HX.out hK).at (k := k) (by rw [HN.out]; exact hlt)
      injection he with he1 he2 he3
      subst he1 he3
      obtain rfl := condR_cells hE
      clear hE
      obtain ⟨⟨y0, y1, y2, y3, y4⟩, y5, y6, y7, y8, y9, y10⟩ := x
      have e0 := hc 0 (by decide)
      have e1 := hc 1 (by decide)
      have e2 := hc 2 (by decide)
      have e3 := hc 3 (by decide)
      have e4 := hc 4 (by decide)
      have e5 := hc 5 (by decide)
      have e6 := hc 6 (by decide)
      have e7 := hc 7 (by decide)
      have e8 := hc 8 (by decide)
      have e9 := hc 9 (by decide)
      have e10 := hc 10 (by decide)
      simp [condCells, show condR.sz = 11 from rfl] at e0 e1 e2 e3 e4 e5 e6 e7 e8 e9 e10
      have HD := Lib.hid (drop_at hx)
      have HM := Lib.hid (List.mem_of_getElem? hx)
      have HK := Lib.hid hK
      clear hx he2 hc hK
      go_wp2_with fail
      refine (HPP.out wr _ HM.out HK.out).mono ?_
      rintro e w' ⟨rfl, hk1⟩
      have hKK := HK.out.trans hk1
      cases hpx : p ((y0, y1, y2, y3, y4), y5, y6, y7, y8, y9, y10) with
      | true =>
        have HPX := Lib.hid hpx
        clear hpx
        go_wp2_with fail
        go_ret
        refine ⟨ret_int ?_, hKK⟩
        rw [← HGO.out, HD.out, firstIn, if_pos HPX.out]
      | false =>
        have HPX := Lib.hid hpx
        clear hpx
        go_wp2_with fail
        go_roundw
        case rel =>
          refine ⟨k + 1, by omega, by go_num, ?_, hKK⟩
          rw [← HGO.out, HD.out, firstIn, HPX.out]
          rfl
        case measure => simp [intOf]; omega
    · go_wp2_with fail
      go_ret
      refine ⟨ret_int ?_, hK⟩
      have := HGO.out
      rwa [List.drop_eq_nil_of_le (by rw [HN.out]; omega), firstIn] at this

theorem contains_conds (gf : Nat) (cs : Array Value) (p : CondD → Bool) (v : Value) (l : List CondD) (w : World) (hx : Rds condR w v l) (eg : ∀ args w, (callFunc gf args).run Tryz.prog w = .ok (.enter gf args) w)
    (hp : ∀ (W : World) (x : CondD), x ∈ l → Kept [] w W → Calls Tryz.prog gf (#[.agg (condCells x).toArray] ++ cs) W fun e w' => e = .returned (.bool (p x)) ∧ Kept [] W w') :
    Calls Tryz.prog 107 #[v, .func (.func gf) #[] cs] w fun e w' => e = .returned (.bool (l.any p)) ∧ Kept [] w w' := by
  have IX := Lib.hid (index_conds gf cs p v l w hx eg hp)
  rw [← firstIn_any p l 0]
  have hb := firstIn_bd p l 0
  obtain ⟨G, hG⟩ : ∃ G, firstIn p 0 l = G := ⟨_, rfl⟩
  rw [hG] at IX hb ⊢
  clear hG hx hp
  go_enter Tryz.func107, Tryz.ntmps107
  go_wp2_with fail
  refine IX.out.mono ?_
  rintro e w' ⟨rfl, hk⟩
  go_wp2_with fail
  go_ret
  exact ⟨rfl, hk⟩

end Go.Proofs.YtbaifjdealmckaaGreat

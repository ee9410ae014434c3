/- Products that stop at the top. -/
import Derived.Test.YtbaifjdealmckaaGreatRows
import Derived.WalkKit
import Derived.WalkSpells
import Derived.WalkLawsBesides
import Derived.Deep.QuietTactic
import Derived.BigQuiet
import Derived.Lib.Hide
import Derived.BigRegion
import Derived.Shelf.Abstract
import Derived.StillTailTactics
import Derived.Laws.AppendOwnNone
import Derived.Deep.AppendLies
import Derived.Deep.Slices
import Derived.ProofKit
import Derived.SizedLaws
import Derived.Test.YtbaifjdealmckaaGreatC1
set_option linter.unusedVariables false
set_option linter.unusedSimpArgs false
set_option linter.unnecessarySimpa false
namespace Go.Proofs.YtbaifjdealmckaaGreat
open Go.RowKit Go.Shelf

/-- slices.IndexFunc, with a question that only reads its argument. -/
def firstOf (p : Int → Bool) : Nat → List Int → Int
  | _, [] => -1
  | k, x :: xs => if p x then k else firstOf p (k + 1) xs
theorem firstOf_any (p : Int → Bool) : ∀ (l : List Int) (k : Nat), decide (0 ≤ firstOf p k l) = l.any p
  | [], k => by simp [firstOf]
  | x :: xs, k => by
    rw [firstOf, List.any_cons]
    cases h : p x with
    | true => simp
    | false => simp [firstOf_any p xs (k + 1)]
theorem firstOf_bd (p : Int → Bool) : ∀ (l : List Int) (k : Nat), -1 ≤ firstOf p k l
  | [], k => by simp [firstOf]
  | x :: xs, k => by
    rw [firstOf]
    split
    · omega
    · exact firstOf_bd p xs (k + 1)

set_option maxRecDepth 100000 in
set_option maxHeartbeats 2000000 in
theorem index_any (gf : Nat) (fs cs : Array Value) (p : Int → Bool) (v : Value) (l : List Int) (w : World) (hx : RdI w .i64 v l) (eg : ∀ args w, (callFunc gf args).run Tryz.prog w = .ok (.enter gf args) w)
    (hp : ∀ (x : Int), Calls Tryz.prog gf (#[.int .i64 x] ++ cs) w fun e w' => e = .returned (.bool (p x)) ∧ w = w') :
    Calls Tryz.prog 109 #[v, .func (.func gf) #[] cs] w fun e w' => e = .returned (.int .i64 (firstOf p 0 l)) ∧ w = w' := by
  have HX := Lib.hid hx
  have HPP := Lib.hid hp
  obtain ⟨A, c, rfl, hmx, hx⟩ := hx
  unfold maxLen at hmx
  obtain ⟨n, hn⟩ : ∃ n, l.length = n := ⟨_, rfl⟩
  obtain ⟨G, hG⟩ : ∃ G, firstOf p 0 l = G := ⟨_, rfl⟩
  rw [hG]
  rw [hn] at hmx HX ⊢
  have HN := Lib.hid hn
  have HG := Lib.hid hG
  clear hn hx hG hp
  go_enter Tryz.func109, Tryz.ntmps109
  go_wp2_with fail
  go_loopw [8] (fun i wr => ∃ (k : Nat), k ≤ n ∧ i = .int .i64 k ∧ firstOf p k (l.drop k) = G ∧ w = wr) (fun i _ => n - (intOf i).toNat)
  case atStart => exact ⟨0, by omega, rfl, HG.out, rfl⟩
  case round =>
    obtain ⟨k, hk, rfl, hg, rfl⟩ := hrel
    have HGO := Lib.hid hg
    clear hg
    by_cases hlt : k < n
    · obtain ⟨b, off, c', x, he, hx, hc⟩ := RdI.at HX.out (i := k) (by rw [HN.out]; exact hlt)
      injection he with he1 he2 he3
      subst he1 he3
      have HD : Hid (l.drop k = x :: l.drop (k + 1)) := by
        obtain ⟨h1, h2⟩ := List.getElem?_eq_some_iff.1 hx
        show _ = _
        rw [List.drop_eq_getElem_cons h1, h2]
      clear hx he2
      go_wp2_with fail
      refine (HPP.out x).mono ?_
      rintro e w' ⟨rfl, rfl⟩
      cases hpx : p x with
      | true =>
        have HPX := Lib.hid hpx
        clear hpx
        go_wp2_with fail
        go_ret
        refine ⟨ret_int ?_, rfl⟩
        rw [← HGO.out, HD.out, firstOf, if_pos HPX.out]
      | false =>
        have HPX := Lib.hid hpx
        clear hpx
        go_wp2_with fail
        go_roundw
        case rel =>
          refine ⟨k + 1, by omega, by go_num, ?_, trivial⟩
          rw [← HGO.out, HD.out, firstOf, HPX.out]
          rfl
        case measure => simp [intOf]; omega
    · go_wp2_with fail
      go_ret
      refine ⟨ret_int ?_, rfl⟩
      have := HGO.out
      rwa [List.drop_eq_nil_of_le (by rw [HN.out]; omega), firstOf] at this

theorem contains_any (gf : Nat) (fs cs : Array Value) (p : Int → Bool) (v : Value) (l : List Int) (w : World) (hx : RdI w .i64 v l) (eg : ∀ args w, (callFunc gf args).run Tryz.prog w = .ok (.enter gf args) w)
    (hp : ∀ (x : Int), Calls Tryz.prog gf (#[.int .i64 x] ++ cs) w fun e w' => e = .returned (.bool (p x)) ∧ w = w') :
    Calls Tryz.prog 92 #[v, .func (.func gf) #[] cs] w fun e w' => e = .returned (.bool (l.any p)) ∧ w = w' := by
  have IX := Lib.hid (index_any gf fs cs p v l w hx eg hp)
  rw [← firstOf_any p l 0]
  have hb := firstOf_bd p l 0
  obtain ⟨G, hG⟩ : ∃ G, firstOf p 0 l = G := ⟨_, rfl⟩
  rw [hG] at IX hb ⊢
  clear hG hx hp
  go_enter Tryz.func92, Tryz.ntmps92
  go_wp2_with fail
  refine IX.out.mono ?_
  rintro e w' ⟨rfl, rfl⟩
  go_wp2_with fail
  go_ret
  exact ⟨rfl, rfl⟩

theorem mul1_any (x : Int) (w : World) : Calls Tryz.prog 97 #[.int .i64 x] w fun e w' => e = .returned (.bool (decide (x ≤ 0))) ∧ w = w' := by
  go_enter Tryz.func97, Tryz.ntmps97
  go_wp2_with fail
  go_ret
  exact ⟨rfl, rfl⟩
def rateBad (x : Int) : Bool := decide (x < 0) || decide (1048576 < x)
theorem rate1_any (x : Int) (w : World) : Calls Tryz.prog 93 #[.int .i64 x] w fun e w' => e = .returned (.bool (rateBad x)) ∧ w = w' := by
  by_cases h1 : x < 0
  · have e1 : rateBad x = true := by unfold rateBad; simp [h1]
    rw [e1]
    go_enter Tryz.func93, Tryz.ntmps93
    go_wp2_with fail
    go_ret
    exact ⟨rfl, rfl⟩
  · have e1 : rateBad x = decide (1048576 < x) := by unfold rateBad; simp [h1]
    rw [e1]
    go_enter Tryz.func93, Tryz.ntmps93
    go_wp2_with fail
    go_ret
    exact ⟨rfl, rfl⟩

end Go.Proofs.YtbaifjdealmckaaGreat

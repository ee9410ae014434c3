/- The library's stable sort of a row that is the caller's own. -/
import Derived.Test.YthnfoiaahiopdaaDoorB1
import Derived.Test.YthnfoiaahiopdaaDoorB3
set_option linter.unusedVariables false
set_option linter.unusedSimpArgs false
set_option linter.unnecessarySimpa false
namespace Go.Proofs.YthnfoiaahiopdaaDoor
open Go.RowKit Go.Shelf Go.Lib Go.Sort
attribute [local go_sem] Oper.semAt_some

set_option maxRecDepth 100000 in
set_option maxHeartbeats 1000000 in
theorem insertion_none (A : Option Addr) (cap : Nat) (W : World) : Calls Tryd.prog 61 #[.slice A 0 cap, .int .i64 0, .int .i64 0, .func (.func 45) #[] #[]] W fun e w' => e = .returned (.tuple #[]) ∧ W = w' := by
  go_enter Tryd.func61, Tryd.ntmps61
  go_wp2_with fail
  go_loopw [8] (fun ii wr => ii = .int .i64 1 ∧ W = wr) (fun _ _ => 0)
  case atStart => exact ⟨rfl, rfl⟩
  case round =>
    obtain ⟨rfl, rfl⟩ := hrel
    go_wp2_with fail
    go_end0
    exact ⟨rfl, rfl⟩
set_option maxRecDepth 100000 in
set_option maxHeartbeats 1000000 in
theorem stable_none (A : Option Addr) (cap : Nat) (W : World) : Calls Tryd.prog 54 #[.slice A 0 cap, .int .i64 0, .func (.func 45) #[] #[]] W fun e w' => e = .returned (.tuple #[]) ∧ W = w' := by
  go_enter Tryd.func54, Tryd.ntmps54
  go_wp2_with fail
  go_loopw [7, 8] (fun aa bb wr => aa = .int .i64 0 ∧ bb = .int .i64 20 ∧ W = wr) (fun _ _ _ => 0)
  case atStart => exact ⟨rfl, rfl, rfl⟩
  case round =>
    obtain ⟨rfl, rfl, rfl⟩ := hrel
    go_wp2_with fail
    refine (insertion_none A cap W).mono ?_
    rintro e w2 ⟨rfl, rfl⟩
    go_wp2_with fail
    go_loopw [6] (fun ss wr => ss = .int .i64 20 ∧ W = wr) (fun _ _ => 0)
    case atStart => exact ⟨rfl, rfl⟩
    case round =>
      obtain ⟨rfl, rfl⟩ := hrel
      go_wp2_with fail
      go_end0
      exact ⟨rfl, rfl⟩
/-- What comes of the sort of a row of the caller's own. -/
def OwnSort (w1 : World) (base : Nat) (v : Value) (l : List AttrD) (e : Ending) (w' : World) : Prop := e = .returned (.tuple #[]) ∧ (∀ w : World, base = w.heap.size → Kept [] w w1 → Kept [] w w') ∧
  (l.length < 20 → ∀ i x, (sortL l)[i]? = some x → ∃ g c, v = .slice (some ⟨g, 0, none⟩) l.length c ∧ (∀ j, j < 4 → w'.cell? ⟨g, 0 + i * 4 + j, none⟩ = (attrC x)[j]?) ∧ base ≤ g ∧ w'.frozen? ⟨g, i * 4, none⟩ = false)
set_option maxRecDepth 100000 in
set_option maxHeartbeats 1000000 in
theorem sortOwn_any (v : Value) (l : List AttrD) (base : Nat) (w1 : World) (ho : w1.ownsRow base 36 4 v l.length (cellsA l)) (hm : l.length ≤ 140737488355328) :
    Calls Tryd.prog 44 #[v, .func (.func 45) #[] #[]] w1 (OwnSort w1 base v l) := by
  obtain ⟨A, c, rfl⟩ := own_len ho
  obtain ⟨n, hn⟩ : ∃ n, l.length = n := ⟨_, rfl⟩
  by_cases h0 : n = 0
  · have hl : l = [] := List.eq_nil_of_length_eq_zero (hn.trans h0)
    subst hl
    clear hn h0 ho
    go_enter Tryd.func44, Tryd.ntmps44
    go_wp2_with fail
    refine (stable_none A c w1).mono ?_
    rintro e w2 ⟨rfl, rfl⟩
    go_wp2_with fail
    go_end0
    exact ⟨rfl, fun w hw hk => hk, fun _ i x hx => by simp [sortL] at hx⟩
  · rcases ho.2 with ⟨_, hz⟩ | ⟨g, cap, cur, he, hb, hg, _⟩
    · exact absurd (hn.symm.trans hz) h0
    · injection he with he1 he2 he3
      subst he1 he3
      obtain ⟨hH, hblk, hbase⟩ := holds_of_own ho
      have R : RowA w1 g l.toArray := RowA.of hH hblk
      have HST := Lib.hid (stable_any R n c (by rw [List.size_toArray, hn]) l.toArray (by rw [List.size_toArray, hn]) (by omega) w1 (SWK.start hH))
      have HR := Lib.hid R
      have HN := Lib.hid hn
      have HBS := Lib.hid hbase
      have HBL := Lib.hid hblk
      rw [hn]
      clear ho hH R hn hg hbase hblk he2
      go_enter Tryd.func44, Tryd.ntmps44
      go_wp2_with fail
      refine HST.out.mono ?_
      rintro e w2 ⟨rfl, d', hd', hS, hsm⟩
      have HS := Lib.hid hS
      have HSM := Lib.hid hsm
      have HD := Lib.hid hd'
      clear hS hsm hd'
      go_wp2_with fail
      go_end0
      refine ⟨rfl, fun w hw hk => Kept.after hk (kept_swa HS.out HBL.out) (by intro x hx; simp at hx; rw [hx, ← hw]; exact HBS.out), fun h20 i x hx => ?_⟩
      have hd2 := HSM.out (by rw [← HN.out]; exact h20)
      have hli : d'.toList = sortL l := by rw [hd2, ← HN.out]; exact insSort_list l
      have hi : i < d'.size := by rw [← Array.length_toList, hli]; exact (List.getElem?_eq_some_iff.1 hx).1
      have hxi : d'[i]! = x := by rw [get_bang, hli, List.getD_eq_getElem?_getD, hx]; rfl
      obtain ⟨nm, k, nn, s⟩ := x
      obtain ⟨z0, z1, z2, z3, z4, _⟩ := SWK.at4 HS.out HR.out (by rw [HD.out, List.size_toArray, HN.out]) hi hxi
      refine ⟨g, c, by rw [HN.out], fun j hj => ?_, HBS.out, z4⟩
      rw [Nat.zero_add]
      match j, hj with
      | 0, _ => exact z0
      | 1, _ => exact z1
      | 2, _ => exact z2
      | 3, _ => exact z3

end Go.Proofs.YthnfoiaahiopdaaDoor

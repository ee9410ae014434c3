/- A text scanned: the document's. -/
import Derived.Test.YtmkpbffjgpoplaaDoorRows
import Derived.WalkKit
import Derived.WalkSpells
import Derived.WalkLawsBesides
import Derived.Deep.QuietTactic
import Derived.BigQuiet
import Derived.Lib.Hide
import Derived.Lib.ConvBytes
import Derived.Deep.Slices
import Derived.ProofKit
import Derived.SizedLaws
import Derived.Test.YtmkpbffjgpoplaaDoorShelf
import Derived.Laws.BytesArg
import Derived.Laws.BitsLemmas
import Derived.Deep.RegionHeld3
import Derived.Deep.AppendLies
import Derived.Maps.AppendAt
import Derived.Lib.ItoaLen
import Derived.Laws.Runes
import Derived.Laws.Concat
import Derived.Laws.Cover4
import Derived.Lib.SmallJoins
import Derived.Laws.AppendOwnNone
import Derived.Deep.DeepCutAuto
import Derived.Test.YtmkpbffjgpoplaaDoorE10
set_option linter.unusedVariables false
set_option linter.unusedSimpArgs false
set_option linter.unnecessarySimpa false
namespace Go.Proofs.YtmkpbffjgpoplaaDoor
open Go.RowKit Go.Shelf
attribute [local go_sem] Oper.semAt_some

/-- The words, the place and the fault. -/
noncomputable def scanV (s : ByteArray) : List TokD × Nat × Int := if 4096 < s.size then ([], 0, 3) else if (wordsV s 0).2 < s.size then ([], (wordsV s 0).2, 50) else ((wordsV s 0).1, 0, 0)
def ScanPost (w : World) (s : ByteArray) (e : Ending) (w' : World) : Prop := ∃ v, e = .returned (.tuple #[v, .int .i64 (scanV s).2.1, .int .i64 (scanV s).2.2]) ∧ w'.ownsRow w.heap.size 40 6 v (scanV s).1.length (cT (scanV s).1) ∧ Kept [] w w'
theorem ScanPost.of {w w' : World} {s : ByteArray} {L : List TokD} {p : Nat} {er : Int} {v : Value} {x : Int} (h : scanV s = (L, p, er)) (hx : x = p) (ho : w'.ownsRow w.heap.size 40 6 v L.length (cT L)) (hk : Kept [] w w') : ScanPost w s (.returned (.tuple #[v, .int .i64 x, .int .i64 er])) w' := by
  subst hx
  refine ⟨v, ?_, ?_, hk⟩
  · rw [h]
  · rw [h]; exact ho
theorem scanV_long {s : ByteArray} {n : Nat} (hn : s.size = n) (h : 4096 < n) : scanV s = ([], 0, 3) := by unfold scanV; rw [if_pos (by omega)]
theorem scanV_bad {s : ByteArray} {n p : Nat} {L : List TokD} (hn : s.size = n) (h : ¬ 4096 < n) (hw : wordsV s 0 = (L, p)) (hp : p < n) : scanV s = ([], p, 50) := by unfold scanV; rw [if_neg (by omega), hw, if_pos (by simp only; omega)]
theorem scanV_ok {s : ByteArray} {n p : Nat} {L : List TokD} (hn : s.size = n) (h : ¬ 4096 < n) (hw : wordsV s 0 = (L, p)) (hp : ¬ p < n) : scanV s = (L, 0, 0) := by unfold scanV; rw [if_neg (by omega), hw, if_neg (by simp only; omega)]

set_option maxRecDepth 100000 in
set_option maxHeartbeats 2000000 in
theorem rScan_any (s : ByteArray) (hs : s.size ≤ maxLen) (w : World) : Calls Tryd.prog 9 #[.string s] w (ScanPost w s) := by
  obtain ⟨n, hn⟩ : ∃ n, s.size = n := ⟨_, rfl⟩
  have HN := Lib.hid hn
  have hl := len_at s hn
  rw [hn] at hs
  unfold maxLen at hs
  by_cases hlong : 4096 < n
  · have HE := Lib.hid (scanV_long hn hlong)
    clear hn
    go_enter Tryd.func9, Tryd.ntmps9
    go_wp2_with fail
    go_ret3
    exact ScanPost.of HE.out rfl (World.ownsRow_nil _ _ _ _) (Kept.refl _ _)
  · have HWD : Hid (∀ W, Calls Tryd.prog 12 #[.string s] W (WordsPost W s)) := fun W => rWords_any s (by omega) W
    obtain ⟨L, hL⟩ : ∃ L, (wordsV s 0).1 = L := ⟨_, rfl⟩
    obtain ⟨p, hp⟩ : ∃ p, (wordsV s 0).2 = p := ⟨_, rfl⟩
    have HW : Hid (wordsV s 0 = (L, p)) := by show _ = _; rw [← hL, ← hp]
    have HBAD := Lib.hid (fun h => scanV_bad hn hlong HW.out h)
    have HOK := Lib.hid (fun h => scanV_ok hn hlong HW.out h)
    have d0 : decide ((4096 : Int) < (n : Int)) = false := decide_eq_false (by omega)
    clear hn
    go_enter Tryd.func9, Tryd.ntmps9
    go_wp2_with fail
    refine (HWD.out _).mono ?_
    rintro e w1 ⟨v, rfl, hown, hk⟩
    rw [hL] at hown
    rw [hp]
    have HOWN := Lib.hid hown
    have HK := Lib.hid hk
    clear hown hk hL hp
    by_cases hlt : p < n
    · have HE := Lib.hid (HBAD.out hlt)
      go_wp2_with fail
      go_ret3
      exact ScanPost.of HE.out rfl (World.ownsRow_nil _ _ _ _) HK.out
    · have HE := Lib.hid (HOK.out hlt)
      go_wp2_with fail
      go_ret3
      exact ScanPost.of HE.out rfl HOWN.out HK.out

end Go.Proofs.YtmkpbffjgpoplaaDoor

/- Two hexadecimal digits as a number; a text taken out of its quotes. -/
import Derived.Test.YthgenobbpaclhaaDoorRows
import Derived.WalkKit
import Derived.WalkSpells
import Derived.WalkLawsBesides
import Derived.Deep.QuietTactic
import Derived.BigQuiet
import Derived.Lib.Hide
import Derived.Lib.ConvBytes
import Derived.Deep.Slices
import Derived.ProofKit
import Derived.SizedLaws
import Derived.Test.YthgenobbpaclhaaDoorShelf
import Derived.Laws.BytesArg
import Derived.Laws.BitsLemmas
import Derived.Deep.RegionHeld3
import Derived.Deep.AppendLies
import Derived.Maps.AppendAt
import Derived.Test.YthgenobbpaclhaaDoorX2
set_option linter.unusedVariables false
set_option linter.unusedSimpArgs false
set_option linter.unnecessarySimpa false
namespace Go.Proofs.YthgenobbpaclhaaDoor
open Go.RowKit Go.Shelf
attribute [local go_sem] Oper.semAt_some

/-- What the variable of errors holds. -/
def ErrVar (w : World) : Prop := ∃ ev, w.cell? ⟨4, 0, none⟩ = some ev ∧ (ev = .nilIface ∨ ∃ te pe, ev = .iface te pe)
theorem ErrVar.keep {w w' : World} (h : ErrVar w) (hk : Kept [] w w') : ErrVar w' := by
  obtain ⟨ev, hc, he⟩ := h
  exact ⟨ev, hk.cell (by simp) hc, he⟩

def HexPost (w : World) (c1 c2 : Int) (e : Ending) (w' : World) : Prop :=
  ∃ v : Int, 0 ≤ v ∧ v < 256 ∧ Kept [] w w' ∧ ((e = .returned (.tuple #[.int .u64 v, .nilIface])) ∨ ((∃ p, e = .returned (.tuple #[.int .u64 v, .iface 138 p])) ∧ ∀ a, 0 ≤ a → a < 16 → (c1 ≠ hexI a ∨ ∀ b, 0 ≤ b → b < 16 → c2 ≠ hexI b))) ∧
    ∀ a b, 0 ≤ a → a < 16 → 0 ≤ b → b < 16 → c1 = hexI a → c2 = hexI b → v = 16 * a + b

set_option maxRecDepth 100000 in
set_option maxHeartbeats 4000000 in
theorem parse16_any (t : ByteArray) (ht : t.size = 2) (w : World) (hv : ErrVar w) :
    Calls Tryd.prog 95 #[.string t, .int .i64 16, .int .i64 8] w (HexPost w (byt t 0) (byt t 1)) := by
  have HV := Lib.hid hv
  clear hv
  go_enter Tryd.func95, Tryd.ntmps95
  go_wp2_with fail
  refine (parse16_int t ht _).mono ?_
  rintro e w1 ⟨v, h0, h1, hk, he, hx⟩
  have HK := Lib.hid hk
  have HX := Lib.hid hx
  clear hk hx
  rcases he with rfl | ⟨rfl, hb⟩
  · go_wp2_with fail
    go_ret2
    exact ⟨v, h0, h1, HK.out, .inl rfl, HX.out⟩
  · have HB := Lib.hid hb
    clear hb
    go_wp2_with fail
    obtain ⟨ev, hc, hev⟩ := (HV.out.keep HK.out)
    refine (Tryd.strconv_toError_syntax _ t 16 8 ev _ (by omega) hc hev).mono ?_
    rintro e w2 ⟨N, rfl, _, _, hbel⟩
    have HK2 := Lib.hid (HK.out.trans (Kept.of_below hbel))
    clear hbel hc hev
    go_wp2_with fail
    go_ret2
    exact ⟨v, h0, h1, HK2.out, .inr ⟨⟨_, rfl⟩, HB.out⟩, HX.out⟩

theorem byt_extract (s : ByteArray) (a b i : Nat) (h : a + i < b) (hb : b ≤ s.size) : byt (s.extract a b) i = byt s (a + i) := by
  unfold byt
  congr 2
  have e : (s.extract a b).data.toList = (s.data.toList.drop a).take (b - a) := by
    rw [ByteArray.data_extract]
    simp
  rw [e]
  simp only [List.getD]
  rw [List.getElem?_take_of_lt (by omega), List.getElem?_drop]
theorem size_extract (s : ByteArray) (a b : Nat) (h : a ≤ b) (hb : b ≤ s.size) : (s.extract a b).size = b - a := by
  rw [ByteArray.size_extract]; omega

/-- What comes out of a text's quotes. -/
def InnerPost (w : World) (s : ByteArray) (e : Ending) (w' : World) : Prop :=
  ∃ t : ByteArray, e = .returned (.string t) ∧ t.size ≤ s.size ∧ Kept [] w w' ∧ ∀ x : ByteArray, bI s = 34 :: ((bI x).flatMap escI ++ [34]) → t = x
/-- How far a text is taken out of its quotes. -/
def Got (s : ByteArray) (k : Nat) (L : List Int) : Prop := ∀ x : ByteArray, bI s = 34 :: ((bI x).flatMap escI ++ [34]) → ∃ j, L = (bI x).take j ∧ Left (bI s) (bI x) k j
theorem Got.start (s : ByteArray) : Got s 1 [] := fun x h => ⟨0, rfl, Left.start h⟩
theorem take_next {X : List Int} {j : Nat} {c : Int} (h : X[j]? = some c) : X.take (j + 1) = X.take j ++ [c] := by
  obtain ⟨h1, h2⟩ := List.getElem?_eq_some_iff.1 h
  rw [List.take_succ_eq_append_getElem h1, h2]
theorem Got.plain {s : ByteArray} {k n : Nat} {L : List Int} {c : Int} (h : Got s k L) (hn : s.size = n) (hk : k + 1 < n) (hc : byt s k = c) (h92 : c ≠ 92) : Got s (k + 1) (L ++ [c]) := by
  intro x hx
  obtain ⟨j, rfl, hl⟩ := h x hx
  obtain ⟨h1, h2⟩ := hl.plain (by rw [bI_len]; exact hn) hk (by rw [bI_get s k (by omega), hc]) h92
  exact ⟨j + 1, (take_next h1).symm, h2⟩
theorem Got.back {s : ByteArray} {k n : Nat} {L : List Int} {c : Int} (h : Got s k L) (hn : s.size = n) (hk : k + 1 < n) (h92 : byt s k = 92) (hc : byt s (k + 1) = c) (hx : c ≠ 120 ∨ n ≤ k + 3) : Got s (k + 2) (L ++ [c]) := by
  intro x he
  obtain ⟨j, rfl, hl⟩ := h x he
  obtain ⟨h1, h2⟩ := hl.back (bI_byte x) (by rw [bI_len]; exact hn) hk (by rw [bI_get s k (by omega), h92]) (by rw [bI_get s (k + 1) (by omega), hc]) hx
  exact ⟨j + 1, (take_next h1).symm, h2⟩
theorem Got.hex {s : ByteArray} {k n : Nat} {L : List Int} {c1 c2 v : Int} (h : Got s k L) (hn : s.size = n) (hk : k + 3 < n) (h92 : byt s k = 92) (hx : byt s (k + 1) = 120) (h2 : byt s (k + 2) = c1) (h3 : byt s (k + 3) = c2)
    (hv : ∀ a b, 0 ≤ a → a < 16 → 0 ≤ b → b < 16 → c1 = hexI a → c2 = hexI b → v = 16 * a + b) : Got s (k + 4) (L ++ [v]) := by
  intro x he
  obtain ⟨j, rfl, hl⟩ := h x he
  obtain ⟨a, b, a0, a1, b0, b1, e1, e2, e3, e4⟩ := hl.hex (bI_byte x) (by rw [bI_len]; exact hn) (by omega) (by rw [bI_get s k (by omega), h92]) (by rw [bI_get s (k + 1) (by omega), hx]) hk (by rw [bI_get s (k + 2) (by omega), h2]) (by rw [bI_get s (k + 3) (by omega), h3])
  rw [hv a b a0 a1 b0 b1 e1 e2]
  exact ⟨j + 1, (take_next e3).symm, e4⟩
theorem Got.bad {s : ByteArray} {k n : Nat} {L : List Int} {c1 c2 : Int} (h : Got s k L) (hn : s.size = n) (hk : k + 3 < n) (h92 : byt s k = 92) (hx : byt s (k + 1) = 120) (h2 : byt s (k + 2) = c1) (h3 : byt s (k + 3) = c2)
    (hb : ∀ a, 0 ≤ a → a < 16 → (c1 ≠ hexI a ∨ ∀ b, 0 ≤ b → b < 16 → c2 ≠ hexI b)) : ∀ (t x : ByteArray), bI s = 34 :: ((bI x).flatMap escI ++ [34]) → t = x := by
  intro t x he
  obtain ⟨j, rfl, hl⟩ := h x he
  obtain ⟨a, b, a0, a1, b0, b1, e1, e2, e3, e4⟩ := hl.hex (bI_byte x) (by rw [bI_len]; exact hn) (by omega) (by rw [bI_get s k (by omega), h92]) (by rw [bI_get s (k + 1) (by omega), hx]) hk (by rw [bI_get s (k + 2) (by omega), h2]) (by rw [bI_get s (k + 3) (by omega), h3])
  rcases hb a a0 a1 with h | h
  · exact absurd e1 h
  · exact absurd e2 (h b b0 b1)
theorem Got.done {s : ByteArray} {k n : Nat} {L : List Int} (h : Got s k L) (hn : s.size = n) (hk : n ≤ k + 1) : ∀ x : ByteArray, bI s = 34 :: ((bI x).flatMap escI ++ [34]) → strOfNums L = x := by
  intro x he
  obtain ⟨j, rfl, hl⟩ := h x he
  have := hl.done (bI_byte x) (by rw [bI_len]; exact hn) hk
  rw [List.take_of_length_le this, nums_bI]

end Go.Proofs.YthgenobbpaclhaaDoor

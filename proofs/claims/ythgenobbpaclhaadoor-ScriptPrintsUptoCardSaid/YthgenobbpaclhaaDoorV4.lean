/- A text in quotes. -/
import Derived.Laws.BytesArg
import Derived.Laws.BitsLemmas
import Derived.Deep.RegionHeld3
import Derived.Deep.AppendLies
import Derived.Maps.AppendAt
import Derived.Test.YthgenobbpaclhaaDoorRows
import Derived.WalkKit
import Derived.WalkSpells
import Derived.WalkLawsBesides
import Derived.Deep.QuietTactic
import Derived.BigQuiet
import Derived.Lib.Hide
import Derived.Lib.ConvBytes
import Derived.Deep.Slices
import Derived.ProofKit
import Derived.SizedLaws
import Derived.Test.YthgenobbpaclhaaDoorShelf
import Derived.Test.YthgenobbpaclhaaDoorBase
import Derived.Test.YthgenobbpaclhaaDoorN5
set_option linter.unusedVariables false
set_option linter.unusedSimpArgs false
set_option linter.unnecessarySimpa false
namespace Go.Proofs.YthgenobbpaclhaaDoor
open Go.RowKit Go.Shelf
attribute [local go_sem] Oper.semAt_some

def hexI (d : Int) : Int := if d < 10 then 48 + d else 87 + d
def escI (c : Int) : List Int := if c = 34 ∨ c = 92 then [92, c] else if c < 32 ∨ 126 < c then [92, 120, hexI (c / 16), hexI (c % 16)] else [c]
def escGo (s : ByteArray) : Nat → Nat → List Int
  | 0, _ => []
  | r + 1, k => escI (byt s k) ++ escGo s r (k + 1)
def quoteI (s : ByteArray) : List Int := 34 :: (escGo s s.size 0 ++ [34])
theorem escI_le (c : Int) : (escI c).length ≤ 4 := by
  unfold escI
  split
  · simp
  · split <;> simp
theorem escGo_le (s : ByteArray) : ∀ r k, (escGo s r k).length ≤ 4 * r
  | 0, _ => by simp [escGo]
  | r + 1, k => by
    rw [escGo, List.length_append]
    have := escI_le (byt s k)
    have := escGo_le s r (k + 1)
    omega
theorem escGo_at (s : ByteArray) (n k : Nat) (h : k < n) : escGo s (n - k) k = escI (byt s k) ++ escGo s (n - (k + 1)) (k + 1) := by
  rw [show n - k = (n - (k + 1)) + 1 by omega]; rfl
def cB (L : List Int) : List Value := L.map (Value.int .u8)
theorem cB_app (L M : List Int) : cB (L ++ M) = cB L ++ cB M := by unfold cB; rw [List.map_append]
theorem cB_len (L : List Int) : (cB L).length = L.length := by unfold cB; rw [List.length_map]
theorem own_len {w : World} {base : Nat} {e : TypeId} {size : Nat} {v : Value} {n : Nat} {xs : List Value} (h : w.ownsRow base e size v n xs) : ∃ A c, v = .slice A n c := by
  rcases h.2 with ⟨rfl, rfl⟩ | ⟨g, cap, cur, rfl, _⟩
  · exact ⟨none, 0, rfl⟩
  · exact ⟨_, cap, rfl⟩
theorem rowBase {W : World} {base base' : Nat} {e : TypeId} {size : Nat} {v : Value} {k : Nat} {xs : List Value} (h : W.ownsRow base e size v k xs) (hb : base' ≤ base) : W.ownsRow base' e size v k xs := by
  refine ⟨h.1, ?_⟩
  rcases h.2 with hn | ⟨g, cap, cur, hv, hbg, rest⟩
  · exact .inl hn
  · exact .inr ⟨g, cap, cur, hv, Nat.le_trans hb hbg, rest⟩
/-- A row of bytes of the call's own as a string. -/
theorem own_str {w : World} {base : Nat} {v : Value} {L : List Int} (h : w.ownsRow base 5 1 v L.length (cB L)) : (convert 44 9 v).run Tryd.prog w = .ok (.string (strOfNums L)) w := by
  rcases h.2 with ⟨rfl, h0⟩ | ⟨g, cap, cur, rfl, _⟩
  · obtain rfl : L = [] := by cases L with
      | nil => rfl
      | cons a l => simp at h0
    exact run_convert_bytes_nil w 44 5 (by kernel_rfl) (by kernel_rfl) 0 0 9 (by kernel_rfl)
  · refine run_convert_bytes_arg w 44 5 (by kernel_rfl) (by kernel_rfl) g 0 L.length cap L rfl (fun i hi => ?_) 9 (by kernel_rfl)
    have hc := h.cells (g := g) rfl i (.int .u8 (L.getD i 0)) (by simp [cB, List.getElem?_eq_getElem hi, List.getD_eq_getElem?_getD])
    have ha : (⟨g, 0, none⟩ : Addr).add i = ⟨g, 0 + i, none⟩ := by unfold Addr.add; split <;> simp_all
    rwa [ha] at hc
/-- A row just laid. -/
theorem own_new (W : World) (base : Nat) (e : TypeId) (cs : List Value) (hb : base ≤ W.heap.size) (hm : cs.length ≤ maxLen) (h0 : 0 < cs.length) :
    (W.alloc (.cells cs.toArray e)).ownsRow base e 1 (.slice (some ⟨W.heap.size, 0, none⟩) cs.length cs.length) cs.length cs := by
  have h := World.ownsRow_lit (base := base) (e := e) (size := 1) W cs.toArray cs.length hb hm (by simp)
  simpa using h
theorem infoU8 : (Tryd.prog.info? 5).map (fun i => (i.zero, i.size, i.bytes)) = some (some (.int .u8 0), 1, 1) := by kernel_rfl
theorem cell_four_new (w : World) (x y z t : Value) (T : TypeId) : ∀ j u, [x, y, z, t][j]? = some u → (w.alloc (.cells #[x, y, z, t] T)).cell? ((⟨w.heap.size, 0, none⟩ : Addr).add j) = some u := by
  intro j u hj
  have ha : (⟨w.heap.size, 0, none⟩ : Addr).add j = ⟨w.heap.size, j, none⟩ := by unfold Addr.add; split <;> simp_all
  rw [ha, (Blk.new w _ _).cell]
  simpa using hj
theorem cell_two_new (w : World) (x y : Value) (t : TypeId) : ∀ j u, [x, y][j]? = some u → (w.alloc (.cells #[x, y] t)).cell? ((⟨w.heap.size, 0, none⟩ : Addr).add j) = some u := by
  intro j u hj
  have ha : (⟨w.heap.size, 0, none⟩ : Addr).add j = ⟨w.heap.size, j, none⟩ := by unfold Addr.add; split <;> simp_all
  rw [ha, (Blk.new w _ _).cell]
  simpa using hj
def HEXS : ByteArray := { data := #[48, 49, 50, 51, 52, 53, 54, 55, 56, 57, 97, 98, 99, 100, 101, 102] }
theorem hex_at (d : Int) (h0 : 0 ≤ d) (h1 : d < 16) (w : World) : (Instr.index 9 (.string { data := #[48, 49, 50, 51, 52, 53, 54, 55, 56, 57, 97, 98, 99, 100, 101, 102] }) (.int .u8 d)).run Tryd.prog w = .ok (.int .u8 (hexI d)) w := by
  have hs : ({ data := #[48, 49, 50, 51, 52, 53, 54, 55, 56, 57, 97, 98, 99, 100, 101, 102] } : ByteArray).size = 16 := rfl
  rw [run_index_string w 9 _ .u8 d (by kernel_rfl), dif_pos ⟨h0, by rw [hs]; omega⟩]
  have hd : d = 0 ∨ d = 1 ∨ d = 2 ∨ d = 3 ∨ d = 4 ∨ d = 5 ∨ d = 6 ∨ d = 7 ∨ d = 8 ∨ d = 9 ∨ d = 10 ∨ d = 11 ∨ d = 12 ∨ d = 13 ∨ d = 14 ∨ d = 15 := by omega
  rcases hd with rfl | rfl | rfl | rfl | rfl | rfl | rfl | rfl | rfl | rfl | rfl | rfl | rfl | rfl | rfl | rfl <;> rfl

end Go.Proofs.YthgenobbpaclhaaDoor

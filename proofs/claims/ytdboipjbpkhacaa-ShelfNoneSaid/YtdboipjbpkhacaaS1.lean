/- Shelves of texts in memory. -/
import Derived.Test.YtdboipjbpkhacaaRd
import Derived.BigRegion
import Derived.Deep.RegionLaw
import Derived.Deep.RegionWith
import Derived.Deep.DeepMust
set_option linter.unusedVariables false
set_option linter.unusedSimpArgs false
set_option linter.unnecessarySimpa false
namespace Go.Proofs.Ytdboipjbpkhacaa
open Go.RowKit

/-- A thing: where it begins, where it ends, its text. -/
abbrev Th := Int × Int × ByteArray
def spanV (x : Th) : Value := .agg #[.int .i64 x.1, .int .i64 x.2.1]
def cellsT (xs : List Th) : List Value := xs.flatMap (fun p => [.int .i64 p.1, .int .i64 p.2.1, .string p.2.2])
theorem cellsT_app (xs ys : List Th) : cellsT (xs ++ ys) = cellsT xs ++ cellsT ys := by unfold cellsT; rw [List.flatMap_append]
theorem cellsT_cons (x : Th) (xs : List Th) : cellsT (x :: xs) = .int .i64 x.1 :: .int .i64 x.2.1 :: .string x.2.2 :: cellsT xs := rfl
theorem cellsT_len (xs : List Th) : (cellsT xs).length = xs.length * 3 := by
  induction xs with
  | nil => rfl
  | cons x xs ih => rw [cellsT_cons]; simp only [List.length_cons, ih]; omega
theorem cellsT_get : ∀ (xs : List Th) (i : Nat) (x : Th), xs[i]? = some x → (cellsT xs)[i * 3]? = some (.int .i64 x.1) ∧ (cellsT xs)[i * 3 + 1]? = some (.int .i64 x.2.1) ∧ (cellsT xs)[i * 3 + 2]? = some (.string x.2.2)
  | [], i, x, h => by simp at h
  | y :: ys, 0, x, h => by simp at h; subst h; exact ⟨rfl, rfl, rfl⟩
  | y :: ys, i + 1, x, h => by
    have := cellsT_get ys i x (by simpa using h)
    rw [cellsT_cons, show (i + 1) * 3 = i * 3 + 1 + 1 + 1 by omega, show i * 3 + 1 + 1 + 1 + 1 = (i * 3 + 1) + 1 + 1 + 1 by omega, show i * 3 + 1 + 1 + 1 + 2 = (i * 3 + 2) + 1 + 1 + 1 by omega]
    simpa using this
theorem cellsT_one {xs : List Th} {u : Value} (h : u ∈ cellsT xs) : u.oneCell' = true := by
  unfold cellsT at h
  rw [List.mem_flatMap] at h
  obtain ⟨x, _, hu⟩ := h
  simp at hu
  rcases hu with rfl | rfl | rfl <;> rfl
theorem own_len {w : World} {base : Nat} {e : TypeId} {size : Nat} {v : Value} {n : Nat} {xs : List Value} (h : w.ownsRow base e size v n xs) : ∃ A c, v = .slice A n c := by
  rcases h.2 with ⟨rfl, rfl⟩ | ⟨g, cap, cur, rfl, _⟩
  · exact ⟨none, 0, rfl⟩
  · exact ⟨_, cap, rfl⟩
theorem rowBase {W : World} {base base' : Nat} {e : TypeId} {size : Nat} {v : Value} {k : Nat} {xs : List Value} (h : W.ownsRow base e size v k xs) (hb : base' ≤ base) : W.ownsRow base' e size v k xs := by
  refine ⟨h.1, ?_⟩
  rcases h.2 with hn | ⟨g, cap, cur, hv, hbg, rest⟩
  · exact .inl hn
  · exact .inr ⟨g, cap, cur, hv, Nat.le_trans hb hbg, rest⟩
theorem infoTh : (Try.prog.info? 75).map (fun i => (i.zero.map (fun z => z.cells.size), i.size, i.bytes)) = some (some 3, 3, 32) := by kernel_rfl
theorem thInfo : ∃ i z, Try.prog.info? 75 = some i ∧ i.zero = some z ∧ i.size = 3 ∧ i.bytes = 32 ∧ z.cells.size = 3 := by
  have h := infoTh
  rw [Option.map_eq_some_iff] at h
  obtain ⟨i, hi, h⟩ := h
  simp only [Prod.mk.injEq] at h
  obtain ⟨hz, h1, h2⟩ := h
  rw [Option.map_eq_some_iff] at hz
  obtain ⟨z, hz, hs⟩ := hz
  exact ⟨i, z, hi, hz, h1, h2, hs⟩
theorem cell_three_new (w : World) (x y z : Value) (t : TypeId) : ∀ j u, [x, y, z][j]? = some u → (w.alloc (.cells #[x, y, z] t)).cell? ((⟨w.heap.size, 0, none⟩ : Addr).add j) = some u := by
  intro j u hj
  have ha : (⟨w.heap.size, 0, none⟩ : Addr).add j = ⟨w.heap.size, j, none⟩ := by unfold Addr.add; split <;> simp_all
  rw [ha, (Blk.new w _ _).cell]
  simpa using hj

/-- A shelf at b: F its blocks. -/
def Sh (w : World) (F : List Nat) (b : Nat) (m : Int) (L : List Th) : Prop :=
  0 ≤ m ∧ m ≤ 16384 ∧ L.length ≤ 16384 ∧ ∃ lv, Blk w b #[.int .i64 m, lv] 52 ∧ w.ownsRow 0 75 3 lv L.length (cellsT L) ∧ F = b :: lv.ownBlock.toList ∧ lv.ownBlock ≠ some b
theorem Sh.kept {S : List Nat} {w w' : World} {F : List Nat} {b : Nat} {m : Int} {L : List Th} (h : Sh w F b m L) (hk : Kept S w w') (hs : ∀ z ∈ F, z ∉ S) : Sh w' F b m L := by
  obtain ⟨h0, h1, h2, lv, hb, ho, hF, hn⟩ := h
  refine ⟨h0, h1, h2, lv, hb.kept hk (hs b (by simp [hF])), ownsRow_keep ho hk (fun z hz => hs z (by simp [hF, hz])), hF, hn⟩
theorem Sh.keep {w w' : World} {F : List Nat} {b : Nat} {m : Int} {L : List Th} (h : Sh w F b m L) (hk : Kept [] w w') : Sh w' F b m L := h.kept hk (by simp)
theorem Sh.lt {w : World} {F : List Nat} {b : Nat} {m : Int} {L : List Th} (h : Sh w F b m L) : ∀ z ∈ F, z < w.heap.size := by
  obtain ⟨h0, h1, h2, lv, hb, ho, rfl, hn⟩ := h
  intro z hz
  simp at hz
  rcases hz with rfl | hz
  · exact hb.lt
  · exact (ho.lt z hz).2

set_option maxHeartbeats 1000000 in
theorem new_any (m : Int) (w : World) (h : 1 ≤ m ∧ m ≤ 16384) :
    Calls Try.prog 6 #[.int .i64 m] w fun e w' => e = .returned (.tuple #[.pointer (some ⟨w.heap.size, 0, none⟩), .int .i64 0]) ∧ Sh w' [w.heap.size] w.heap.size m [] ∧ Kept [] w w' := by
  have hS : Sh (w.alloc (.cells #[.int .i64 m, .slice none 0 0] 52)) [w.heap.size] w.heap.size m [] :=
    ⟨by omega, h.2, by simp, .slice none 0 0, Blk.new w _ _, World.ownsRow_nil _ _ _ _, rfl, by simp [Value.ownBlock]⟩
  have HS := Lib.hid hS
  clear hS
  obtain ⟨h1, h2⟩ := h
  go_enter Try.func6, Try.ntmps6
  go_wp2_with fail
  go_ret2
  exact ⟨rfl, HS.out, (Kept.refl [] w).alloc _⟩
theorem new_bad (m : Int) (w : World) (h : ¬ (1 ≤ m ∧ m ≤ 16384)) :
    Calls Try.prog 6 #[.int .i64 m] w fun e w' => e = .returned (.tuple #[.pointer none, .int .i64 1]) ∧ w = w' := by
  by_cases h1 : m < 1
  · go_enter Try.func6, Try.ntmps6
    go_wp2_with fail
    go_ret2
    exact ⟨rfl, rfl⟩
  · have h2 : 16384 < m := by omega
    go_enter Try.func6, Try.ntmps6
    go_wp2_with fail
    go_ret2
    exact ⟨rfl, rfl⟩

end Go.Proofs.Ytdboipjbpkhacaa

/- The whole sort: what stands in the row. -/
import Derived.Test.YthnfoiaahiopdaaDoorA7
import Derived.Test.YthnfoiaahiopdaaDoorSort
set_option linter.unusedVariables false
set_option linter.unusedSimpArgs false
set_option linter.unnecessarySimpa false
namespace Go.Proofs.YthnfoiaahiopdaaDoor
open Go.RowKit Go.Shelf Go.Lib Go.Sort
attribute [local go_sem] Oper.semAt_some

theorem insInner_size (lt : AttrD → AttrD → Bool) (a : Nat) : ∀ (j : Nat) (d : Array AttrD), (insInner lt a j d).size = d.size
  | 0, d => rfl
  | j + 1, d => by
    rw [insInner]
    split
    · rw [insInner_size lt a j, size_swp]
    · rfl
theorem insOuter_size (lt : AttrD → AttrD → Bool) (a b : Nat) : ∀ (f i : Nat) (d : Array AttrD), b - i ≤ f → (insOuter lt a b i d).size = d.size
  | 0, i, d, h => by rw [insOuter, if_neg (by omega)]
  | f + 1, i, d, h => by
    rw [insOuter]
    split
    · rw [insOuter_size lt a b f (i + 1) _ (by omega), insInner_size]
    · rfl
theorem insSort_size (d : Array AttrD) (a b : Nat) : (Sort.insertionSort (ltOf cfA) d a b).size = d.size := insOuter_size _ a b _ _ d (Nat.le_refl _)
theorem insertion_any {w0 : World} {g : Nat} {d0 : Array AttrD} (R : RowA w0 g d0) (N cap a b : Nat) (hN : d0.size = N) (d : Array AttrD) (hd : d.size = N) (hab : a ≤ b) (hb : b ≤ N) (hsz : N < 4611686018427387904) (W : World) (S : SWA w0 g d W) :
    Calls Tryd.prog 61 #[.slice (some ⟨g, 0, none⟩) N cap, .int .i64 a, .int .i64 b, .func (.func 45) #[] #[]] W fun e w' => e = .returned (.tuple #[]) ∧ SWA w0 g (Sort.insertionSort (ltOf cfA) d a b) w' := by
  have eg : ∀ args w, (callFunc 45 args).run Tryd.prog w = .ok (.enter 45 args) w := enters_of Tryd.func45 (by kernel_rfl) rfl
  have h := AnyQ.insertionSortCmpFunc Tryd.ins 4 Tryd.isAgg36 Tryd.sizeOf36 attrC (fun _ => rfl) R.h1 cfA 45 #[] g 0 cap a b d W eg (cmpLaysA _ _ _ _) (S.holds R.hblk R.hH (by rw [hd, hN])) (S.lt R.hblk) hab (by rw [hd]; exact hb) (by rw [hd]; exact hsz)
  change Calls Tryd.prog 61 _ _ _ at h
  rw [hd] at h
  refine h.mono ?_
  rintro e w' ⟨rfl, n, os, rfl⟩
  exact ⟨rfl, S.on R.hblk n _ os (insSort_size d a b)⟩
theorem symMerge_any {w0 : World} {g : Nat} {d0 : Array AttrD} (R : RowA w0 g d0) (N cap : Nat) (hN : d0.size = N) (hsz : N < 4611686018427387904) : ∀ (s a m b : Nat) (d : Array AttrD) (W : World), b - a ≤ s → a < m → m < b → b ≤ N → d.size = N → SWA w0 g d W →
    Calls Tryd.prog 62 #[.slice (some ⟨g, 0, none⟩) N cap, .int .i64 a, .int .i64 m, .int .i64 b, .func (.func 45) #[] #[]] W (SortPost w0 g N)
  | 0, a, m, b, d, W, hs, h1, h2, _, _, _ => by omega
  | s + 1, a, m, b, d, W, hs, h1, h2, h3, h4, h5 => by
    by_cases c1 : m = a + 1
    · exact symMerge_one R N cap a m b hN d h4 c1 h2 h3 hsz W h5
    · by_cases c2 : b = m + 1
      · exact symMerge_two R N cap a m b hN d h4 (by omega) c2 h3 hsz W h5
      · exact symMerge_gen R N cap a m b hN d h4 (by omega) (by omega) h3 hsz W h5 (fun a' m' b' d' W' g0 g1 g2 g3 g4 g5 => symMerge_any R N cap hN hsz s a' m' b' d' W' (by omega) g1 g2 g3 g4 g5)

end Go.Proofs.YthnfoiaahiopdaaDoor

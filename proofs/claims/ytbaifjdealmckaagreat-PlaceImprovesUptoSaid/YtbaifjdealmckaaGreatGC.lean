/- Texts of c19 put together: M11, M9, M3, R3, EQ, Q1, Q2, Q3, Q4, Q5, Q6, Q7, Q8, Q9, Q10, Q11. -/
import Derived.Test.YtbaifjdealmckaaGreatMM
import Derived.Test.YtbaifjdealmckaaGreatP16
import Derived.BigRegion
import Derived.Test.YtbaifjdealmckaaGreatKq
import Derived.Test.YtbaifjdealmckaaGreatP30
import Derived.Test.YtbaifjdealmckaaGreatP25
import Derived.Test.YtbaifjdealmckaaGreatBK
/- An operator that is moved: the plain law. -/
set_option linter.unusedVariables false
set_option linter.unusedSimpArgs false
set_option linter.unnecessarySimpa false
namespace Go.Proofs.YtbaifjdealmckaaGreat
open Go.RowKit Go.Shelf Tr

def sm : List Int → Int
  | [] => 0
  | x :: l => x + sm l
theorem sm_app : ∀ (a b : List Int), sm (a ++ b) = sm a + sm b
  | [], b => by simp [sm]
  | x :: a, b => by rw [List.cons_append, sm, sm, sm_app a b]; omega
theorem addGo_sm : ∀ (l : List Int) (s : Int), 0 ≤ s → s ≤ 9223372036854775807 → (∀ x ∈ l, 0 ≤ x) → addGo s l ≠ 9223372036854775807 → addGo s l = s + sm l
  | [], s, _, _, _, _ => by simp [addGo, sm]
  | x :: l, s, h0, h1, hx, h => by
    have hx0 := hx x (by simp)
    rw [addGo] at h ⊢
    by_cases hb : 9223372036854775807 - s < max 0 x
    · rw [if_pos hb] at h; exact absurd rfl h
    · rw [if_neg hb] at h ⊢
      rw [addGo_sm l _ (by omega) (by omega) (fun y hy => hx y (by simp [hy])) h, sm]
      omega
theorem addV_sm {l : List Int} (hx : ∀ x ∈ l, 0 ≤ x) (h : addV l ≠ 9223372036854775807) : addV l = sm l := by
  have := addGo_sm l 0 (by omega) (by omega) hx h
  unfold addV at h ⊢
  omega

theorem wayV_nn (P : List Int) (n a b : Int) : 0 ≤ wayV P n a b := (mulV_bd _).1
theorem srcV_nn (P : List Int) (h : Int) : ∀ (a b : List Int), ∀ y ∈ srcV P h a b, 0 ≤ y
  | n :: ns, a :: ys, y, hy => by
    rw [srcV] at hy
    rcases List.mem_cons.1 hy with rfl | hy
    · exact wayV_nn _ _ _ _
    · exact srcV_nn P h ns ys y hy
  | [], _, y, hy => by simp [srcV] at hy
  | _ :: _, [], y, hy => by simp [srcV] at hy
theorem inV_nn (P : List Int) (x : PlanD) (r : RatesD) (O A S : List Int) (k : Nat) (h : Int) : ∀ y ∈ inV P x r O A S k h, 0 ≤ y := by
  intro y hy
  unfold inV at hy
  split at hy
  · exact srcV_nn _ _ _ _ y hy
  · obtain ⟨f, _, rfl⟩ := List.mem_map.1 hy
    exact wayV_nn _ _ _ _

/-- What the inputs of a row that come of k weigh. -/
def tw (k : Nat) (row : List Int) (v : Int) : Int := sm (row.map (fun f => if f = (k : Int) then v else 0))
theorem tw_none {k : Nat} {row : List Int} (h : ∀ f ∈ row, f ≠ (k : Int)) (v : Int) : tw k row v = 0 := by
  unfold tw
  induction row with
  | nil => rfl
  | cons f l ih =>
    rw [List.map_cons, sm, if_neg (h f (by simp)), ih (fun y hy => h y (by simp [hy]))]
    rfl
theorem usesRow_sm (k : Nat) (g : Nat → Int) (i : Nat) : ∀ (l : List Int) (j : Nat), sm ((usesRow i (k : Int) j l).map (fun u => g u.1)) = tw k l (g i)
  | [], j => by simp [usesRow, tw, sm]
  | f :: l, j => by
    have ih := usesRow_sm k g i l (j + 1)
    unfold tw at ih ⊢
    rw [usesRow, List.map_cons, sm]
    by_cases h : f = (k : Int)
    · rw [if_pos h, if_pos h, List.map_cons, sm, ih]
    · rw [if_neg h, if_neg h, ih]; omega
theorem usesGo_sm (k : Nat) (g : Nat → Int) : ∀ (F : List (List Int)) (i : Nat), sm ((usesGo (k : Int) i F).map (fun u => g u.1)) = sm ((List.range F.length).map (fun o => tw k (F.getD o []) (g (i + o))))
  | [], i => by simp [usesGo, sm]
  | row :: F, i => by
    have ih := usesGo_sm k g F (i + 1)
    rw [usesGo, List.map_append, sm_app, usesRow_sm, ih, List.length_cons, List.range_succ_eq_map, List.map_cons, sm, List.map_map]
    have e : (List.map (fun o => tw k (F.getD o []) (g (i + 1 + o))) (List.range F.length)) = List.map ((fun o => tw k ((row :: F).getD o []) (g (i + o))) ∘ Nat.succ) (List.range F.length) := by
      refine List.map_congr_left (fun o _ => ?_)
      simp only [Function.comp_apply, Nat.succ_eq_add_one, List.getD_cons_succ]
      rw [show i + 1 + o = i + (o + 1) by omega]
    rw [e]
    simp
theorem sm_flat (I : Nat → List Int) : ∀ (l : List Nat), sm (l.flatMap I) = sm (l.map (fun o => sm (I o)))
  | [] => rfl
  | o :: l => by rw [List.flatMap_cons, sm_app, List.map_cons, sm, sm_flat I l]
theorem sm_diff {f g p q s : Nat → Int} : ∀ (l : List Nat), (∀ o ∈ l, f o - g o = p o + q o - s o) → sm (l.map f) - sm (l.map g) = sm (l.map p) + sm (l.map q) - sm (l.map s)
  | [], _ => by simp [sm]
  | o :: l, h => by
    have h0 := h o (by simp)
    have ih := sm_diff l (fun y hy => h y (by simp [hy]))
    simp only [List.map_cons, sm]
    omega
theorem sm_pick (k : Nat) (X : Int) : ∀ n : Nat, sm ((List.range n).map (fun o => if o = k then X else 0)) = if k < n then X else 0
  | 0 => by simp [sm]
  | n + 1 => by
    rw [List.range_succ, List.map_append, sm_app, sm_pick k X n]
    simp only [List.map_cons, List.map_nil, sm]
    by_cases h : k < n
    · rw [if_pos h, if_neg (by omega), if_pos (by omega)]; omega
    · by_cases h2 : n = k
      · rw [if_neg h, if_pos h2, if_pos (by omega)]; omega
      · rw [if_neg h, if_neg h2, if_neg (by omega)]; omega

theorem set_get {A : List Int} {k i : Nat} {h : Int} (hk : k < A.length) : (A.set k h).getD i 0 = if i = k then h else A.getD i 0 := by
  unfold List.getD
  rw [List.getElem?_set]
  by_cases e : k = i
  · subst e; simp [hk]
  · rw [if_neg e, if_neg (fun c => e c.symm)]

theorem row_diff (P : List Int) (O A : List Int) (k : Nat) (h a : Int) (hk : k < A.length) : ∀ (row : List Int), (∀ f ∈ row, 0 ≤ f) →
    sm (row.map (fun f => wayV P (O.getD f.toNat 0) ((A.set k h).getD f.toNat 0) a)) - sm (row.map (fun f => wayV P (O.getD f.toNat 0) (A.getD f.toNat 0) a)) =
    tw k row (wayV P (O.getD k 0) h a) - tw k row (wayV P (O.getD k 0) (A.getD k 0) a)
  | [], _ => by simp [tw, sm]
  | f :: l, hf => by
    have ih := row_diff P O A k h a hk l (fun y hy => hf y (by simp [hy]))
    have hf0 := hf f (by simp)
    unfold tw at ih ⊢
    simp only [List.map_cons, sm]
    by_cases e : f = (k : Int)
    · rw [if_pos e, if_pos e, set_get hk, e, Int.toNat_natCast, if_pos rfl]
      omega
    · rw [if_neg e, if_neg e, set_get hk, if_neg (by omega)]
      omega

theorem moves_sm {P : List Int} {x : PlanD} {r : RatesD} {O A S : List Int} {k : Nat} {h : Int} (hC : checkE x r = 0) (hA : A.length = x.1.length) (hk : k < x.1.length) :
    sm (trafL P x r O (A.set k h) S x.1.length) - sm (trafL P x r O A S x.1.length) = sm (partL P x r O A S k h) - sm (partL P x r O A S k (A.getD k 0)) := by
  obtain ⟨hpv, hro⟩ := checkE_zero hC
  obtain ⟨h2, h32, hml, hp⟩ := plan_place hpv
  have hkA : k < A.length := by omega
  unfold trafL partL
  rw [sm_flat, sm_flat, sm_app, sm_app]
  have e1 := usesGo_sm k (fun o => wayV P (O.getD k 0) h (A.getD o 0)) x.2 0
  have e2 := usesGo_sm k (fun o => wayV P (O.getD k 0) (A.getD k 0) (A.getD o 0)) x.2 0
  rw [e1, e2, hml]
  have hd := sm_diff (f := fun o => sm (inV P x r O (A.set k h) S o ((A.set k h).getD o 0))) (g := fun o => sm (inV P x r O A S o (A.getD o 0)))
    (p := fun o => if o = k then sm (inV P x r O A S k h) - sm (inV P x r O A S k (A.getD k 0)) else 0)
    (q := fun o => tw k (x.2.getD o []) (wayV P (O.getD k 0) h (A.getD (0 + o) 0))) (s := fun o => tw k (x.2.getD o []) (wayV P (O.getD k 0) (A.getD k 0) (A.getD (0 + o) 0))) (List.range x.1.length) (fun o ho => ?_)
  · rw [hd, sm_pick, if_pos hk]
    omega
  · have ho := List.mem_range.1 ho
    have hpl := place_is (hp o ho)
    rw [Nat.zero_add]
    show sm (inV P x r O (A.set k h) S o ((A.set k h).getD o 0)) - sm (inV P x r O A S o (A.getD o 0)) = (if o = k then _ else 0) + tw k (rowAt x o) _ - tw k (rowAt x o) _
    rw [set_get hkA]
    by_cases e : o = k
    · subst e
      have hne : ∀ f ∈ rowAt x o, f ≠ (o : Int) := fun f hf => by have := hpl.below f hf; omega
      rw [if_pos rfl, if_pos rfl, tw_none hne, tw_none hne]
      have : inV P x r O (A.set o h) S o h = inV P x r O A S o h := by
        unfold inV
        split
        · rfl
        · rename_i h1
          refine List.map_congr_left (fun f hf => ?_)
          have h3 := hpl.below f hf
          have h4 := hpl.low h1 f hf
          rw [set_get hkA, if_neg (by omega)]
      rw [this]
      omega
    · rw [if_neg e, if_neg e]
      unfold inV
      by_cases h1 : (opAt x o).1 = 1
      · rw [if_pos h1, if_pos h1]
        have hne : ∀ f ∈ rowAt x o, f ≠ (k : Int) := fun f hf => by have := hpl.term h1 f hf; omega
        rw [tw_none hne, tw_none hne]
        omega
      · rw [if_neg h1, if_neg h1]
        have := row_diff P O A k h (A.getD o 0) hkA (rowAt x o) (hpl.low h1)
        omega

end Go.Proofs.YtbaifjdealmckaaGreat

/- slices.Clone, of numbers. -/
set_option linter.unusedVariables false
set_option linter.unusedSimpArgs false
set_option linter.unnecessarySimpa false
namespace Go.Proofs.YtbaifjdealmckaaGreat
open Go.RowKit Tr
attribute [local go_sem] Lib.run_eql_slice_nil

theorem own_emptyi (w : World) (base : Nat) (hb : base ≤ w.heap.size) : (w.alloc (.cells #[] 3)).ownsRow base 3 1 (.slice (some ⟨w.heap.size, 0, none⟩) 0 0) 0 [] := by
  refine ⟨rfl, .inr ⟨w.heap.size, 0, #[], rfl, hb, ?_, Nat.le_refl _, by unfold maxLen; omega, rfl, rfl⟩⟩
  exact Blk.new w _ _

set_option maxRecDepth 100000 in
set_option maxHeartbeats 2000000 in
theorem clonei_any (v : Value) (P : List Int) (w : World) (hx : RdI w .i64 v P) (hbig : P.length * 8 ≤ 140737488351232) : Calls Tryz.prog 9 #[v] w (RisePost w P) := by
  obtain ⟨i0, hi0, hz0, hz1, hz2⟩ := info_parts infoInt
  obtain ⟨A, c, rfl, hmx, hx⟩ := hx
  rcases A with _ | ⟨b, off, m⟩
  · have e : P = [] := by
      cases P with
      | nil => rfl
      | cons x xs => obtain ⟨b, off, h, _⟩ := hx (by simp); cases h
    subst e
    go_enter Tryz.func9, Tryz.ntmps9
    go_wp2_with fail
    go_ret
    exact ⟨_, rfl, World.ownsRow_nil _ _ _ _, Kept.refl _ _⟩
  · have HC : Hid (∀ j u, (P.map (Value.int .i64))[j]? = some u → w.cell? ((⟨b, off, m⟩ : Addr).add j) = some u) := fun j u hu => by
      cases hP : P with
      | nil => rw [hP] at hu; simp at hu
      | cons x xs =>
        obtain ⟨b', off', h, hcc⟩ := hx (by rw [hP]; simp)
        injection h with h
        injection h with h1 h2 h3
        subst h1 h2 h3
        have ha : (⟨b, off, none⟩ : Addr).add j = ⟨b, off + j, none⟩ := by unfold Addr.add; split <;> simp_all
        rw [ha]
        rw [List.getElem?_map, Option.map_eq_some_iff] at hu
        obtain ⟨y, hy, rfl⟩ := hu
        exact hcc j y hy
    clear hx
    obtain ⟨n, hn⟩ : ∃ n, P.length = n := ⟨_, rfl⟩
    rw [hn] at hmx hbig ⊢
    have HN := Lib.hid hn
    clear hn
    go_enter Tryz.func9, Tryz.ntmps9
    go_wp2_with (at_builtin; refine wpList_append_own _ rfl _ _ 22 rfl w.heap.size 3 i0 (.int .i64 0) 1 8 Tryz.underlying22 hi0 hz0 hz1 hz2 rfl (by decide) _ 0 [] rfl (own_emptyi w _ (Nat.le_refl _)) ⟨b, off, m⟩ n c (P.map (.int .i64)) rfl (by rw [List.length_map, HN.out]; omega) (fun j u hu => ((Kept.refl [] w).alloc _).cell (by simp) (HC.out j u hu)) (by intro u hu; obtain ⟨z, _, rfl⟩ := List.mem_map.1 hu; rfl) (by omega) (by omega) (by simp) ?_)
    intro v' w4 hown4 hgrow4 _
    have hK4 : Kept [] w w4 := ((Kept.refl [] w).alloc _).grown hgrow4 (fun x hx => .inr (by simp [Value.ownBlock] at hx; omega))
    have HOWN4 := Lib.hid hown4
    clear hown4 hgrow4
    go_wp2_with fail
    go_ret
    refine ⟨_, rfl, ?_, hK4⟩
    have := HOWN4.out
    rw [HN.out]
    exact this

end Go.Proofs.YtbaifjdealmckaaGreat

/- slices.Repeat at ints. -/
set_option linter.unusedVariables false
set_option linter.unusedSimpArgs false
set_option linter.unnecessarySimpa false
namespace Go.Proofs.YtbaifjdealmckaaGreat
open Go.RowKit Go.Shelf Tr
attribute [local go_sem] Oper.semAt_some

def FullZ (z : Int) (C : Array Value) (m : Nat) : Prop := ∀ i, i < m → C[i]? = some (.int .i64 z)
theorem FullZ.list {z : Int} {C : Array Value} {n : Nat} (h : FullZ z C n) (hs : C.size = n) : C.toList = (List.replicate n z).map (.int .i64) := by
  apply List.ext_getElem?
  intro i
  by_cases hi : i < n
  · rw [Array.getElem?_toList, h i hi]; simp [hi]
  · rw [List.getElem?_eq_none (by simp; omega), List.getElem?_eq_none (by simp; omega)]
def IntsPost8 (w : World) (l : List Int) : Ending → World → Prop := fun e w' => ∃ v, e = .returned v ∧ w'.ownsRow w.heap.size 3 1 v l.length (l.map (.int .i64)) ∧ Kept [] w w'

set_option maxRecDepth 100000 in
set_option maxHeartbeats 2000000 in
theorem repeati_any (z : Int) (b : Nat) (n : Nat) (w : World) (h1 : 1 ≤ n) (hn : n ≤ 32) (hx : w.cell? ⟨b, 0, none⟩ = some (.int .i64 z)) (hb : b < w.heap.size) :
    Calls Tryz.prog 50 #[.slice (some ⟨b, 0, none⟩) 1 1, .int .i64 n] w (IntsPost8 w (List.replicate n z)) := by
  obtain ⟨i0, hi0, hz0, hz1, hz2⟩ := info_parts infoInt
  have HM := Lib.hid (bmul_any n hn)
  have hinfo : (Tryz.prog.info? 3).map (·.size) = some 1 := by rw [hi0]; simp [hz1]
  have e4 : IntKind.u64.wrap (n : Int) = n := by unfold IntKind.wrap; simp [IntKind.signed, IntKind.bits]; omega
  have hmake : ∀ W : World, (Instr.makeSlice 22 (.int .i64 n) (.int .i64 n)).run Tryz.prog W = .ok (.slice (some ⟨W.heap.size, 0, none⟩) n n) (W.alloc (.cells (madeCells #[.int .i64 0] n) 3)) := fun W => by
    have := run_makeSlice W 22 3 i0 (.int .i64 0) Tryz.underlying22 hi0 hz0 .i64 .i64 n n (by omega) (by omega) (by rw [hz1]; omega) (by rw [hz2]; omega) (by omega)
    rw [hz1] at this
    simp at this
    exact this
  have HMK := Lib.hid hmake
  clear hmake
  go_enter Tryz.func50, Tryz.ntmps50
  go_wp2_with fail
  refine (HM.out _).mono ?_
  rintro e w1 ⟨rfl, hk⟩
  have hmake := HMK.out w1
  obtain ⟨g, hg⟩ : ∃ g, w1.heap.size = g := ⟨_, rfl⟩
  obtain ⟨C0, hC0⟩ : ∃ C0, madeCells #[.int .i64 0] n = C0 := ⟨_, rfl⟩
  have hC0s : C0.size = n := by rw [← hC0]; exact size_madeCells _ _
  rw [hC0, hg] at hmake
  obtain ⟨w2, hw2⟩ : ∃ w2, w1.alloc (.cells C0 3) = w2 := ⟨_, rfl⟩
  rw [hw2] at hmake
  have hg2 : w2.heap[g]? = some (.cells C0 3 (0, 0)) := by rw [← hw2, ← hg]; exact Blk.new w1 _ _
  have hgw : w.heap.size ≤ g := by have := hk.size; omega
  have hk2 : Kept [] w w2 := by rw [← hw2]; exact hk.alloc _
  have hx2 := hk2.cell (by simp) hx
  have hcopy : (Builtin.copy_ #[22, 22] 3 #[.slice (some ⟨g, 0, none⟩) n n, .slice (some ⟨b, 0, none⟩) 1 1]).run Tryz.prog w2 = .ok (goInt 1) (w2.setRow g (C0.toList.take 0 ++ [Value.int .i64 z] ++ C0.toList.drop (0 + 1)).toArray) :=
    run_copy_row Tryz.prog w2 22 22 3 3 g 0 n n ⟨b, 0, none⟩ 1 1 C0 3 [Value.int .i64 z] Tryz.underlying22 hinfo hg2 (by simp [Nat.min_def]; omega) (fun j v hj => by
      match j, hj with
      | 0, hj => injection hj with hj; subst hj; exact hx2
      | j + 1, hj => simp at hj) (by simp; omega) (by simp [Value.oneCell'])
  obtain ⟨C1, hC1⟩ : ∃ C1, (C0.toList.take 0 ++ [Value.int .i64 z] ++ C0.toList.drop (0 + 1)).toArray = C1 := ⟨_, rfl⟩
  rw [hC1] at hcopy
  have hC1s : C1.size = n := by rw [← hC1]; simp; omega
  have hC1f : FullZ z C1 1 := by
    intro i hi
    have : i = 0 := by omega
    subst this
    rw [← hC1]
    simp
  have hk3 : Kept [] w (w2.setRow g C1) := hk2.setRow _ (.inr hgw)
  have hg3 : (w2.setRow g C1).heap[g]? = some (.cells C1 3 (0, 0)) := setRow_heap w2 g C0 C1 _ _ hg2
  obtain ⟨w3, hw3⟩ : ∃ w3, w2.setRow g C1 = w3 := ⟨_, rfl⟩
  rw [hw3] at hk3 hg3 hcopy
  clear hw3 hw2 hC0 hC1 hg2 hk2 hx2
  go_wp2_with fail
  go_loopw [8] (fun ii wr => ∃ (m : Nat) (C : Array Value), 1 ≤ m ∧ m ≤ n ∧ ii = .int .i64 m ∧ wr.heap[g]? = some (.cells C 3 (0, 0)) ∧ C.size = n ∧ FullZ z C m ∧ Kept [] w wr) (fun ii _ => n - (intOf ii).toNat)
  case atStart => exact ⟨1, C1, by omega, h1, rfl, hg3, hC1s, hC1f, hk3⟩
  case round =>
    obtain ⟨m, C, hm1, hmn, rfl, hgr, hCs, hCf, hK⟩ := hrel
    have HCF := Lib.hid hCf
    have HK := Lib.hid hK
    have HGR := Lib.hid hgr
    clear hmake hcopy hg3 hC1s hC1f hk3 hCf hK
    by_cases hlt : m < n
    · obtain ⟨c, hc⟩ : ∃ c, Nat.min m (n - m) = c := ⟨_, rfl⟩
      have hc1 : 1 ≤ c ∧ m + c ≤ n := by rw [← hc]; simp only [Nat.min_def]; split <;> omega
      have hcopyW : ∀ W : World, W.heap = wr.heap → (Builtin.copy_ #[22, 22] 3 #[.slice (some ⟨g, m, none⟩) (n - m) (n - m), .slice (some ⟨g, 0, none⟩) m n]).run Tryz.prog W = .ok (goInt c) (W.setRow g (C.toList.take m ++ List.replicate c (Value.int .i64 z) ++ C.toList.drop (m + c)).toArray) := fun W hW => by
        have hgW : W.heap[g]? = some (.cells C 3 (0, 0)) := by rw [hW]; exact HGR.out
        have := run_copy_row Tryz.prog W 22 22 3 3 g m (n - m) (n - m) ⟨g, 0, none⟩ m n C 3 (List.replicate c (Value.int .i64 z)) Tryz.underlying22 hinfo hgW (by rw [List.length_replicate, ← hc]) (fun j v hj => by
          rw [List.getElem?_replicate] at hj
          split at hj
          · rename_i hjc
            injection hj with hj
            subst hj
            have ha : (⟨g, 0, none⟩ : Addr).add j = ⟨g, j, none⟩ := by unfold Addr.add; split <;> simp_all
            rw [ha]
            have hb : Blk W g C 3 := hgW
            rw [hb.cell j]
            exact HCF.out j (by rw [← hc] at hjc; exact Nat.lt_of_lt_of_le hjc (Nat.min_le_left _ _))
          · cases hj) (by rw [List.length_replicate, hCs]; exact hc1.2) (by simp [Value.oneCell'])
        rwa [List.length_replicate] at this
      obtain ⟨C', hC'⟩ : ∃ C', (C.toList.take m ++ List.replicate c (Value.int .i64 z) ++ C.toList.drop (m + c)).toArray = C' := ⟨_, rfl⟩
      rw [hC'] at hcopyW
      have hCs' : C'.size = n := by rw [← hC']; simp; omega
      have hCf' : FullZ z C' (m + c) := by
        intro i hi
        rw [← hC']
        rw [List.getElem?_toArray, List.append_assoc]
        by_cases him : i < m
        · rw [List.getElem?_append_left (by simp; omega), List.getElem?_take, if_pos him, Array.getElem?_toList]
          exact HCF.out i him
        · rw [List.getElem?_append_right (by simp; omega), List.getElem?_append_left (by simp; omega), List.getElem?_replicate, if_pos (by simp; omega)]
      have HCF' := Lib.hid hCf'
      have hcopy0 := hcopyW wr rfl
      have hcopy1 := hcopyW wr.drew rfl
      have hcopy2 : ∀ q, (Builtin.copy_ #[22, 22] 3 #[.slice (some ⟨g, m, none⟩) (n - m) (n - m), .slice (some ⟨g, 0, none⟩) m n]).run Tryz.prog (wr.drewN q) = .ok (goInt c) ((wr.drewN q).setRow g C') := fun q => hcopyW _ rfl
      have hb1 : (0 : Int) ≤ (m : Int) := by omega
      have hb2 : (m : Int) ≤ (n : Int) := by omega
      have hb3 : ¬ n = m := by omega
      have hb4 : ¬ n - m = 0 := by omega
      have hwmc : IntKind.i64.wrap ((m : Int) + (c : Int)) = (m : Int) + c := by unfold IntKind.wrap; simp [IntKind.signed, IntKind.bits]; omega
      clear hc hC' hCf' hcopyW hgr
      go_wp2_with fail
      go_region_held3 (fun _ => True) (trivial) (fail)
      all_goals
        go_wp2_with fail
        go_roundw
        case rel => exact ⟨m + c, C', by omega, hc1.2, by go_num, setRow_heap _ g C C' _ _ HGR.out, hCs', HCF'.out, by first | exact HK.out.setRow _ (.inr hgw) | exact HK.out.drew.setRow _ (.inr hgw) | exact (HK.out.drewN _).setRow _ (.inr hgw)⟩
        case measure => simp [intOf]; omega
    · have hmn' : m = n := by omega
      subst hmn'
      go_wp2_with fail
      go_ret
      refine ⟨_, rfl, ?_, HK.out⟩
      refine ⟨by simp [], .inr ⟨g, m, C, by simp [], hgw, HGR.out, by simp [], by unfold maxLen; omega, by omega, ?_⟩⟩
      rw [HCF.out.list hCs]
      simp []

end Go.Proofs.YtbaifjdealmckaaGreat

/- Roots and parents. -/
set_option linter.unusedVariables false
set_option linter.unusedSimpArgs false
set_option linter.unnecessarySimpa false
namespace Go.Proofs.YtbaifjdealmckaaGreat
open Go.RowKit Tr

def RootIs (P : List Int) (r : Int) : Prop := ∃ i : Nat, i < P.length ∧ r = i ∧ par P i < 0 ∧ ∀ q : Nat, q < i → ¬ par P q < 0
theorem RootIs.uniq {P : List Int} {r s : Int} (h : RootIs P r) (k : RootIs P s) : r = s := by
  obtain ⟨i, _, rfl, h1, h2⟩ := h
  obtain ⟨j, _, rfl, h3, h4⟩ := k
  rcases Nat.lt_trichotomy i j with h | h | h
  · exact absurd h1 (h4 i h)
  · rw [h]
  · exact absurd h3 (h2 j h)
theorem root_lt {P : List Int} (h : Tree P) : ∃ i : Nat, i < P.length ∧ par P i < 0 := by
  have h0 : inB P.length 0 := by unfold inB; have := h.pos; omega
  have hl := rise_len h h0
  obtain ⟨x, hx⟩ : ∃ x, (rise P 0)[depth P 0]? = some x := ⟨_, List.getElem?_eq_getElem (by omega)⟩
  obtain ⟨h1, h2⟩ := rise_drop h _ 0 x h0 hx
  refine ⟨x.toNat, by unfold inB at h1; omega, ?_⟩
  have e : ((x.toNat : Nat) : Int) = x := by unfold inB at h1; omega
  rw [e]
  by_cases hp : par P x < 0
  · exact hp
  · exfalso
    have h3 := rise_depth h h0 hx
    have h4 := depth_step h h1 hp
    omega
def RootPost (w : World) (P : List Int) (e : Ending) (w' : World) : Prop := ∃ r, RootIs P r ∧ e = .returned (.int .i64 r) ∧ w = w'

set_option maxHeartbeats 2000000 in
theorem root_any (b : Nat) (P : List Int) (w : World) (h : TreeAt w b P) (hT : Tree P) : Calls Tryz.prog 22 #[.pointer (some ⟨b, 0, none⟩)] w (RootPost w P) := by
  have h16 := h.1
  have HP : Hid (∀ i : Nat, i < P.length → w.cell? ⟨b, 1 + i, none⟩ = some (.int .i64 (par P i))) := h.par
  have HR := Lib.hid (root_lt hT)
  obtain ⟨n, hn⟩ : ∃ n, P.length = n := ⟨_, rfl⟩
  have HN := Lib.hid hn
  rw [hn] at h16
  clear hn hT
  go_enter Tryz.func22, Tryz.ntmps22
  go_wp2_with fail
  refine (len_some b P.length _ _ h).mono ?_
  rintro e w' ⟨rfl, rfl⟩
  rw [HN.out]
  go_wp2_with fail
  go_loop [6] (fun i => ∃ (k : Nat), k ≤ n ∧ i = .int .i64 k ∧ ∀ q : Nat, q < k → ¬ par P q < 0) (fun i => n - (intOf i).toNat)
  case atStart => exact ⟨0, by omega, rfl, fun q hq => absurd hq (by omega)⟩
  case round =>
    obtain ⟨k, hk, rfl, hq⟩ := hrel
    have HQ := Lib.hid hq
    clear hq
    by_cases hlt : k < n
    · have hck := HP.out k (by rw [HN.out]; exact hlt)
      obtain ⟨x, hx⟩ : ∃ x, par P k = x := ⟨_, rfl⟩
      rw [hx] at hck
      have HX := Lib.hid hx
      clear hx
      by_cases hx0 : x < 0
      · go_wp2_with fail
        go_ret
        exact ⟨k, ⟨k, by rw [HN.out]; exact hlt, rfl, by rw [HX.out]; exact hx0, fun q hq => by have := HQ.out q hq; omega⟩, rfl, rfl⟩
      · go_wp2_with fail
        go_round
        case rel => exact ⟨k + 1, by omega, by go_num, fun q hq => by
          rcases Nat.lt_succ_iff_lt_or_eq.1 hq with h | rfl
          · have := HQ.out q h; omega
          · rw [HX.out]; omega⟩
        case measure => simp [intOf]; omega
    · exfalso
      obtain ⟨i, h1, h2⟩ := HR.out
      have := HQ.out i (by rw [HN.out] at h1; omega)
      omega

theorem RdI.atP {w : World} {v : Value} {P : List Int} (h : RdI w .i64 v P) (k : Nat) (hk : k < P.length) : ∃ b off c, v = .slice (some ⟨b, off, none⟩) P.length c ∧ w.cell? ⟨b, off + k, none⟩ = some (.int .i64 (par P k)) := by
  obtain ⟨A, c, rfl, _, hx⟩ := h
  obtain ⟨b, off, rfl, hc⟩ := hx (by rintro rfl; simp at hk)
  refine ⟨b, off, c, rfl, ?_⟩
  rw [hc k _ (List.getElem?_eq_getElem hk)]
  unfold par
  rw [List.getD_eq_getElem?_getD]
  simp [List.getElem?_eq_getElem hk]

set_option maxHeartbeats 2000000 in
theorem rroot_any (r : Nat) (v : Value) (P : List Int) (w : World) (h : RT w r v P) (hT : Tree P) : Calls Tryz.prog 27 #[.pointer (some ⟨r, 0, none⟩)] w (RootPost w P) := by
  have h16 := hT.le
  have hc0 := h.1
  have HR := Lib.hid (root_lt hT)
  have HRNG := Lib.hid hT.rng
  have HAT := Lib.hid (fun (k : Nat) (hk : k < P.length) => RdI.atP h.2 k hk)
  obtain ⟨A, c, rfl, _, _⟩ := h.2
  obtain ⟨n, hn⟩ : ∃ n, P.length = n := ⟨_, rfl⟩
  have HN := Lib.hid hn
  rw [hn] at h16 hc0
  clear hn hT h
  go_enter Tryz.func27, Tryz.ntmps27
  go_wp2_with fail
  go_loop [3] (fun i => ∃ (k : Nat), k ≤ n ∧ i = .int .i64 k ∧ ∀ q : Nat, q < k → ¬ par P q < 0) (fun i => n - (intOf i).toNat)
  case atStart => exact ⟨0, by omega, rfl, fun q hq => absurd hq (by omega)⟩
  case round =>
    obtain ⟨k, hk, rfl, hq⟩ := hrel
    have HQ := Lib.hid hq
    clear hq
    by_cases hlt : k < n
    · obtain ⟨b, off, c', he, hck⟩ := HAT.out k (by rw [HN.out]; exact hlt)
      injection he with he1 he2 he3
      subst he1 he3
      clear he2
      have hrg := HRNG.out k (by unfold inB; rw [HN.out]; omega)
      obtain ⟨x, hx⟩ : ∃ x, par P k = x := ⟨_, rfl⟩
      rw [hx] at hck hrg
      rw [HN.out] at hrg
      have HX := Lib.hid hx
      have HRG := Lib.hid hrg
      clear hx hrg
      cases hx0 : (x == -1) with
      | true =>
        have HX0 := Lib.hid hx0
        go_wp2_with fail
        go_ret
        have hxm : x = -1 := by simpa using HX0.out
        exact ⟨k, ⟨k, by rw [HN.out]; exact hlt, rfl, by rw [HX.out, hxm]; decide, fun q hq => by have := HQ.out q hq; omega⟩, rfl, rfl⟩
      | false =>
        have HX0 := Lib.hid hx0
        go_wp2_with fail
        go_round
        case rel => exact ⟨k + 1, by omega, by go_num, fun q hq => by
          rcases Nat.lt_succ_iff_lt_or_eq.1 hq with h | rfl
          · have := HQ.out q h; omega
          · rw [HX.out]
            rcases HRG.out with h1 | h1
            · have := HX0.out; rw [h1] at this; simp at this
            · unfold inB at h1; omega⟩
        case measure => simp [intOf]; omega
    · exfalso
      obtain ⟨i, h1, h2⟩ := HR.out
      have := HQ.out i (by rw [HN.out] at h1; omega)
      omega

end Go.Proofs.YtbaifjdealmckaaGreat

/- slices.Equal at ints: c17's text. -/
set_option linter.unusedVariables false
set_option linter.unusedSimpArgs false
namespace Go.Proofs.YtbaifjdealmckaaGreat
open Go.RowKit Tr

set_option maxHeartbeats 1000000 in
/-- slices.Equal at numbers. -/
theorem equal_any (k : IntKind) (u v : Value) (xs ys : List Int) (w : World) (hx : RdI w .i64 u xs) (hy : RdI w .i64 v ys) :
    Calls Tryz.prog 16 #[u, v] w fun e w' => e = .returned (.bool (decide (xs = ys))) ∧ ∃ m, w' = w.drewN m := by
  obtain ⟨A, c, rfl, hmx, hx⟩ := hx
  obtain ⟨B, d, rfl, hmy, hy⟩ := hy
  unfold maxLen at hmx hmy
  by_cases hl : xs.length = ys.length
  · obtain ⟨n, hn⟩ : ∃ n, n = xs.length := ⟨_, rfl⟩
    rw [← hl, ← hn]
    rw [← hn] at hmx hl
    have HN := Lib.hid hn
    have HL := Lib.hid hl
    clear hn hl
    have hb : ((n : Int) != (n : Int)) = false := by simp
    have HE : Hid (∀ W : World, (∀ j, j < n → xs[j]? = ys[j]?) → xs = ys) := fun W h => by
      apply List.ext_getElem?
      intro j
      rcases Nat.lt_or_ge j n with h0 | h0
      · exact h j h0
      · have h1 := HN.out; have h2 := HL.out
        rw [List.getElem?_eq_none (by omega), List.getElem?_eq_none (by omega)]
    go_enter Tryz.func16, Tryz.ntmps16
    go_wp2
    go_loopw [13] (fun i wr => ∃ (j m : Nat), j ≤ n ∧ i = .int .i64 j ∧ wr = w.drewN m ∧ ∀ q, q < j → xs[q]? = ys[q]?) (fun i _ => n - (intOf i).toNat)
    case atStart => exact ⟨0, 0, Nat.zero_le _, rfl, rfl, fun q hq => absurd hq (by omega)⟩
    case round =>
      obtain ⟨j, m, hj, rfl, rfl, hE⟩ := hrel
      have HQ := Lib.hid hE
      clear hE
      by_cases hlt : j < n
      · have hjx : j < xs.length := by have := HN.out; omega
        have hjy : j < ys.length := by have := HN.out; have := HL.out; omega
        obtain ⟨b1, o1, rfl, hc1⟩ := hx (by intro e; subst e; simp at hjx)
        obtain ⟨b2, o2, rfl, hc2⟩ := hy (by intro e; subst e; simp at hjy)
        have e1 := hc1 j _ (List.getElem?_eq_getElem hjx)
        have e2 := hc2 j _ (List.getElem?_eq_getElem hjy)
        have HC1 := Lib.hid hc1
        have HC2 := Lib.hid hc2
        clear hc1 hc2 hx hy
        obtain ⟨x, hx⟩ : ∃ x, x = xs[j] := ⟨_, rfl⟩
        obtain ⟨y, hy⟩ : ∃ y, y = ys[j] := ⟨_, rfl⟩
        rw [← hx] at e1
        rw [← hy] at e2
        have HX : Hid (x = xs[j]) := hx
        have HY : Hid (y = ys[j]) := hy
        clear hx hy
        by_cases hxy : x = y
        · have hne : (x != y) = false := by simp [hxy]
          have HXY := Lib.hid hxy
          clear hxy
          go_wp2_with fail
          go_quiet (fail)
          go_wp2
          go_roundw
          case rel => exact ⟨j + 1, m + nq, by omega, by go_num, by first | rfl | rw [World.drewN_drewN], fun q hq => by
            rcases Nat.lt_succ_iff_lt_or_eq.1 hq with h | rfl
            · exact HQ.out q h
            · rw [List.getElem?_eq_getElem hjx, List.getElem?_eq_getElem hjy, ← HX.out, ← HY.out, HXY.out]⟩
          case measure => simp [intOf]; omega
        · have hne : (x != y) = true := by simp [hxy]
          have HXY := Lib.hid hxy
          clear hxy
          go_wp2_with fail
          go_quiet (fail)
          go_wp2
          go_ret
          refine ⟨ret_bool ?_, m + nq, by first | rfl | rw [World.drewN_drewN]⟩
          symm
          simp only [decide_eq_false_iff_not]
          intro e
          subst e
          exact HXY.out (by rw [HX.out, HY.out])
      · go_wp2
        go_ret
        refine ⟨ret_bool ?_, _, rfl⟩
        symm
        simp only [decide_eq_true_eq]
        exact HE.out w (fun q hq => HQ.out q (by omega))
  · have hne : ((xs.length : Int) != (ys.length : Int)) = true := by simp; omega
    have HL := Lib.hid hl
    clear hl
    go_enter Tryz.func16, Tryz.ntmps16
    go_wp2
    go_ret
    refine ⟨ret_bool ?_, 0, rfl⟩
    symm
    simp only [decide_eq_false_iff_not]
    intro e
    exact HL.out (by rw [e])



end Go.Proofs.YtbaifjdealmckaaGreat

/- Where operators stand: what may be, where one costs least, what a pass puts elsewhere; the plain laws. -/
set_option linter.unusedVariables false
set_option linter.unusedSimpArgs false
set_option linter.unnecessarySimpa false
namespace Go.Proofs.YtbaifjdealmckaaGreat
open Go.RowKit Go.Shelf Tr

def rootV (P : List Int) : Int := (((List.range P.length).find? (fun q : Nat => decide (par P (q : Int) < 0))).getD 0 : Nat)
theorem rootV_is {P : List Int} {r : Int} (h : RootIs P r) : r = rootV P := by
  obtain ⟨i, h1, rfl, h2, h3⟩ := h
  unfold rootV
  have : (List.range P.length).find? (fun q : Nat => decide (par P (q : Int) < 0)) = some i := by
    rw [List.find?_range_eq_some]
    exact ⟨by simpa using h2, List.mem_range.2 h1, fun j hj => by simpa using h3 j hj⟩
  rw [this]
  rfl
theorem rootV_in {P : List Int} (h : Tree P) : inB P.length (rootV P) := by
  unfold rootV
  have hp := h.pos
  cases e : (List.range P.length).find? (fun q : Nat => decide (par P (q : Int) < 0)) with
  | none => unfold inB; simp; omega
  | some i =>
    have := List.mem_range.1 (List.mem_of_find?_eq_some e)
    unfold inB; simp; omega
theorem outB_in {n : Nat} {i : Int} : outB n i = false ↔ inB n i := by
  unfold outB inB
  simp

/-- Whether sources are bad, whether places are bad. -/
def srcBad (n : Nat) (S : List Int) : Bool := decide (S.length < 1) || (decide (12 < S.length) || S.any (outB n))
def atBad (P : List Int) (n : Nat) (A : List Int) : Bool := !decide (A.length = n) || (A.any (outB P.length) || !(A.getD (n - 1) 0 == rootV P))
def standE (P : List Int) (x : PlanD) (A S : List Int) : Int :=
  if planV x then (if srcBad P.length S then 1 else if atBad P x.1.length A then 190 else 0) else 150
def lookE (P : List Int) (x : PlanD) (r : RatesD) (A S : List Int) (op : Int) : Int :=
  if standE P x A S = 0 then (if checkE x r = 0 then (if decide (r.1.length = S.length) && (decide (0 ≤ op) && decide (op < (x.1.length : Int))) then 0 else 1) else checkE x r) else standE P x A S

/-- The first place of the least of f 0 .. f k. -/
def bestG (f : Nat → Int) : Nat → Nat
  | 0 => 0
  | k + 1 => if f (k + 1) < f (bestG f k) then k + 1 else bestG f k
theorem bestG_le (f : Nat → Int) : ∀ k, bestG f k ≤ k
  | 0 => Nat.le_refl _
  | k + 1 => by
    have := bestG_le f k
    unfold bestG
    split <;> omega
theorem bestG_min (f : Nat → Int) : ∀ k j, j ≤ k → f (bestG f k) ≤ f j
  | 0, j, h => by
    have : j = 0 := by omega
    subst this
    exact Int.le_refl _
  | k + 1, j, h => by
    unfold bestG
    split
    · rename_i hlt
      rcases Nat.lt_or_ge j (k + 1) with hj | hj
      · have := bestG_min f k j (by omega); omega
      · have : j = k + 1 := by omega
        subst this
        exact Int.le_refl _
    · rename_i hlt
      rcases Nat.lt_or_ge j (k + 1) with hj | hj
      · exact bestG_min f k j (by omega)
      · have : j = k + 1 := by omega
        subst this
        omega
/-- Where operator k costs least. -/
def lsV (P : List Int) (x : PlanD) (r : RatesD) (S A : List Int) (k : Nat) : Int :=
  if k + 1 = x.1.length then rootV P else (bestG (fun b => partV P x r A S (k : Int) (b : Int)) (P.length - 1) : Nat)
def leastV (P : List Int) (x : PlanD) (r : RatesD) (A S : List Int) (op : Int) : Int := if lookE P x r A S op = 0 then lsV P x r S A op.toNat else 0
/-- One operator of a pass. -/
def stepI (P : List Int) (x : PlanD) (r : RatesD) (S : List Int) (q : List Int × Nat) (k : Nat) : List Int × Nat :=
  if partV P x r q.1 S (k : Int) (lsV P x r S q.1 k) < partV P x r q.1 S (k : Int) (q.1.getD k 0) then (q.1.set k (lsV P x r S q.1 k), q.2 + 1) else q
def impG (P : List Int) (x : PlanD) (r : RatesD) (S A : List Int) : Nat → List Int × Nat
  | 0 => (A, 0)
  | k + 1 => stepI P x r S (impG P x r S A k) k
def impV (P : List Int) (x : PlanD) (r : RatesD) (S A : List Int) : List Int × Nat := if lookE P x r A S 0 = 0 then impG P x r S A x.1.length else ([], 0)

/-- A placing that may be. -/
structure Good (P : List Int) (x : PlanD) (r : RatesD) (S A : List Int) : Prop where
  stand : standE P x A S = 0
  check : checkE x r = 0
  src : r.1.length = S.length
theorem standE_zero {P : List Int} {x : PlanD} {A S : List Int} (h : standE P x A S = 0) : planV x = true ∧ srcBad P.length S = false ∧ atBad P x.1.length A = false := by
  unfold standE at h
  cases h1 : planV x with
  | false => rw [h1] at h; simp at h
  | true =>
    rw [h1, if_pos rfl] at h
    cases h2 : srcBad P.length S with
    | true => rw [h2] at h; simp at h
    | false =>
      rw [h2] at h
      cases h3 : atBad P x.1.length A with
      | true => rw [h3] at h; simp at h
      | false => exact ⟨rfl, rfl, rfl⟩
theorem standE_of {P : List Int} {x : PlanD} {A S : List Int} (h1 : planV x = true) (h2 : srcBad P.length S = false) (h3 : atBad P x.1.length A = false) : standE P x A S = 0 := by
  unfold standE
  rw [if_pos h1, h2, h3]
  simp
theorem atBad_false {P : List Int} {n : Nat} {A : List Int} : atBad P n A = false ↔ A.length = n ∧ (∀ y ∈ A, inB P.length y) ∧ A.getD (n - 1) 0 = rootV P := by
  unfold atBad
  simp only [Bool.or_eq_false_iff, Bool.not_eq_false', decide_eq_true_eq, beq_iff_eq, List.any_eq_false, Bool.not_eq_true]
  constructor
  · rintro ⟨h1, h2, h3⟩
    exact ⟨h1, fun y hy => outB_in.1 (h2 y hy), h3⟩
  · rintro ⟨h1, h2, h3⟩
    exact ⟨h1, fun y hy => outB_in.2 (h2 y hy), h3⟩
theorem lookE_zero {P : List Int} {x : PlanD} {r : RatesD} {A S : List Int} {op : Int} (h : lookE P x r A S op = 0) : Good P x r S A ∧ 0 ≤ op ∧ op < x.1.length := by
  unfold lookE at h
  by_cases h1 : standE P x A S = 0
  · rw [if_pos h1] at h
    by_cases h2 : checkE x r = 0
    · rw [if_pos h2] at h
      cases h3 : (decide (r.1.length = S.length) && (decide (0 ≤ op) && decide (op < (x.1.length : Int)))) with
      | false => rw [h3] at h; simp at h
      | true =>
        simp only [Bool.and_eq_true, decide_eq_true_eq] at h3
        exact ⟨⟨h1, h2, h3.1⟩, h3.2.1, h3.2.2⟩
    · rw [if_neg h2] at h; exact absurd h h2
  · rw [if_neg h1] at h; exact absurd h h1
theorem Good.look {P : List Int} {x : PlanD} {r : RatesD} {A S : List Int} (h : Good P x r S A) {op : Int} (h0 : 0 ≤ op) (h1 : op < x.1.length) : lookE P x r A S op = 0 := by
  unfold lookE
  rw [if_pos h.stand, if_pos h.check, h.src]
  simp [h0, h1]
theorem Good.model {P : List Int} {x : PlanD} {r : RatesD} {A S : List Int} (h : Good P x r S A) : modelE P.length x r A S = 0 := by
  obtain ⟨h1, h2, h3⟩ := standE_zero h.stand
  obtain ⟨a1, a2, a3⟩ := atBad_false.1 h3
  unfold modelE placeE
  rw [if_pos h.check, if_pos]
  have e1 : A.any (outB P.length) = false := by
    rw [List.any_eq_false]
    intro y hy
    rw [outB_in.2 (a2 y hy)]
    simp
  have e2 : S.any (outB P.length) = false := by
    unfold srcBad at h2
    simp only [Bool.or_eq_false_iff] at h2
    exact h2.2.2
  rw [e1, e2]
  simp [a1, h.src]
theorem Good.facts {P : List Int} {x : PlanD} {r : RatesD} {A S : List Int} (h : Good P x r S A) : 2 ≤ x.1.length ∧ x.1.length ≤ 32 ∧ A.length = x.1.length ∧ (∀ y ∈ A, inB P.length y) ∧ A.getD (x.1.length - 1) 0 = rootV P ∧ 1 ≤ S.length ∧ S.length ≤ 12 := by
  obtain ⟨h1, h2, h3⟩ := standE_zero h.stand
  obtain ⟨a1, a2, a3⟩ := atBad_false.1 h3
  obtain ⟨b1, b2, -, -⟩ := plan_place h1
  unfold srcBad at h2
  simp only [Bool.or_eq_false_iff, decide_eq_false_iff_not] at h2
  exact ⟨b1, b2, a1, a2, a3, by omega, by omega⟩
theorem Good.part {P : List Int} {x : PlanD} {r : RatesD} {A S : List Int} (h : Good P x r S A) {k : Nat} (hk : k < x.1.length) {b : Int} (hb : inB P.length b) : partE P.length x r A S (k : Int) b = 0 := by
  unfold partE
  rw [if_pos h.model, if_pos]
  rw [outB_in.2 hb]
  simp
  omega
theorem Good.put {P : List Int} {x : PlanD} {r : RatesD} {A S : List Int} (h : Good P x r S A) {k : Nat} (hk : k + 1 < x.1.length) {b : Int} (hb : inB P.length b) : Good P x r S (A.set k b) := by
  obtain ⟨h1, h2, h3⟩ := standE_zero h.stand
  obtain ⟨a1, a2, a3⟩ := atBad_false.1 h3
  refine ⟨standE_of h1 h2 (atBad_false.2 ⟨by rw [List.length_set]; exact a1, fun y hy => ?_, ?_⟩), h.check, h.src⟩
  · rcases List.mem_or_eq_of_mem_set hy with hy | rfl
    · exact a2 y hy
    · exact hb
  · rw [set_get (by omega), if_neg (by omega)]
    exact a3
theorem lsV_in {P : List Int} (hT : Tree P) (x : PlanD) (r : RatesD) (S A : List Int) (k : Nat) : inB P.length (lsV P x r S A k) := by
  unfold lsV
  split
  · exact rootV_in hT
  · have := bestG_le (fun b => partV P x r A S (k : Int) (b : Int)) (P.length - 1)
    have hp := hT.pos
    unfold inB
    omega
theorem stepI_good {P : List Int} (hT : Tree P) {x : PlanD} {r : RatesD} {S : List Int} {q : List Int × Nat} (h : Good P x r S q.1) {k : Nat} (hk : k < x.1.length) : Good P x r S (stepI P x r S q k).1 := by
  unfold stepI
  split
  · rename_i hlt
    by_cases hl : k + 1 = x.1.length
    · exfalso
      have e : lsV P x r S q.1 k = q.1.getD k 0 := by
        unfold lsV
        rw [if_pos hl, ← h.facts.2.2.2.2.1, show x.1.length - 1 = k by omega]
      rw [e] at hlt
      omega
    · exact h.put (by omega) (lsV_in hT x r S q.1 k)
  · exact h
theorem impG_good {P : List Int} (hT : Tree P) {x : PlanD} {r : RatesD} {S A : List Int} (h : Good P x r S A) : ∀ k, k ≤ x.1.length → Good P x r S (impG P x r S A k).1
  | 0, _ => h
  | k + 1, hk => stepI_good hT (impG_good hT h k (by omega)) (by omega)
theorem stepI_moved {P : List Int} {x : PlanD} {r : RatesD} {S : List Int} {q : List Int × Nat} {k : Nat} : (stepI P x r S q k).2 ≤ q.2 + 1 ∧ q.2 ≤ (stepI P x r S q k).2 := by
  unfold stepI
  split <;> exact ⟨by simp, by simp⟩
theorem impG_moved {P : List Int} {x : PlanD} {r : RatesD} {S A : List Int} : ∀ k, (impG P x r S A k).2 ≤ k
  | 0 => Nat.le_refl _
  | k + 1 => by
    have := impG_moved (P := P) (x := x) (r := r) (S := S) (A := A) k
    have := (stepI_moved (P := P) (x := x) (r := r) (S := S) (q := impG P x r S A k) (k := k)).1
    unfold impG
    omega
/-- All at the root may be. -/
def rootsV (P : List Int) (x : PlanD) : List Int := List.replicate x.1.length (rootV P)
theorem root_stand {P : List Int} (hT : Tree P) {x : PlanD} {S : List Int} (h1 : planV x = true) (h2 : srcBad P.length S = false) : standE P x (rootsV P x) S = 0 := by
  obtain ⟨b1, b2, -, -⟩ := plan_place h1
  refine standE_of h1 h2 (atBad_false.2 ⟨by simp [rootsV], fun y hy => ?_, ?_⟩)
  · rw [List.eq_of_mem_replicate hy]
    exact rootV_in hT
  · unfold rootsV List.getD
    rw [List.getElem?_replicate, if_pos (by omega)]
    rfl
/-- Passes, till nothing is put elsewhere. -/
def setG (P : List Int) (x : PlanD) (r : RatesD) (S : List Int) : Nat → List Int → List Int
  | 0, A => A
  | f + 1, A => if (impG P x r S A x.1.length).2 = 0 then (impG P x r S A x.1.length).1 else setG P x r S f (impG P x r S A x.1.length).1
def setV (P : List Int) (x : PlanD) (r : RatesD) (S A : List Int) : List Int := if lookE P x r A S 0 = 0 then setG P x r S 8 A else []
def greedV (P : List Int) (x : PlanD) (r : RatesD) (S : List Int) : List Int := (impV P x r S (rootsV P x)).1
def greedE (P : List Int) (x : PlanD) (r : RatesD) (S : List Int) : Int := if planV x then lookE P x r (rootsV P x) S 0 else 150
/-- Where two lists are unlike. -/
def movedG (a b : List Int) : Nat → List Int
  | 0 => []
  | k + 1 => movedG a b k ++ (if a[k]? = b[k]? then [] else [(k : Int)])
def movedV (a b : List Int) : List Int := movedG a b (max a.length b.length)
theorem movedG_len (a b : List Int) : ∀ k, (movedG a b k).length ≤ k
  | 0 => Nat.le_refl _
  | k + 1 => by
    have := movedG_len a b k
    unfold movedG
    split <;> simp <;> omega

end Go.Proofs.YtbaifjdealmckaaGreat

/- Which placings may be: the program's question. -/
set_option linter.unusedVariables false
set_option linter.unusedSimpArgs false
set_option linter.unnecessarySimpa false
namespace Go.Proofs.YtbaifjdealmckaaGreat
open Go.RowKit Go.Shelf Tr
attribute [local go_sem] Oper.semAt_some

theorem root_at (b : Nat) (P : List Int) (w : World) (h : TreeAt w b P) (hT : Tree P) : Calls Tryz.prog 22 #[.pointer (some ⟨b, 0, none⟩)] w fun e w' => e = .returned (.int .i64 (rootV P)) ∧ w = w' :=
  (root_any b P w h hT).mono fun e w' ⟨r, hr, he, hw⟩ => ⟨by rw [he, rootV_is hr], hw⟩
theorem rroot_at (r : Nat) (v : Value) (P : List Int) (w : World) (h : RT w r v P) (hT : Tree P) : Calls Tryz.prog 27 #[.pointer (some ⟨r, 0, none⟩)] w fun e w' => e = .returned (.int .i64 (rootV P)) ∧ w = w' :=
  (rroot_any r v P w h hT).mono fun e w' ⟨q, hr, he, hw⟩ => ⟨by rw [he, rootV_is hr], hw⟩
set_option maxHeartbeats 1000000 in
theorem none1_any (bx b : Nat) (P : List Int) (i : Int) (w : World) (h : TreeAt w b P) (hb : w.cell? ⟨bx, 0, none⟩ = some (.pointer (some ⟨b, 0, none⟩))) :
    Calls Tryz.prog 37 #[.int .i64 i, .pointer (some ⟨bx, 0, none⟩)] w fun e w' => e = .returned (.bool (outB P.length i)) ∧ w = w' := by
  by_cases h1 : i < 0
  · have e1 : outB P.length i = true := by unfold outB; simp [h1]
    rw [e1]
    clear e1
    go_enter Tryz.func37, Tryz.ntmps37
    go_wp2_with fail
    go_ret
    exact ⟨rfl, rfl⟩
  · have HE : Hid (outB P.length i = decide ((P.length : Int) ≤ i)) := by show _ = _; unfold outB; simp [h1]
    rw [HE.out]
    have HL := Lib.hid (len_some b P.length _ w h)
    clear h
    obtain ⟨n, hn⟩ : ∃ n, P.length = n := ⟨_, rfl⟩
    rw [hn] at HL ⊢
    clear hn HE
    go_enter Tryz.func37, Tryz.ntmps37
    go_wp2_with fail
    refine HL.out.mono ?_
    rintro e w' ⟨rfl, rfl⟩
    go_wp2_with fail
    go_ret
    exact ⟨rfl, rfl⟩

theorem check_nil (xo xf av zv : Value) (w : World) : Calls Tryz.prog 20 #[.pointer none, .agg #[xo, xf], av, zv] w fun e w' => e = .returned (.int .i64 2) ∧ Kept [] w w' := by
  have HK := Lib.hid (((Kept.refl [] w).alloc (.cells #[.pointer none] 32)).alloc (.cells #[xo, xf] 26))
  go_enter Tryz.func20, Tryz.ntmps20
  go_wp2_with fail
  refine (len_nil _).mono ?_
  rintro e w' ⟨rfl, rfl⟩
  go_wp2_with fail
  go_ret
  exact ⟨rfl, HK.out⟩

/-- What the place is that stands at the end, in memory. -/
theorem last_at {w : World} {A : Option Addr} {n c : Nat} {l : List Int} (h : RdI w .i64 (.slice A n c) l) (hn : l.length = n) (h1 : 1 ≤ n) : ∃ b off, A = some ⟨b, off, none⟩ ∧ w.cell? ⟨b, off + (n - 1), none⟩ = some (.int .i64 (l.getD (n - 1) 0)) := by
  subst hn
  obtain ⟨b, off, c', x, he, hx, hc⟩ := RdI.at h (i := l.length - 1) (by omega)
  injection he with he1 he2 he3
  refine ⟨b, off, he1, ?_⟩
  rw [hc]
  unfold List.getD
  rw [hx]
  rfl

set_option maxRecDepth 100000 in
set_option maxHeartbeats 4000000 in
theorem check_any (b : Nat) (P : List Int) (ov fv av zv : Value) (x : PlanD) (A S : List Int) (w : World) (hT : TreeAt w b P) (hTr : Tree P)
    (ho : Rds opR w ov x.1) (hf : Rds intsR w fv x.2) (hF : fromLen x.2 ≤ 1048576) (har : Rds (Rk.int .i64) w av A) (hzr : Rds (Rk.int .i64) w zv S) :
    Calls Tryz.prog 20 #[.pointer (some ⟨b, 0, none⟩), .agg #[ov, fv], av, zv] w fun e w' => e = .returned (.int .i64 (standE P x A S)) ∧ Kept [] w w' := by
  have HPC := Lib.hid (fun (W : World) (hk : Kept [] w W) => plancheck_any ov fv x W (ho.keep hk) (hf.keep hk) hF)
  have HLC := Lib.hid (fun (W : World) (hk : Kept [] w W) => len_some b P.length _ W (hT.keep hk))
  have HRT := Lib.hid (fun (W : World) (hk : Kept [] w W) => root_at b P W (hT.keep hk) hTr)
  have HC : Hid (∀ (v : Value) (l : List Int) (W : World), Rds (Rk.int .i64) w v l → Kept [] w W → W.cell? ⟨w.heap.size, 0, none⟩ = some (.pointer (some ⟨b, 0, none⟩)) → Calls Tryz.prog 38 #[v, .func (.func 37) #[] #[.pointer (some ⟨w.heap.size, 0, none⟩)]] W fun e w' => e = .returned (.bool (l.any (outB P.length))) ∧ Kept [] W w') := fun v l W hr hk hb =>
    contains_ints 37 #[.pointer (some ⟨w.heap.size, 0, none⟩)] (outB P.length) v l W (hr.keep hk) (fun _ _ => rfl)
      (fun W' y _ hk' => (none1_any w.heap.size b P y W' (hT.keep (hk.trans hk')) (hk'.cell (by simp) hb)).mono fun _ w1 ⟨he, hw⟩ => ⟨he, hw ▸ Kept.refl [] W'⟩)
  have HCS0 := Lib.hid (fun (W : World) => HC.out zv S W hzr)
  have HCA0 := Lib.hid (fun (W : World) => HC.out av A W har)
  have hnp1 := hTr.pos
  obtain ⟨A1, c, rfl, hmA⟩ := ho.form
  obtain ⟨AA, ac, rfl, hmAA⟩ := har.form
  obtain ⟨ZA, zc, rfl, hmZ⟩ := hzr.form
  have HAI := Lib.hid har.ints
  obtain ⟨E, hEE⟩ : ∃ E, standE P x A S = E := ⟨_, rfl⟩
  rw [hEE]
  unfold standE srcBad atBad at hEE
  have HPN : Hid (planV x = true → 2 ≤ x.1.length ∧ x.1.length ≤ 32) := fun h => ⟨(plan_place h).1, (plan_place h).2.1⟩
  obtain ⟨pv, hpv⟩ : ∃ pv, planV x = pv := ⟨_, rfl⟩
  rw [hpv] at HPC HPN hEE
  obtain ⟨qa, hqa⟩ : ∃ qa, A.any (outB P.length) = qa := ⟨_, rfl⟩
  obtain ⟨qs, hqs⟩ : ∃ qs, S.any (outB P.length) = qs := ⟨_, rfl⟩
  rw [hqa] at HCA0 hEE
  rw [hqs] at HCS0 hEE
  obtain ⟨rt, hrt⟩ : ∃ rt, rootV P = rt := ⟨_, rfl⟩
  rw [hrt] at HRT hEE
  obtain ⟨n, hn⟩ : ∃ n, x.1.length = n := ⟨_, rfl⟩
  obtain ⟨la, hla⟩ : ∃ la, A.length = la := ⟨_, rfl⟩
  obtain ⟨ls, hls⟩ : ∃ ls, S.length = ls := ⟨_, rfl⟩
  obtain ⟨np, hnp⟩ : ∃ np, P.length = np := ⟨_, rfl⟩
  rw [hn] at hmA HPC HPN hEE ⊢
  rw [hla] at hmAA HCA0 HAI hEE ⊢
  rw [hls] at hmZ HCS0 hEE ⊢
  rw [hnp] at HLC hnp1
  have HE := Lib.hid hEE.symm
  have HLA := Lib.hid hla
  have hk0 : ((np : Int) == 0) = false := by simp; omega
  clear hn hla hls hnp hpv hqa hqs hrt hEE hF ho hf har hzr hT hTr HC
  have HK0 := Lib.hid (((Kept.refl [] w).alloc (.cells #[.pointer (some ⟨b, 0, none⟩)] 32)).alloc (.cells #[.slice A1 n c, fv] 26))
  have HB0 : Hid (Blk ((w.alloc (.cells #[.pointer (some ⟨b, 0, none⟩)] 32)).alloc (.cells #[.slice A1 n c, fv] 26)) w.heap.size #[.pointer (some ⟨b, 0, none⟩)] 32) := (Blk.new w _ _).alloc _
  have HB1 : Hid (Blk ((w.alloc (.cells #[.pointer (some ⟨b, 0, none⟩)] 32)).alloc (.cells #[.slice A1 n c, fv] 26)) (w.heap.size + 1) #[.slice A1 n c, fv] 26) := by
    have := Blk.new (w.alloc (.cells #[.pointer (some ⟨b, 0, none⟩)] 32)) #[.slice A1 n c, fv] 26
    rwa [show (w.alloc (.cells #[.pointer (some ⟨b, 0, none⟩)] 32)).heap.size = w.heap.size + 1 by simp] at this
  go_enter Tryz.func20, Tryz.ntmps20
  go_wp2_with fail
  obtain ⟨w0, hw0⟩ : ∃ w0, (w.alloc (.cells #[.pointer (some ⟨b, 0, none⟩)] 32)).alloc (.cells #[.slice A1 n c, fv] 26) = w0 := ⟨_, rfl⟩
  rw [hw0] at HK0 HB0 HB1 ⊢
  clear hw0
  have HBX : Hid (∀ W, Kept [] w0 W → W.cell? ⟨w.heap.size, 0, none⟩ = some (.pointer (some ⟨b, 0, none⟩)) ∧ W.cell? ⟨w.heap.size + 1, 0, none⟩ = some (.slice A1 n c) ∧ W.cell? ⟨w.heap.size + 1, 1, none⟩ = some fv) := fun W hW => ⟨((HB0.out.kept hW (by simp)).cell 0).trans rfl, ((HB1.out.kept hW (by simp)).cell 0).trans rfl, ((HB1.out.kept hW (by simp)).cell 1).trans rfl⟩
  have HCA : Hid (∀ W, Kept [] w0 W → Calls Tryz.prog 38 #[.slice AA la ac, .func (.func 37) #[] #[.pointer (some ⟨w.heap.size, 0, none⟩)]] W fun e w' => e = .returned (.bool qa) ∧ Kept [] W w') := fun W hW => HCA0.out W (HK0.out.trans hW) (HBX.out W hW).1
  have HCS : Hid (∀ W, Kept [] w0 W → Calls Tryz.prog 38 #[.slice ZA ls zc, .func (.func 37) #[] #[.pointer (some ⟨w.heap.size, 0, none⟩)]] W fun e w' => e = .returned (.bool qs) ∧ Kept [] W w') := fun W hW => HCS0.out W (HK0.out.trans hW) (HBX.out W hW).1
  clear HCA0 HCS0
  obtain ⟨x0, x1, x2⟩ := HBX.out _ (Kept.refl [] w0)
  refine (HLC.out _ HK0.out).mono ?_
  rintro e w' ⟨rfl, rfl⟩
  go_wp2_with fail
  refine (HPC.out _ HK0.out).mono ?_
  rintro e w1 ⟨rfl, k1⟩
  have HK1 := Lib.hid k1
  have HK01 := Lib.hid (HK0.out.trans k1)
  clear k1 x0 x1 x2
  cases pv with
  | false =>
    rw [show errPlan false = 150 from rfl]
    have hE : Hid (E = 150) := by show _ = _; rw [HE.out]; simp [*]
    go_wp2_with fail
    go_ret
    exact ⟨by rw [hE.out] <;> rfl, HK01.out⟩
  | true =>
    rw [show errPlan true = 0 from rfl]
    obtain ⟨hn2, hn32⟩ := HPN.out rfl
    by_cases hs1 : ls < 1
    · have hs1' : decide ((ls : Int) < 1) = true := by simp; omega
      have hE : Hid (E = 1) := by show _ = _; rw [HE.out]; simp [*]
      go_wp2_with fail
      go_ret
      exact ⟨by rw [hE.out] <;> rfl, HK01.out⟩
    · have hs1' : decide ((ls : Int) < 1) = false := by simp; omega
      by_cases hs2 : 12 < ls
      · have hs2' : decide ((12 : Int) < ls) = true := by simp; omega
        have hE : Hid (E = 1) := by show _ = _; rw [HE.out]; simp [*]
        go_wp2_with fail
        go_ret
        exact ⟨by rw [hE.out] <;> rfl, HK01.out⟩
      · have hs2' : decide ((12 : Int) < ls) = false := by simp; omega
        go_wp2_with fail
        refine (HCS.out _ HK1.out).mono ?_
        rintro e w2 ⟨rfl, k2⟩
        have HK2 := Lib.hid (HK1.out.trans k2)
        have HK02 := Lib.hid (HK0.out.trans (HK1.out.trans k2))
        clear k2
        cases qs with
        | true =>
          have hE : Hid (E = 1) := by show _ = _; rw [HE.out]; simp [*]
          go_wp2_with fail
          go_ret
          exact ⟨by rw [hE.out] <;> rfl, HK02.out⟩
        | false =>
          have hpt : ∀ s : SW (Kept [] w0), s.to.cell? ⟨w.heap.size, 0, none⟩ = some (.pointer (some ⟨b, 0, none⟩)) := fun s => (HBX.out _ s.ok).1
          have hp0 : ∀ s : SW (Kept [] w0), s.to.cell? ⟨w.heap.size + 1, 0, none⟩ = some (.slice A1 n c) := fun s => (HBX.out _ s.ok).2.1
          have hall : ∀ s : SW (Kept [] w0), Kept [] w0 s.to := fun s => s.ok
          go_wp2_with fail
          by_cases h1 : la = n
          · subst h1
            have h1' : ((la : Int) != (la : Int)) = false := by simp
            cases qa with
            | true =>
              refine wp_region_sw (Kept [] w0) (stays_kept w0) HK2.out (by kernel_rfl) (by kernel_rfl) (fun hne => ?_)
              repeat (go_big_quiet_step (first
                | (go_at_call 38; exact SW.calls (stays_kept w0) (HCA.out _ (hall _)))
                | (go_at_call 22; exact SW.calls_same (HRT.out _ (HK0.out.trans (hall _))))))
              refine wpQuiet_nil ?_
              intro w3 hs3
              have HK3 := Lib.hid (HK0.out.trans hs3)
              clear hs3
              have hE : Hid (E = 190) := by show _ = _; rw [HE.out]; simp [*]
              go_wp2_with fail
              go_ret
              exact ⟨by rw [hE.out] <;> rfl, HK3.out⟩
            | false =>
              obtain ⟨ba, oa, rfl, hca⟩ := last_at HAI.out HLA.out (by omega)
              obtain ⟨z, hz⟩ : ∃ z, A.getD (la - 1) 0 = z := ⟨_, rfl⟩
              rw [hz] at hca HE
              have hal : ∀ s : SW (Kept [] w0), s.to.cell? ⟨ba, oa + (la - 1), none⟩ = some (.int .i64 z) := fun s => s.ok.cell (by simp) (HK0.out.cell (by simp) hca)
              have hla1 : 1 ≤ la := by omega
              clear hz
              cases hzr : (z == rt) with
              | true =>
                have hzn : (z != rt) = false := by unfold bne; rw [hzr]; rfl
                refine wp_region_sw (Kept [] w0) (stays_kept w0) HK2.out (by kernel_rfl) (by kernel_rfl) (fun hne => ?_)
                repeat (go_big_quiet_step (first
                  | (go_at_call 38; exact SW.calls (stays_kept w0) (HCA.out _ (hall _)))
                  | (go_at_call 22; exact SW.calls_same (HRT.out _ (HK0.out.trans (hall _))))))
                refine wpQuiet_nil ?_
                intro w3 hs3
                have HK3 := Lib.hid (HK0.out.trans hs3)
                clear hs3
                have hE : Hid (E = 0) := by show _ = _; rw [HE.out]; simp [*]
                go_wp2_with fail
                go_ret
                exact ⟨by rw [hE.out] <;> rfl, HK3.out⟩
              | false =>
                have hzn : (z != rt) = true := by unfold bne; rw [hzr]; rfl
                refine wp_region_sw (Kept [] w0) (stays_kept w0) HK2.out (by kernel_rfl) (by kernel_rfl) (fun hne => ?_)
                repeat (go_big_quiet_step (first
                  | (go_at_call 38; exact SW.calls (stays_kept w0) (HCA.out _ (hall _)))
                  | (go_at_call 22; exact SW.calls_same (HRT.out _ (HK0.out.trans (hall _))))))
                refine wpQuiet_nil ?_
                intro w3 hs3
                have HK3 := Lib.hid (HK0.out.trans hs3)
                clear hs3
                have hE : Hid (E = 190) := by show _ = _; rw [HE.out]; simp [*]
                go_wp2_with fail
                go_ret
                exact ⟨by rw [hE.out] <;> rfl, HK3.out⟩
          · have h1' : ((la : Int) != (n : Int)) = true := by rw [bne_iff_ne]; omega
            refine wp_region_sw (Kept [] w0) (stays_kept w0) HK2.out (by kernel_rfl) (by kernel_rfl) (fun hne => ?_)
            repeat (go_big_quiet_step (first
              | (go_at_call 38; exact SW.calls (stays_kept w0) (HCA.out _ (hall _)))
              | (go_at_call 22; exact SW.calls_same (HRT.out _ (HK0.out.trans (hall _))))))
            refine wpQuiet_nil ?_
            intro w3 hs3
            have HK3 := Lib.hid (HK0.out.trans hs3)
            clear hs3
            have hE : Hid (E = 190) := by show _ = _; rw [HE.out]; simp [*]
            go_wp2_with fail
            go_ret
            exact ⟨by rw [hE.out] <;> rfl, HK3.out⟩

end Go.Proofs.YtbaifjdealmckaaGreat

/- Which placings may be: the document's question. -/
set_option linter.unusedVariables false
set_option linter.unusedSimpArgs false
set_option linter.unnecessarySimpa false
namespace Go.Proofs.YtbaifjdealmckaaGreat
open Go.RowKit Go.Shelf Tr
attribute [local go_sem] Oper.semAt_some

theorem inBb_outB (n : Nat) (i : Int) : inBb n i = !outB n i := by
  unfold inBb outB
  by_cases h1 : 0 ≤ i
  · by_cases h2 : i < (n : Int)
    · simp [h1, h2] <;> omega
    · simp [h1, h2] <;> omega
  · simp [h1] <;> omega
set_option maxRecDepth 100000 in
set_option maxHeartbeats 4000000 in
theorem rcheck_any (rb : Nat) (tvv : Value) (P : List Int) (ov fv av zv : Value) (x : PlanD) (A S : List Int) (w : World) (hR : RT w rb tvv P) (hTr : Tree P)
    (ho : Rds opR w ov x.1) (hf : Rds intsR w fv x.2) (hF : fromLen x.2 ≤ 1048576) (ha : RdI w .i64 av A) (hz : RdI w .i64 zv S) :
    Calls Tryz.prog 25 #[.pointer (some ⟨rb, 0, none⟩), .agg #[ov, fv], av, zv] w fun e w' => e = .returned (.int .i64 (standE P x A S)) ∧ Kept [] w w' := by
  have HPC := Lib.hid (fun (W : World) (hk : Kept [] w W) => rplan_any ov fv x W (ho.keep hk) (hf.keep hk) hF)
  have HIS : Hid (∀ (W : World) (i : Int), Kept [] w W → Calls Tryz.prog 47 #[.pointer (some ⟨rb, 0, none⟩), .int .i64 i] W fun e w' => e = .returned (.bool (!outB P.length i)) ∧ W = w') := fun W i hk => by
    have := is_ref rb tvv P i W (hR.keep hk)
    rwa [inBb_outB] at this
  have HRT := Lib.hid (fun (W : World) (hk : Kept [] w W) => rroot_at rb tvv P W (hR.keep hk) hTr)
  obtain ⟨A1, c, rfl, hmA⟩ := ho.form
  have HA := Lib.hid ha
  have HZ := Lib.hid hz
  obtain ⟨AA, ac, rfl, hmAA, -⟩ := ha
  obtain ⟨ZA, zc, rfl, hmZ, -⟩ := hz
  obtain ⟨E, hEE⟩ : ∃ E, standE P x A S = E := ⟨_, rfl⟩
  rw [hEE]
  unfold standE srcBad atBad at hEE
  have HPN : Hid (planV x = true → 2 ≤ x.1.length ∧ x.1.length ≤ 32) := fun h => ⟨(plan_place h).1, (plan_place h).2.1⟩
  obtain ⟨pv, hpv⟩ : ∃ pv, planV x = pv := ⟨_, rfl⟩
  rw [hpv] at HPC HPN hEE
  obtain ⟨p, hpp⟩ : ∃ p, outB P.length = p := ⟨_, rfl⟩
  rw [hpp] at HIS hEE
  obtain ⟨rt, hrt⟩ : ∃ rt, rootV P = rt := ⟨_, rfl⟩
  rw [hrt] at HRT hEE
  obtain ⟨n, hn⟩ : ∃ n, x.1.length = n := ⟨_, rfl⟩
  obtain ⟨la, hla⟩ : ∃ la, A.length = la := ⟨_, rfl⟩
  obtain ⟨ls, hls⟩ : ∃ ls, S.length = ls := ⟨_, rfl⟩
  rw [hn] at hmA HPC HPN hEE ⊢
  rw [hla] at hmAA HA hEE ⊢
  rw [hls] at hmZ HZ hEE ⊢
  unfold maxLen at hmAA hmZ
  have HE := Lib.hid hEE.symm
  have HLA := Lib.hid hla
  have HLS := Lib.hid hls
  clear hn hla hls hpv hpp hrt hEE hF ho hf hR hTr
  have HK0 := Lib.hid ((Kept.refl [] w).alloc (.cells #[.slice A1 n c, fv] 26))
  have HB1 := Lib.hid (Blk.new w #[.slice A1 n c, fv] 26)
  go_enter Tryz.func25, Tryz.ntmps25
  go_wp2_with fail
  obtain ⟨w0, hw0⟩ : ∃ w0, w.alloc (.cells #[.slice A1 n c, fv] 26) = w0 := ⟨_, rfl⟩
  rw [hw0] at HK0 HB1 ⊢
  clear hw0
  have HBX : Hid (∀ W, Kept [] w0 W → W.cell? ⟨w.heap.size, 0, none⟩ = some (.slice A1 n c)) := fun W hW => ((HB1.out.kept hW (by simp)).cell 0).trans rfl
  refine (HPC.out _ HK0.out).mono ?_
  rintro e w1 ⟨rfl, k1⟩
  have HK1 := Lib.hid k1
  have HK01 := Lib.hid (HK0.out.trans k1)
  clear k1
  cases pv with
  | false =>
    rw [show errPlan false = 150 from rfl]
    have hE : Hid (E = 150) := by show _ = _; rw [HE.out]; simp [*]
    go_wp2_with fail
    go_ret
    exact ⟨by rw [hE.out] <;> rfl, HK01.out⟩
  | true =>
    rw [show errPlan true = 0 from rfl]
    obtain ⟨hn2, hn32⟩ := HPN.out rfl
    by_cases hs1 : ls < 1
    · have hs1' : decide ((ls : Int) < 1) = true := by simp; omega
      have hE : Hid (E = 1) := by show _ = _; rw [HE.out]; simp [*]
      go_wp2_with fail
      go_ret
      exact ⟨by rw [hE.out] <;> rfl, HK01.out⟩
    · have hs1' : decide ((ls : Int) < 1) = false := by simp; omega
      by_cases hs2 : 12 < ls
      · have hs2' : decide ((12 : Int) < ls) = true := by simp; omega
        have hE : Hid (E = 1) := by show _ = _; rw [HE.out]; simp [*]
        go_wp2_with fail
        go_ret
        exact ⟨by rw [hE.out] <;> rfl, HK01.out⟩
      · have hs2' : decide ((12 : Int) < ls) = false := by simp; omega
        go_wp2_with fail
        go_loopw [10] (fun jj wr => ∃ (j : Nat), j ≤ ls ∧ jj = .int .i64 j ∧ S.any p = (S.drop j).any p ∧ wr = w1) (fun jj _ => ls - (intOf jj).toNat)
        case atStart => exact ⟨0, by omega, rfl, rfl, rfl⟩
        case round =>
          obtain ⟨j, hj, rfl, hg, rfl⟩ := hrel
          have HGO := Lib.hid hg
          clear hg
          by_cases hlt : j < ls
          · obtain ⟨bz, oz, c', f, he, hy, hcf0⟩ := RdI.at HZ.out (i := j) (by rw [HLS.out]; exact hlt)
            injection he with he1 he2 he3
            subst he1 he3
            have hcf := HK01.out.cell (by simp) hcf0
            have HD := Lib.hid (drop_at hy)
            obtain ⟨q, hq⟩ : ∃ q, p f = q := ⟨_, rfl⟩
            have HC := Lib.hid (HIS.out wr f HK01.out)
            rw [hq] at HC
            have HQ := Lib.hid hq
            clear hy he2 hcf0 hq
            go_wp2_with fail
            refine HC.out.mono ?_
            rintro e w5 ⟨rfl, rfl⟩
            cases q with
            | true =>
              have hqs : Hid (S.any p = true) := by show _ = _; rw [HGO.out, HD.out, List.any_cons, HQ.out]; rfl
              have hE : Hid (E = 1) := by show _ = _; rw [HE.out, hqs.out]; simp
              rw [show (!true) = false from rfl]
              go_wp2_with fail
              go_ret
              exact ⟨by rw [hE.out] <;> rfl, HK01.out⟩
            | false =>
              have HGN : Hid (S.any p = (S.drop (j + 1)).any p) := by show _ = _; rw [HGO.out, HD.out, List.any_cons, HQ.out]; rfl
              rw [show (!false) = true from rfl]
              go_wp2_with fail
              go_roundw
              case rel => exact ⟨j + 1, by omega, by go_num, HGN.out, by first | trivial | rfl⟩
              case measure => simp [intOf]; omega
          · have HQS : Hid (S.any p = false) := by
              show _ = _
              rw [HGO.out, List.drop_eq_nil_of_le (by rw [HLS.out]; omega)]
              rfl
            have hp0 : ∀ s : SW (Kept [] w0), s.to.cell? ⟨w.heap.size, 0, none⟩ = some (.slice A1 n c) := fun s => HBX.out _ s.ok
            have hall : ∀ s : SW (Kept [] w0), Kept [] w0 s.to := fun s => s.ok
            by_cases h1 : la = n
            · subst h1
              have h1' : ((la : Int) != (la : Int)) = false := by simp
              obtain ⟨ba, oa, rfl, hca⟩ := last_at HA.out HLA.out (by omega)
              obtain ⟨z, hz⟩ : ∃ z, A.getD (la - 1) 0 = z := ⟨_, rfl⟩
              rw [hz] at hca HE
              have hal : ∀ s : SW (Kept [] w0), s.to.cell? ⟨ba, oa + (la - 1), none⟩ = some (.int .i64 z) := fun s => s.ok.cell (by simp) (HK0.out.cell (by simp) hca)
              have hla1 : 1 ≤ la := by omega
              clear hz
              cases hzr : (z == rt) with
              | true =>
                have hzn : (z != rt) = false := by unfold bne; rw [hzr]; rfl
                go_wp2_with fail
                refine wp_region_sw (Kept [] w0) (stays_kept w0) HK1.out (by kernel_rfl) (by kernel_rfl) (fun hne => ?_)
                repeat (go_big_quiet_step (first
                  | (go_at_call 27; exact SW.calls_same (HRT.out _ (HK0.out.trans (hall _))))))
                refine wpQuiet_nil ?_
                intro w3 hs3
                have HK03 := Lib.hid (HK0.out.trans hs3)
                have HK3 := Lib.hid hs3
                clear hs3
                clear hp0 hall hal
                go_wp2_with fail
                go_loopw [11] (fun jj wy => ∃ (j : Nat), j ≤ la ∧ jj = .int .i64 j ∧ A.any p = (A.drop j).any p ∧ wy = w3) (fun jj _ => la - (intOf jj).toNat)
                case atStart => exact ⟨0, by omega, rfl, rfl, rfl⟩
                case round =>
                  obtain ⟨i, hi, rfl, hg, rfl⟩ := hrel
                  have HGO2 := Lib.hid hg
                  clear hg
                  by_cases hlt2 : i < la
                  · obtain ⟨bz, oz, c', f, he, hy, hcf0⟩ := RdI.at HA.out (i := i) (by rw [HLA.out]; exact hlt2)
                    injection he with he1 he2 he3
                    injection he1 with he1
                    injection he1 with he4 he5
                    subst he4 he5 he3
                    have hcf := HK03.out.cell (by simp) hcf0
                    have HD := Lib.hid (drop_at hy)
                    obtain ⟨q, hq⟩ : ∃ q, p f = q := ⟨_, rfl⟩
                    have HC := Lib.hid (HIS.out _ f HK03.out)
                    rw [hq] at HC
                    have HQ := Lib.hid hq
                    clear hy he2 hcf0 hq
                    go_wp2_with fail
                    refine HC.out.mono ?_
                    rintro e w5 ⟨rfl, rfl⟩
                    cases q with
                    | true =>
                      have hqa : Hid (A.any p = true) := by show _ = _; rw [HGO2.out, HD.out, List.any_cons, HQ.out]; rfl
                      have hE : Hid (E = 190) := by show _ = _; rw [HE.out, HQS.out, hqa.out]; simp [*]
                      rw [show (!true) = false from rfl]
                      go_wp2_with fail
                      go_ret
                      exact ⟨by rw [hE.out] <;> rfl, HK03.out⟩
                    | false =>
                      have HGN : Hid (A.any p = (A.drop (i + 1)).any p) := by show _ = _; rw [HGO2.out, HD.out, List.any_cons, HQ.out]; rfl
                      rw [show (!false) = true from rfl]
                      go_wp2_with fail
                      go_roundw
                      case rel => exact ⟨i + 1, by omega, by go_num, HGN.out, by first | trivial | rfl⟩
                      case measure => simp [intOf]; omega
                  · have HQA : Hid (A.any p = false) := by
                      show _ = _
                      rw [HGO2.out, List.drop_eq_nil_of_le (by rw [HLA.out]; omega)]
                      rfl
                    have hE : Hid (E = 0) := by show _ = _; rw [HE.out, HQA.out, HQS.out]; simp [*]
                    go_wp2_with fail
                    go_ret
                    exact ⟨by rw [hE.out] <;> rfl, HK03.out⟩
              | false =>
                have hzn : (z != rt) = true := by unfold bne; rw [hzr]; rfl
                have hE : Hid (E = 190) := by show _ = _; rw [HE.out, HQS.out]; simp [*]
                go_wp2_with fail
                refine wp_region_sw (Kept [] w0) (stays_kept w0) HK1.out (by kernel_rfl) (by kernel_rfl) (fun hne => ?_)
                repeat (go_big_quiet_step (first
                  | (go_at_call 27; exact SW.calls_same (HRT.out _ (HK0.out.trans (hall _))))))
                refine wpQuiet_nil ?_
                intro w3 hs3
                have HK03 := Lib.hid (HK0.out.trans hs3)
                have HK3 := Lib.hid hs3
                clear hs3
                go_wp2_with fail
                go_ret
                exact ⟨by rw [hE.out] <;> rfl, HK03.out⟩
            · have h1' : ((la : Int) != (n : Int)) = true := by rw [bne_iff_ne]; omega
              have hE : Hid (E = 190) := by show _ = _; rw [HE.out, HQS.out]; simp [*]
              go_wp2_with fail
              refine wp_region_sw (Kept [] w0) (stays_kept w0) HK1.out (by kernel_rfl) (by kernel_rfl) (fun hne => ?_)
              repeat (go_big_quiet_step (first
                | (go_at_call 27; exact SW.calls_same (HRT.out _ (HK0.out.trans (hall _))))))
              refine wpQuiet_nil ?_
              intro w3 hs3
              have HK03 := Lib.hid (HK0.out.trans hs3)
              have HK3 := Lib.hid hs3
              clear hs3
              go_wp2_with fail
              go_ret
              exact ⟨by rw [hE.out] <;> rfl, HK03.out⟩

end Go.Proofs.YtbaifjdealmckaaGreat

/- All at the root: the program's and the document's. -/
set_option linter.unusedVariables false
set_option linter.unusedSimpArgs false
set_option linter.unnecessarySimpa false
namespace Go.Proofs.YtbaifjdealmckaaGreat
open Go.RowKit Go.Shelf Tr
attribute [local go_sem] Oper.semAt_some

theorem rds_nil {α : Type} (d : Rk α) (w : World) : Rds d w (.slice none 0 0) [] := ⟨none, 0, rfl, Nat.le_refl _, by unfold maxLen; omega, fun _ => ⟨rfl, rfl⟩, fun h => absurd rfl h⟩
theorem wf_in {n : Nat} {i : Int} (h : inB n i) (hn : n ≤ 16) : (Lit.int .i64 i).wf = true := by
  have hq : (n : Int) ≤ 16 := by omega
  show (decide (_ ≤ i) && decide (i ≤ _)) = true
  rw [Bool.and_eq_true, decide_eq_true_eq, decide_eq_true_eq]
  exact ⟨Int.le_trans (by decide) h.1, Int.le_trans (Int.le_of_lt h.2) (Int.le_trans hq (by decide))⟩
/-- A list and an error that the call hands back. -/
def TwoPost (w : World) (E : Int) (l : List Int) : Ending → World → Prop := fun e w' => ∃ v, e = .returned (.tuple #[v, .int .i64 E]) ∧ Rds (Rk.int .i64) w' v l ∧ Kept [] w w'
theorem rootsV_wf {P : List Int} (hT : Tree P) (x : PlanD) : ∀ y ∈ rootsV P x, (Lit.int .i64 y).wf = true := fun y hy => by
  rw [List.eq_of_mem_replicate hy]
  exact wf_in (rootV_in hT) hT.le

theorem cell0_atq {w : World} {b : Nat} {x : Value} {t : TypeId} (hb : b = w.heap.size) : (w.alloc (.cells #[x] t)).cell? ⟨b, 0, none⟩ = some x := by subst hb; exact (Blk.new w #[x] t).cell 0
theorem cell_drewq {w : World} {a : Addr} {v : Option Value} (h : w.cell? a = v) : w.drew.cell? a = v := h
theorem cell_drewNq {w : World} {a : Addr} {v : Option Value} {n : Nat} (h : w.cell? a = v) : (w.drewN n).cell? a = v := h

theorem atroot_nil (xo xf : Value) (w : World) : Calls Tryz.prog 29 #[.pointer none, .agg #[xo, xf]] w (TwoPost w 2 []) := by
  have HK := Lib.hid ((Kept.refl [] w).alloc (.cells #[xo, xf] 26))
  go_enter Tryz.func29, Tryz.ntmps29
  go_wp2_with fail
  refine (len_nil _).mono ?_
  rintro e w' ⟨rfl, rfl⟩
  go_wp2_with fail
  go_ret2
  exact ⟨_, rfl, rds_nil _ _, HK.out⟩

set_option maxRecDepth 100000 in
set_option maxHeartbeats 2000000 in
theorem atroot_any (b : Nat) (P : List Int) (ov fv : Value) (x : PlanD) (w : World) (hT : TreeAt w b P) (hTr : Tree P) (ho : Rds opR w ov x.1) (hf : Rds intsR w fv x.2) (hF : fromLen x.2 ≤ 1048576) :
    Calls Tryz.prog 29 #[.pointer (some ⟨b, 0, none⟩), .agg #[ov, fv]] w (TwoPost w (errPlan (planV x)) (if planV x then rootsV P x else [])) := by
  have HPC := Lib.hid (fun (W : World) (hk : Kept [] w W) => plancheck_any ov fv x W (ho.keep hk) (hf.keep hk) hF)
  have HLC := Lib.hid (fun (W : World) (hk : Kept [] w W) => len_some b P.length _ W (hT.keep hk))
  have HRT := Lib.hid (fun (W : World) (hk : Kept [] w W) => root_at b P W (hT.keep hk) hTr)
  have hnp1 := hTr.pos
  have HWF := Lib.hid (rootsV_wf hTr x)
  unfold rootsV at HWF ⊢
  have HPN : Hid (planV x = true → 1 ≤ x.1.length ∧ x.1.length ≤ 32) := fun h => ⟨by have := (plan_place h).1; omega, (plan_place h).2.1⟩
  obtain ⟨A1, c, rfl, hmA⟩ := ho.form
  obtain ⟨pv, hpv⟩ : ∃ pv, planV x = pv := ⟨_, rfl⟩
  rw [hpv] at HPC HPN ⊢
  obtain ⟨rt, hrt⟩ : ∃ rt, rootV P = rt := ⟨_, rfl⟩
  rw [hrt] at HRT HWF ⊢
  obtain ⟨n, hn⟩ : ∃ n, x.1.length = n := ⟨_, rfl⟩
  obtain ⟨np, hnp⟩ : ∃ np, P.length = np := ⟨_, rfl⟩
  rw [hn] at hmA HPC HPN HWF ⊢
  rw [hnp] at HLC hnp1
  obtain ⟨R, hR⟩ : ∃ R, (if pv then List.replicate n rt else []) = R := ⟨_, rfl⟩
  rw [hR]
  have HR := Lib.hid hR.symm
  clear hR
  have hk0 : ((np : Int) == 0) = false := by simp; omega
  have HREP : Hid (∀ (z : Int) (q : Nat), 1 ≤ q → q ≤ 32 → ∀ (W : World) (b : Nat), W.cell? ⟨b, 0, none⟩ = some (.int .i64 z) → Calls Tryz.prog 50 #[.slice (some ⟨b, 0, none⟩) 1 1, .int .i64 q] W (IntsPost8 W (List.replicate q z))) := fun z q h1 h2 W b hb => repeati_any z b q W h1 h2 hb (cell_lt hb)
  clear hn hnp hpv hrt hF ho hf hT hTr
  have HK0 := Lib.hid ((Kept.refl [] w).alloc (.cells #[.slice A1 n c, fv] 26))
  have HB1 := Lib.hid (Blk.new w #[.slice A1 n c, fv] 26)
  go_enter Tryz.func29, Tryz.ntmps29
  go_wp2_with fail
  obtain ⟨w0, hw0⟩ : ∃ w0, w.alloc (.cells #[.slice A1 n c, fv] 26) = w0 := ⟨_, rfl⟩
  rw [hw0] at HK0 HB1 ⊢
  clear hw0
  have HBX : Hid (∀ W, Kept [] w0 W → W.cell? ⟨w.heap.size, 0, none⟩ = some (.slice A1 n c)) := fun W hW => ((HB1.out.kept hW (by simp)).cell 0).trans rfl
  refine (HLC.out _ HK0.out).mono ?_
  rintro e w' ⟨rfl, rfl⟩
  have x0 := HBX.out _ (Kept.refl [] w0)
  have x1 : w0.cell? ⟨w.heap.size, 1, none⟩ = some fv := (HB1.out.cell 1).trans rfl
  go_wp2_with fail
  refine (HPC.out _ HK0.out).mono ?_
  rintro e w1 ⟨rfl, k1⟩
  have HK1 := Lib.hid k1
  have HK01 := Lib.hid (HK0.out.trans k1)
  clear k1 x0 x1
  cases pv with
  | false =>
    rw [show errPlan false = 150 from rfl]
    have hR : Hid (R = []) := HR.out
    go_wp2_with fail
    go_ret2
    exact ⟨_, rfl, by rw [hR.out]; exact rds_nil _ _, HK01.out⟩
  | true =>
    rw [show errPlan true = 0 from rfl]
    obtain ⟨hn1, hn32⟩ := HPN.out rfl
    have hR : Hid (R = List.replicate n rt) := HR.out
    go_wp2_with fail
    go_region_held3 (fun w' => w'.cell? ⟨w.heap.size, 0, none⟩ = some (.slice A1 n c)) (first | exact HBX.out _ (HK1.out.trans (by (repeat (first | exact Kept.refl _ _ | assumption | refine Kept.drewN ?_ _ | refine Kept.drew ?_ | refine Kept.alloc ?_ _)))) | exact HBX.out _ (HK1.out.trans hk4) | exact HBX.out _ (HK1.out.trans (hk4.drewN _))) (first
      | (go_at_call 22; refine (HRT.out _ (HK01.out.trans (by (repeat (first | exact Kept.refl _ _ | assumption | refine Kept.drewN ?_ _ | refine Kept.drew ?_ | refine Kept.alloc ?_ _))))).mono ?_; rintro e w3 ⟨rfl, rfl⟩)
      | (go_at_call 50; refine (HREP.out _ n hn1 hn32 _ _ (by (repeat (first | exact cell0_atq (by first | rfl | (simp; done)) | refine cell_drewq ?_ | refine cell_drewNq ?_)))).mono ?_; rintro e w4 ⟨v4, rfl, o4, k4⟩; rw [List.length_replicate] at o4; obtain ⟨g4, c4, rfl, hc41, hc42⟩ := own_some o4 hn1; have hk4 : Kept [] w1 w4 := Kept.trans (by (repeat (first | exact Kept.refl _ _ | assumption | refine Kept.drewN ?_ _ | refine Kept.drew ?_ | refine Kept.alloc ?_ _))) k4))
    all_goals
      have HO4 := Lib.hid (rds_own o4 (by rw [List.length_replicate]) HWF.out)
      have HK4 := Lib.hid (HK01.out.trans hk4)
      clear o4 k4 hk4
      go_wp2_with fail
      go_ret2
      exact ⟨_, rfl, by rw [hR.out]; exact HO4.out, HK4.out⟩

set_option maxRecDepth 100000 in
set_option maxHeartbeats 2000000 in
theorem ratroot_any (rb : Nat) (tvv : Value) (P : List Int) (ov fv : Value) (x : PlanD) (w : World) (hR : RT w rb tvv P) (hTr : Tree P) (ho : Rds opR w ov x.1) (hf : Rds intsR w fv x.2) (hF : fromLen x.2 ≤ 1048576) :
    Calls Tryz.prog 30 #[.pointer (some ⟨rb, 0, none⟩), .agg #[ov, fv]] w (TwoPost w (errPlan (planV x)) (if planV x then rootsV P x else [])) := by
  obtain ⟨i0, hi0, hz0, hz1, hz2⟩ := info_parts infoInt
  have HPC := Lib.hid (fun (W : World) (hk : Kept [] w W) => rplan_any ov fv x W (ho.keep hk) (hf.keep hk) hF)
  have HRT := Lib.hid (fun (W : World) (hk : Kept [] w W) => rroot_at rb tvv P W (hR.keep hk) hTr)
  have HWF := Lib.hid (rootsV_wf hTr x)
  unfold rootsV at HWF ⊢
  have HPN : Hid (planV x = true → 1 ≤ x.1.length ∧ x.1.length ≤ 32) := fun h => ⟨by have := (plan_place h).1; omega, (plan_place h).2.1⟩
  obtain ⟨A1, c, rfl, hmA⟩ := ho.form
  obtain ⟨pv, hpv⟩ : ∃ pv, planV x = pv := ⟨_, rfl⟩
  rw [hpv] at HPC HPN ⊢
  obtain ⟨rt, hrt⟩ : ∃ rt, rootV P = rt := ⟨_, rfl⟩
  rw [hrt] at HRT HWF ⊢
  obtain ⟨n, hn⟩ : ∃ n, x.1.length = n := ⟨_, rfl⟩
  rw [hn] at hmA HPC HPN HWF ⊢
  clear hR
  obtain ⟨R, hR⟩ : ∃ R, (if pv then List.replicate n rt else []) = R := ⟨_, rfl⟩
  rw [hR]
  have HR := Lib.hid hR.symm
  clear hn hpv hrt hF ho hf hR hTr
  have HK0 := Lib.hid ((Kept.refl [] w).alloc (.cells #[.slice A1 n c, fv] 26))
  have HB1 := Lib.hid (Blk.new w #[.slice A1 n c, fv] 26)
  go_enter Tryz.func30, Tryz.ntmps30
  go_wp2_with fail
  obtain ⟨w0, hw0⟩ : ∃ w0, w.alloc (.cells #[.slice A1 n c, fv] 26) = w0 := ⟨_, rfl⟩
  rw [hw0] at HK0 HB1 ⊢
  clear hw0
  refine (HPC.out _ HK0.out).mono ?_
  rintro e w1 ⟨rfl, k1⟩
  have HK1 := Lib.hid k1
  have HK01 := Lib.hid (HK0.out.trans k1)
  have HBX : Hid (∀ W, Kept [] w1 W → W.cell? ⟨w.heap.size, 0, none⟩ = some (.slice A1 n c)) := fun W hW => ((HB1.out.kept (HK1.out.trans hW) (by simp)).cell 0).trans rfl
  clear k1
  cases pv with
  | false =>
    rw [show errPlan false = 150 from rfl]
    have hR : Hid (R = []) := HR.out
    go_wp2_with fail
    go_ret2
    exact ⟨_, rfl, by rw [hR.out]; exact rds_nil _ _, HK01.out⟩
  | true =>
    rw [show errPlan true = 0 from rfl]
    obtain ⟨hn1, hn32⟩ := HPN.out rfl
    have hR : Hid (R = List.replicate n rt) := HR.out
    go_wp2_with fail
    go_loopw [7, 8] (fun o jj wr => ∃ (j : Nat), j ≤ n ∧ jj = .int .i64 j ∧ wr.ownsRow w1.heap.size 3 1 o j ((List.replicate j rt).map (.int .i64)) ∧ Kept [] w1 wr) (fun _ jj _ => n - (intOf jj).toNat)
    case atStart => exact ⟨0, by omega, rfl, World.ownsRow_nil _ _ _ _, Kept.refl _ _⟩
    case round =>
      obtain ⟨j, hj, rfl, hown, hK⟩ := hrel
      obtain ⟨BA, cc, rfl⟩ := own_len hown
      have HOWN := Lib.hid hown
      have HK := Lib.hid hK
      have hszr := hK.size
      have hp0 := HBX.out _ hK
      clear hown hK
      by_cases hlt : j < n
      · go_wp2_with (first | (go_at_call 27; refine (HRT.out _ (HK01.out.trans HK.out)).mono ?_; rintro e w' ⟨rfl, rfl⟩) | (at_builtin; refine wpList_append_own_at _ rfl _ _ 22 rfl w1.heap.size 3 i0 (.int .i64 0) 1 8 Tryz.underlying22 hi0 hz0 hz1 hz2 rfl (by decide) _ j _ rfl (HOWN.out.alloc _) ⟨wr.heap.size, 0, none⟩ 1 1 [.int .i64 rt] rfl rfl (cell_one_at _ _ _ _ rfl) (by simp [Value.oneCell']) (by unfold maxLen; omega) (by omega) (by simp; omega) ?_))
        intro v7 w7 hown7 hgrow7 _ hat7
        have HK7 : Hid (Kept [] w1 w7) := (HK.out.alloc _).grown hgrow7 (fun y hy => .inr (HOWN.out.lt y hy).1)
        have HOWN7 := Lib.hid hown7
        clear hown7 hgrow7 hat7
        go_wp2_with fail
        go_roundw
        case rel => exact ⟨j + 1, by omega, by go_num, by have h7 := HOWN7.out; rw [List.map_replicate, List.replicate_succ']; exact h7, HK7.out⟩
        case measure => simp [intOf]; omega
      · have hjm : j = n := by omega
        subst hjm
        have HO4 := Lib.hid (rds_own HOWN.out (by rw [List.length_replicate]) HWF.out)
        go_wp2_with fail
        go_ret2
        exact ⟨_, rfl, by rw [hR.out]; exact HO4.out, HK01.out.trans HK.out⟩

end Go.Proofs.YtbaifjdealmckaaGreat

/- Where an operator costs least: the program's look and Least. -/
set_option linter.unusedVariables false
set_option linter.unusedSimpArgs false
set_option linter.unnecessarySimpa false
namespace Go.Proofs.YtbaifjdealmckaaGreat
open Go.RowKit Go.Shelf Tr
attribute [local go_sem] Oper.semAt_some

/-- What a call is handed: a plan, rates. -/
structure Pr (w : World) (ov fv sv tv pv : Value) (x : PlanD) (r : RatesD) : Prop where
  o : Rds opR w ov x.1
  f : Rds intsR w fv x.2
  F : fromLen x.2 ≤ 1048576
  s : RdI w .i64 sv r.1
  t : RdI w .i64 tv r.2.1
  p : RdI w .i64 pv r.2.2
theorem Pr.keep {w w' : World} {ov fv sv tv pv : Value} {x : PlanD} {r : RatesD} (h : Pr w ov fv sv tv pv x r) (k : Kept [] w w') : Pr w' ov fv sv tv pv x r :=
  ⟨h.o.keep k, h.f.keep k, h.F, h.s.keep k, h.t.keep k, h.p.keep k⟩
/-- The plan and the rates in their boxes. -/
def Bx (w : World) (B : Nat) (xo xf rs rt rp : Value) : Prop := Blk w B #[xo, xf] 26 ∧ Blk w (B + 1) #[rs, rt, rp] 29
theorem Bx.new (w : World) (xo xf rs rt rp : Value) : Bx ((w.alloc (.cells #[xo, xf] 26)).alloc (.cells #[rs, rt, rp] 29)) w.heap.size xo xf rs rt rp := by
  refine ⟨(Blk.new w _ _).alloc _, ?_⟩
  have := Blk.new (w.alloc (.cells #[xo, xf] 26)) #[rs, rt, rp] 29
  rwa [show (w.alloc (.cells #[xo, xf] 26)).heap.size = w.heap.size + 1 by simp] at this
theorem Bx.kept {S : List Nat} {w w' : World} {B : Nat} {xo xf rs rt rp : Value} (h : Bx w B xo xf rs rt rp) (k : Kept S w w') (h1 : B ∉ S) (h2 : B + 1 ∉ S) : Bx w' B xo xf rs rt rp := ⟨h.1.kept k h1, h.2.kept k h2⟩
theorem Bx.keep {w w' : World} {B : Nat} {xo xf rs rt rp : Value} (h : Bx w B xo xf rs rt rp) (k : Kept [] w w') : Bx w' B xo xf rs rt rp := h.kept k (by simp) (by simp)
theorem Bx.cs {w : World} {B : Nat} {xo xf rs rt rp : Value} (h : Bx w B xo xf rs rt rp) : w.cell? ⟨B, 0, none⟩ = some xo ∧ w.cell? ⟨B, 1, none⟩ = some xf ∧ w.cell? ⟨B + 1, 0, none⟩ = some rs ∧ w.cell? ⟨B + 1, 1, none⟩ = some rt ∧ w.cell? ⟨B + 1, 2, none⟩ = some rp :=
  ⟨(h.1.cell 0).trans rfl, (h.1.cell 1).trans rfl, (h.2.cell 0).trans rfl, (h.2.cell 1).trans rfl, (h.2.cell 2).trans rfl⟩
theorem Bx.lt {w : World} {B : Nat} {xo xf rs rt rp : Value} (h : Bx w B xo xf rs rt rp) : B + 1 < w.heap.size := h.2.lt

set_option maxRecDepth 100000 in
set_option maxHeartbeats 2000000 in
theorem look_any (b : Nat) (P : List Int) (ov fv sv tv pv av zv : Value) (x : PlanD) (r : RatesD) (A S : List Int) (op : Int) (w : World) (hT : TreeAt w b P) (hTr : Tree P) (hpr : Pr w ov fv sv tv pv x r)
    (har : Rds (Rk.int .i64) w av A) (hzr : Rds (Rk.int .i64) w zv S) :
    Calls Tryz.prog 21 #[.pointer (some ⟨b, 0, none⟩), .agg #[ov, fv], .agg #[sv, tv, pv], av, .int .i64 op, zv] w fun e w' => e = .returned (.int .i64 (lookE P x r A S op)) ∧ Kept [] w w' := by
  have HC := Lib.hid (fun (W : World) (hk : Kept [] w W) => check_any b P ov fv av zv x A S W (hT.keep hk) hTr (hpr.keep hk).o (hpr.keep hk).f hpr.F (har.keep hk) (hzr.keep hk))
  have HCC := Lib.hid (fun (W : World) (hk : Kept [] w W) => costcheck_any ov fv sv tv pv x r W (hpr.keep hk).o (hpr.keep hk).f hpr.F (hpr.keep hk).s (hpr.keep hk).t (hpr.keep hk).p)
  obtain ⟨A1, c, rfl, hmA⟩ := hpr.o.form
  obtain ⟨SA, sc, rfl, hmS, -⟩ := hpr.s
  obtain ⟨ZA, zc, rfl, hmZ⟩ := hzr.form
  obtain ⟨E, hEE⟩ : ∃ E, lookE P x r A S op = E := ⟨_, rfl⟩
  rw [hEE]
  unfold lookE at hEE
  obtain ⟨es, hes⟩ : ∃ es, standE P x A S = es := ⟨_, rfl⟩
  rw [hes] at HC hEE
  obtain ⟨ec, hec⟩ : ∃ ec, checkE x r = ec := ⟨_, rfl⟩
  rw [hec] at HCC hEE
  obtain ⟨n, hn⟩ : ∃ n, x.1.length = n := ⟨_, rfl⟩
  obtain ⟨ns, hns⟩ : ∃ ns, r.1.length = ns := ⟨_, rfl⟩
  obtain ⟨ls, hls⟩ : ∃ ls, S.length = ls := ⟨_, rfl⟩
  rw [hn] at hmA HC HCC hEE ⊢
  rw [hns] at hmS HCC hEE ⊢
  rw [hls] at hmZ HC hEE ⊢
  have HE := Lib.hid hEE.symm
  have HK0 := Lib.hid (((Kept.refl [] w).alloc (.cells #[.slice A1 n c, fv] 26)).alloc (.cells #[.slice SA ns sc, tv, pv] 29))
  have HBX := Lib.hid (Bx.new w (.slice A1 n c) fv (.slice SA ns sc) tv pv)
  clear hn hns hls hes hec hEE hpr har hzr hT hTr
  go_enter Tryz.func21, Tryz.ntmps21
  go_wp2_with fail
  obtain ⟨w0, hw0⟩ : ∃ w0, (w.alloc (.cells #[.slice A1 n c, fv] 26)).alloc (.cells #[.slice SA ns sc, tv, pv] 29) = w0 := ⟨_, rfl⟩
  rw [hw0] at HK0 HBX ⊢
  clear hw0
  obtain ⟨x0, x1, r0, r1, r2⟩ := HBX.out.cs
  refine (HC.out _ HK0.out).mono ?_
  rintro e w1 ⟨rfl, k1⟩
  have HK1 := Lib.hid k1
  clear k1
  clear x0 x1 r0 r1 r2
  obtain ⟨x0, x1, r0, r1, r2⟩ := (HBX.out.keep HK1.out).cs
  by_cases h1 : es = 0
  · subst h1
    rw [if_pos rfl] at HE
    go_wp2_with fail
    refine (HCC.out _ (HK0.out.trans HK1.out)).mono ?_
    rintro e w2 ⟨rfl, k2⟩
    have HK2 := Lib.hid (HK1.out.trans k2)
    clear k2
    clear x0 x1 r0 r1 r2
    obtain ⟨x0, x1, r0, r1, r2⟩ := (HBX.out.keep HK2.out).cs
    by_cases h2 : ec = 0
    · subst h2
      rw [if_pos rfl] at HE
      by_cases h3 : ns = ls
      · subst h3
        have h3' : ((ns : Int) != (ns : Int)) = false := by simp
        by_cases h4 : op < 0
        · have h4' : decide (op < 0) = true := by simp; omega
          have hE : Hid (E = 1) := by show _ = _; rw [HE.out, if_neg]; simp; omega
          go_wp2_with fail
          go_ret
          exact ⟨by rw [hE.out] <;> rfl, HK0.out.trans HK2.out⟩
        · have h4' : decide (op < 0) = false := by simp; omega
          by_cases h5 : (n : Int) ≤ op
          · have hE : Hid (E = 1) := by show _ = _; rw [HE.out, if_neg]; simp; omega
            go_wp2_with fail
            go_ret
            exact ⟨by rw [hE.out] <;> rfl, HK0.out.trans HK2.out⟩
          · have hE : Hid (E = 0) := by show _ = _; rw [HE.out, if_pos]; simp; omega
            go_wp2_with fail
            go_ret
            exact ⟨by rw [hE.out] <;> rfl, HK0.out.trans HK2.out⟩
      · have h3' : ((ns : Int) != (ls : Int)) = true := by rw [bne_iff_ne]; omega
        have hE : Hid (E = 1) := by show _ = _; rw [HE.out, if_neg]; simp [h3]
        go_wp2_with fail
        go_ret
        exact ⟨by rw [hE.out] <;> rfl, HK0.out.trans HK2.out⟩
    · have h2' : (ec != 0) = true := by rw [bne_iff_ne]; exact h2
      have hE : Hid (E = ec) := by show _ = _; rw [HE.out, if_neg h2]
      go_wp2_with fail
      go_ret
      exact ⟨by rw [hE.out] <;> rfl, HK0.out.trans HK2.out⟩
  · have h1' : (es != 0) = true := by rw [bne_iff_ne]; exact h1
    have hE : Hid (E = es) := by show _ = _; rw [HE.out, if_neg h1]
    go_wp2_with fail
    go_ret
    exact ⟨by rw [hE.out] <;> rfl, HK0.out.trans HK1.out⟩

/-- The best of the first j, and its cost. -/
def bst (f : Nat → Int) (j : Nat) : Nat := if j = 0 then 0 else bestG f (j - 1)
def lst (f : Nat → Int) (j : Nat) : Int := if j = 0 then 0 else f (bst f j)
theorem bst_one (f : Nat → Int) : bst f (0 + 1) = 0 ∧ lst f (0 + 1) = f 0 := ⟨rfl, rfl⟩
theorem bst_less (f : Nat → Int) {j : Nat} (hj : 1 ≤ j) (h : f j < lst f j) : bst f (j + 1) = j ∧ lst f (j + 1) = f j := by
  have e : bst f (j + 1) = j := by
    unfold lst bst at h
    rw [if_neg (by omega), if_neg (by omega)] at h
    unfold bst
    rw [if_neg (by omega), show j + 1 - 1 = (j - 1) + 1 by omega, bestG, if_pos (by rw [show j - 1 + 1 = j by omega]; exact h)]
    omega
  refine ⟨e, ?_⟩
  unfold lst
  rw [if_neg (by omega), e]
theorem bst_more (f : Nat → Int) {j : Nat} (hj : 1 ≤ j) (h : ¬ f j < lst f j) : bst f (j + 1) = bst f j ∧ lst f (j + 1) = lst f j := by
  have e : bst f (j + 1) = bst f j := by
    unfold lst bst at h
    rw [if_neg (by omega), if_neg (by omega)] at h
    unfold bst
    rw [if_neg (by omega), if_neg (by omega), show j + 1 - 1 = (j - 1) + 1 by omega, bestG, if_neg (by rw [show j - 1 + 1 = j by omega]; exact h)]
  refine ⟨e, ?_⟩
  unfold lst
  rw [if_neg (by omega), if_neg (by omega), e]
theorem bst_bd (f : Nat → Int) (j : Nat) : bst f j ≤ j := by
  unfold bst
  split
  · omega
  · have := bestG_le f (j - 1); omega

set_option maxRecDepth 100000 in
set_option maxHeartbeats 2000000 in
theorem least_any (b : Nat) (P : List Int) (ov fv sv tv pv av zv : Value) (x : PlanD) (r : RatesD) (A S : List Int) (op : Int) (w : World) (hT : TreeAt w b P) (hTr : Tree P) (hpr : Pr w ov fv sv tv pv x r)
    (har : Rds (Rk.int .i64) w av A) (hzr : Rds (Rk.int .i64) w zv S) :
    Calls Tryz.prog 7 #[.pointer (some ⟨b, 0, none⟩), .agg #[ov, fv], .agg #[sv, tv, pv], av, .int .i64 op, zv] w fun e w' => e = .returned (.tuple #[.int .i64 (leastV P x r A S op), .int .i64 (lookE P x r A S op)]) ∧ Kept [] w w' := by
  have HC := Lib.hid (fun (W : World) (hk : Kept [] w W) => look_any b P ov fv sv tv pv av zv x r A S op W (hT.keep hk) hTr (hpr.keep hk) (har.keep hk) (hzr.keep hk))
  have HLC := Lib.hid (fun (W : World) (hk : Kept [] w W) => len_some b P.length _ W (hT.keep hk))
  have HRT := Lib.hid (fun (W : World) (hk : Kept [] w W) => root_at b P W (hT.keep hk) hTr)
  have hnp1 := hTr.pos
  have hnp16 := hTr.le
  have HGD : Hid (lookE P x r A S op = 0 → 0 ≤ op ∧ op < x.1.length ∧ 2 ≤ x.1.length ∧ x.1.length ≤ 32) := fun h => ⟨(lookE_zero h).2.1, (lookE_zero h).2.2, (lookE_zero h).1.facts.1, (lookE_zero h).1.facts.2.1⟩
  have HPT : Hid (lookE P x r A S op = 0 → ∀ (W : World), Kept [] w W → ∀ j : Nat, j < P.length → Calls Tryz.prog 24 #[.pointer (some ⟨b, 0, none⟩), .agg #[ov, fv], .agg #[sv, tv, pv], av, .int .i64 op, .int .i64 j, zv] W fun e w' => e = .returned (.tuple #[.int .i64 (partV P x r A S op (j : Int)), .int .i64 0]) ∧ Kept [] W w') := fun h W hk j hj => by
    obtain ⟨hG, h0, h1⟩ := lookE_zero h
    obtain ⟨k, rfl⟩ := Int.eq_ofNat_of_zero_le h0
    have hin : inB P.length (j : Int) := by unfold inB; omega
    have h2 := hpr.keep hk
    have := part_any b P ov fv sv tv pv av zv x r A S k j W (hT.keep hk) hTr h2.o h2.f h2.F h2.s h2.t h2.p (har.keep hk).ints (har.keep hk) (hzr.keep hk).ints (hzr.keep hk) (wf_in hin hTr.le)
    rwa [hG.part (by omega) hin] at this
  obtain ⟨A1, c, rfl, hmA⟩ := hpr.o.form
  obtain ⟨V, hV⟩ : ∃ V, leastV P x r A S op = V := ⟨_, rfl⟩
  rw [hV]
  unfold leastV lsV at hV
  obtain ⟨E, hEE⟩ : ∃ E, lookE P x r A S op = E := ⟨_, rfl⟩
  rw [hEE] at HC HGD HPT hV ⊢
  obtain ⟨rt, hrt⟩ : ∃ rt, rootV P = rt := ⟨_, rfl⟩
  rw [hrt] at HRT hV
  obtain ⟨n, hn⟩ : ∃ n, x.1.length = n := ⟨_, rfl⟩
  obtain ⟨np, hnp⟩ : ∃ np, P.length = np := ⟨_, rfl⟩
  rw [hn] at hmA HC HGD HPT hV ⊢
  rw [hnp] at HLC HPT hV hnp1 hnp16
  have HV := Lib.hid hV.symm
  clear hn hnp hrt hEE hV har hzr hT hTr
  have HK0 := Lib.hid (((Kept.refl [] w).alloc (.cells #[.slice A1 n c, fv] 26)).alloc (.cells #[sv, tv, pv] 29))
  have HBX := Lib.hid (Bx.new w (.slice A1 n c) fv sv tv pv)
  clear hpr
  go_enter Tryz.func7, Tryz.ntmps7
  go_wp2_with fail
  obtain ⟨w0, hw0⟩ : ∃ w0, (w.alloc (.cells #[.slice A1 n c, fv] 26)).alloc (.cells #[sv, tv, pv] 29) = w0 := ⟨_, rfl⟩
  rw [hw0] at HK0 HBX ⊢
  clear hw0
  obtain ⟨x0, x1, r0, r1, r2⟩ := HBX.out.cs
  refine (HC.out _ HK0.out).mono ?_
  rintro e w1 ⟨rfl, k1⟩
  have HK1 := Lib.hid k1
  clear k1
  clear x0 x1 r0 r1 r2
  obtain ⟨x0, x1, r0, r1, r2⟩ := (HBX.out.keep HK1.out).cs
  by_cases h1 : E = 0
  · subst h1
    rw [if_pos rfl] at HV
    obtain ⟨hop0, hopn, hn2, hn32⟩ := HGD.out rfl
    obtain ⟨k, rfl⟩ := Int.eq_ofNat_of_zero_le hop0
    rw [Int.toNat_natCast] at HV
    by_cases h2 : k + 1 = n
    · have hV : Hid (V = rt) := by show _ = _; rw [HV.out, if_pos h2]
      have h2' : ((k : Int) == (n : Int) - 1) = true := by rw [beq_iff_eq]; omega
      go_wp2_with fail
      refine (HRT.out _ (HK0.out.trans HK1.out)).mono ?_
      rintro e w2 ⟨rfl, rfl⟩
      go_wp2_with fail
      go_ret2
      exact ⟨by rw [hV.out] <;> rfl, HK0.out.trans HK1.out⟩
    · have h2' : ((k : Int) == (n : Int) - 1) = false := by rw [beq_eq_false_iff_ne]; omega
      rw [if_neg h2] at HV
      have HP := Lib.hid (HPT.out rfl)
      obtain ⟨f, hf⟩ : ∃ f : Nat → Int, (fun b : Nat => partV P x r A S (k : Int) (b : Int)) = f := ⟨_, rfl⟩
      rw [hf] at HV
      have HP2 : Hid (∀ (W : World), Kept [] w W → ∀ j : Nat, j < np → Calls Tryz.prog 24 #[.pointer (some ⟨b, 0, none⟩), .agg #[.slice A1 n c, fv], .agg #[sv, tv, pv], av, .int .i64 k, .int .i64 j, zv] W fun e w' => e = .returned (.tuple #[.int .i64 (f j), .int .i64 0]) ∧ Kept [] W w') := fun W hk j hj => by
        have := HP.out W hk j hj
        rw [← hf]
        exact this
      clear hf HP HPT
      go_wp2_with fail
      refine (HLC.out _ (HK0.out.trans HK1.out)).mono ?_
      rintro e w2 ⟨rfl, rfl⟩
      clear x0 x1 r0 r1 r2
      go_wp2_with fail
      go_loopw [15, 16, 40] (fun be le ii wr => ∃ (j : Nat), j ≤ np ∧ ii = .int .i64 j ∧ be = .int .i64 (bst f j : Nat) ∧ le = .int .i64 (lst f j) ∧ Kept [] w0 wr) (fun _ _ ii _ => np - (intOf ii).toNat)
      case atStart => exact ⟨0, by omega, rfl, rfl, rfl, HK1.out⟩
      case round =>
        obtain ⟨j, hj, rfl, rfl, rfl, hK⟩ := hrel
        have HK := Lib.hid hK
        clear hK
        by_cases hlt : j < np
        · obtain ⟨x0, x1, r0, r1, r2⟩ := (HBX.out.keep HK.out).cs
          go_wp2_with fail
          refine (HP2.out _ (HK0.out.trans HK.out) j hlt).mono ?_
          rintro e w7 ⟨rfl, k7⟩
          have HK7 := Lib.hid (HK.out.trans k7)
          clear k7 x0 x1 r0 r1 r2
          by_cases hj0 : j = 0
          · subst hj0
            have HS := Lib.hid (bst_one f)
            have hq : (((0 : Nat) : Int) == 0) = true := rfl
            go_wp2_with fail
            go_roundw
            case rel => exact ⟨0 + 1, by omega, by go_num, by rw [HS.out.1]; rfl, by rw [HS.out.2], HK7.out⟩
            case measure => simp [intOf]; omega
          · have hq : ((j : Int) == 0) = false := by rw [beq_eq_false_iff_ne]; omega
            obtain ⟨q, hqq⟩ : ∃ q, f j = q := ⟨_, rfl⟩
            obtain ⟨z, hz⟩ : ∃ z, lst f j = z := ⟨_, rfl⟩
            rw [hqq, hz]
            by_cases hl : q < z
            · have HS : Hid (bst f (j + 1) = j ∧ lst f (j + 1) = q) := by
                have := bst_less f (show 1 ≤ j by omega) (by rw [hqq, hz]; exact hl)
                rwa [hqq] at this
              clear hqq hz
              have hl' : decide (q < z) = true := decide_eq_true hl
              go_wp2_with fail
              go_roundw
              case rel => exact ⟨j + 1, by omega, by go_num, by rw [HS.out.1], by rw [HS.out.2], HK7.out⟩
              case measure => simp [intOf]; omega
            · have HS : Hid (bst f (j + 1) = bst f j ∧ lst f (j + 1) = z) := by
                have := bst_more f (show 1 ≤ j by omega) (by rw [hqq, hz]; exact hl)
                rwa [hz] at this
              clear hqq hz
              have hl' : decide (q < z) = false := decide_eq_false hl
              go_wp2_with fail
              go_roundw
              case rel => exact ⟨j + 1, by omega, by go_num, by rw [HS.out.1], by rw [HS.out.2], HK7.out⟩
              case measure => simp [intOf]; omega
        · have hjn : j = np := by omega
          subst hjn
          have hV : Hid (V = (bst f j : Nat)) := by show _ = _; rw [HV.out]; unfold bst; rw [if_neg (by omega)]
          go_wp2_with fail
          go_ret2
          exact ⟨by rw [hV.out] <;> rfl, HK0.out.trans HK.out⟩
  · have h1' : (E != 0) = true := by rw [bne_iff_ne]; exact h1
    have hV : Hid (V = 0) := by show _ = _; rw [HV.out, if_neg h1]
    go_wp2_with fail
    go_ret2
    exact ⟨by rw [hV.out] <;> rfl, HK0.out.trans HK1.out⟩

end Go.Proofs.YtbaifjdealmckaaGreat

/- A pass that puts operators where they cost less: the program's Improve. -/
set_option linter.unusedVariables false
set_option linter.unusedSimpArgs false
set_option linter.unnecessarySimpa false
namespace Go.Proofs.YtbaifjdealmckaaGreat
open Go.RowKit Go.Shelf Tr
attribute [local go_sem] Oper.semAt_some

/-- A placing, how many were put elsewhere, and an error that the call hands back. -/
def ImpPost (w : World) (E : Int) (q : List Int × Nat) : Ending → World → Prop := fun e w' => ∃ v, e = .returned (.tuple #[v, .int .i64 (q.2 : Nat), .int .i64 E]) ∧ Rds (Rk.int .i64) w' v q.1 ∧ Kept [] w w'
theorem Good.wf {P : List Int} {x : PlanD} {r : RatesD} {A S : List Int} (h : Good P x r S A) (hT : Tree P) : ∀ y ∈ A, (Lit.int .i64 y).wf = true := fun y hy => wf_in (h.facts.2.2.2.1 y hy) hT.le
theorem Good.in_at {P : List Int} {x : PlanD} {r : RatesD} {A S : List Int} (h : Good P x r S A) {k : Nat} (hk : k < x.1.length) : ∃ a, A[k]? = some a ∧ A.getD k 0 = a ∧ inB P.length a := by
  have hl := h.facts.2.2.1
  refine ⟨A[k]'(by omega), List.getElem?_eq_getElem _, ?_, h.facts.2.2.2.1 _ (List.getElem_mem _)⟩
  unfold List.getD
  rw [List.getElem?_eq_getElem (by omega)]
  rfl

set_option maxRecDepth 100000 in
set_option maxHeartbeats 4000000 in
theorem improve_any (b : Nat) (P : List Int) (ov fv sv tv pv av zv : Value) (x : PlanD) (r : RatesD) (A S : List Int) (w : World) (hT : TreeAt w b P) (hTr : Tree P) (hpr : Pr w ov fv sv tv pv x r)
    (har : Rds (Rk.int .i64) w av A) (hzr : Rds (Rk.int .i64) w zv S) :
    Calls Tryz.prog 10 #[.pointer (some ⟨b, 0, none⟩), .agg #[ov, fv], .agg #[sv, tv, pv], av, zv] w (ImpPost w (lookE P x r A S 0) (impV P x r S A)) := by
  have HC := Lib.hid (fun (W : World) (hk : Kept [] w W) => look_any b P ov fv sv tv pv av zv x r A S 0 W (hT.keep hk) hTr (hpr.keep hk) (har.keep hk) (hzr.keep hk))
  have HCL := Lib.hid (fun (W : World) (hk : Kept [] w W) => clonei_any av A W (har.keep hk).ints)
  have HLT : Hid (∀ (L : List Int) (v : Value) (k : Nat) (W : World), Kept [] w W → Good P x r S L → Rds (Rk.int .i64) W v L → k < x.1.length → Calls Tryz.prog 7 #[.pointer (some ⟨b, 0, none⟩), .agg #[ov, fv], .agg #[sv, tv, pv], v, .int .i64 k, zv] W fun e w' => e = .returned (.tuple #[.int .i64 (lsV P x r S L k), .int .i64 0]) ∧ Kept [] W w') := fun L v k W hk hG hv hkn => by
    have := least_any b P ov fv sv tv pv v zv x r L S k W (hT.keep hk) hTr (hpr.keep hk) hv (hzr.keep hk)
    have e := hG.look (show (0 : Int) ≤ (k : Int) by omega) (by omega)
    unfold leastV at this
    rwa [e, if_pos rfl, Int.toNat_natCast] at this
  have HPT : Hid (∀ (L : List Int) (v : Value) (k : Nat) (h : Int) (W : World), Kept [] w W → Good P x r S L → Rds (Rk.int .i64) W v L → k < x.1.length → inB P.length h → Calls Tryz.prog 24 #[.pointer (some ⟨b, 0, none⟩), .agg #[ov, fv], .agg #[sv, tv, pv], v, .int .i64 k, .int .i64 h, zv] W fun e w' => e = .returned (.tuple #[.int .i64 (partV P x r L S (k : Int) h), .int .i64 0]) ∧ Kept [] W w') := fun L v k h W hk hG hv hkn hin => by
    have h2 := hpr.keep hk
    have := part_any b P ov fv sv tv pv v zv x r L S k h W (hT.keep hk) hTr h2.o h2.f h2.F h2.s h2.t h2.p hv.ints hv (hzr.keep hk).ints (hzr.keep hk) (wf_in hin hTr.le)
    rwa [hG.part hkn hin] at this
  have HGD : Hid (lookE P x r A S 0 = 0 → Good P x r S A ∧ A.length = x.1.length ∧ 2 ≤ x.1.length ∧ x.1.length ≤ 32) := fun h => by
    have g := (lookE_zero h).1
    exact ⟨g, g.facts.2.2.1, g.facts.1, g.facts.2.1⟩
  have HGJ : Hid (Good P x r S A → ∀ j, j ≤ x.1.length → Good P x r S (impG P x r S A j).1 ∧ (impG P x r S A j).2 ≤ j) := fun h j hj => ⟨impG_good hTr h j hj, impG_moved j⟩
  have HIN : Hid (∀ L k, inB P.length (lsV P x r S L k)) := fun L k => lsV_in hTr x r S L k
  have HWF : Hid (∀ L, Good P x r S L → ∀ y ∈ L, (Lit.int .i64 y).wf = true) := fun L h => h.wf hTr
  have HAT : Hid (∀ L, Good P x r S L → ∀ k, k < x.1.length → ∃ a, L[k]? = some a ∧ L.getD k 0 = a ∧ inB P.length a) := fun L h k hk => h.in_at hk
  have HLN : Hid (∀ L, Good P x r S L → L.length = x.1.length) := fun L h => h.facts.2.2.1
  obtain ⟨AA, ac, rfl, hmAA⟩ := har.form
  obtain ⟨q0, hq0⟩ : ∃ q, impV P x r S A = q := ⟨_, rfl⟩
  rw [hq0]
  unfold impV at hq0
  obtain ⟨E, hEE⟩ : ∃ E, lookE P x r A S 0 = E := ⟨_, rfl⟩
  rw [hEE] at HC HGD hq0 ⊢
  obtain ⟨n, hn⟩ : ∃ n, x.1.length = n := ⟨_, rfl⟩
  obtain ⟨la, hla⟩ : ∃ la, A.length = la := ⟨_, rfl⟩
  rw [hn] at HLT HPT HGD HGJ HAT HLN hq0
  rw [hla] at HC HCL HGD hmAA ⊢
  have HQ := Lib.hid hq0.symm
  have HLA := Lib.hid hla
  clear hn hla hEE hq0 har hzr hT hTr
  have HK0 := Lib.hid (((Kept.refl [] w).alloc (.cells #[ov, fv] 26)).alloc (.cells #[sv, tv, pv] 29))
  have HBX := Lib.hid (Bx.new w ov fv sv tv pv)
  clear hpr
  go_enter Tryz.func10, Tryz.ntmps10
  go_wp2_with fail
  obtain ⟨w0, hw0⟩ : ∃ w0, (w.alloc (.cells #[ov, fv] 26)).alloc (.cells #[sv, tv, pv] 29) = w0 := ⟨_, rfl⟩
  rw [hw0] at HK0 HBX ⊢
  clear hw0
  obtain ⟨x0, x1, r0, r1, r2⟩ := HBX.out.cs
  refine (HC.out _ HK0.out).mono ?_
  rintro e w1 ⟨rfl, k1⟩
  have HK1 := Lib.hid k1
  clear k1 x0 x1 r0 r1 r2
  by_cases h1 : E = 0
  · subst h1
    rw [if_pos rfl] at HQ
    obtain ⟨hG0, hla, hn2, hn32⟩ := HGD.out rfl
    subst hla
    have HG0 := Lib.hid hG0
    clear hG0
    go_wp2_with fail
    refine (HCL.out _ (HK0.out.trans HK1.out) (by omega)).mono ?_
    rintro e w3 ⟨v3, rfl, o3, k3⟩
    rw [HLA.out] at o3
    obtain ⟨g7, c7, rfl, hc71, hc72⟩ := own_some o3 (by omega)
    have HO3 := Lib.hid o3
    have HK13 := Lib.hid (HK1.out.trans k3)
    have hg3 := (o3.lt g7 rfl).1
    have hg3' := (o3.lt g7 rfl).2
    have hs01 := HK1.out.size
    have hbl := HBX.out.lt
    clear o3 k3
    go_wp2_with fail
    go_loopw [15, 36] (fun mv ii wr => ∃ (j : Nat), j ≤ la ∧ ii = .int .i64 j ∧ mv = .int .i64 ((impG P x r S A j).2 : Nat) ∧ wr.ownsRow w1.heap.size 3 1 (.slice (some ⟨g7, 0, none⟩) la c7) la ((impG P x r S A j).1.map (.int .i64)) ∧ Kept [g7] w3 wr) (fun _ ii _ => la - (intOf ii).toNat)
    case atStart => exact ⟨0, by omega, rfl, rfl, HO3.out, Kept.refl _ _⟩
    case round =>
      obtain ⟨j, hj, rfl, rfl, hown, hK⟩ := hrel
      have HK := Lib.hid hK
      obtain ⟨hGj, hmj⟩ := HGJ.out HG0.out j hj
      have HX : Hid (j < la → impG P x r S A (j + 1) = stepI P x r S (impG P x r S A j) j) := fun _ => rfl
      have HQJ : Hid (j = la → q0 = impG P x r S A j) := fun h => by rw [h]; exact HQ.out
      obtain ⟨q, hq⟩ : ∃ q, impG P x r S A j = q := ⟨_, rfl⟩
      rw [hq] at hown hGj hmj HX HQJ
      rw [hq]
      obtain ⟨L, m⟩ := q
      dsimp only at hown hGj hmj ⊢
      have HOWN := Lib.hid hown
      have HGL := Lib.hid hGj
      have HRD := Lib.hid (rds_own hown (HLN.out L hGj).symm (HWF.out L hGj))
      have hszr := hK.size
      have HKw : Hid (Kept [] w wr) := Kept.after (HK0.out.trans HK13.out) HK.out (fun y hy => by rw [List.mem_singleton.1 hy]; have := HK0.out.size; omega)
      have HBR : Hid (Bx wr w.heap.size ov fv sv tv pv) := (HBX.out.keep HK13.out).kept HK.out (by simp; omega) (by simp; omega)
      clear hown hK hq hGj
      by_cases hlt : j < la
      · obtain ⟨a, ha1, ha2, ha3⟩ := HAT.out L HGL.out j hlt
        have HSX := Lib.hid (HX.out hlt)
        unfold stepI at HSX
        dsimp only at HSX
        rw [ha2] at HSX
        have HB := HIN.out L j
        have HC1 := Lib.hid (fun (W : World) (hW : Kept [] wr W) => HLT.out L _ j W (HKw.out.trans hW) HGL.out (HRD.out.keep hW) hlt)
        obtain ⟨bb, hbb⟩ : ∃ bb, lsV P x r S L j = bb := ⟨_, rfl⟩
        rw [hbb] at HSX HB HC1
        have HC2 := Lib.hid (fun (W : World) (hW : Kept [] wr W) => HPT.out L _ j bb W (HKw.out.trans hW) HGL.out (HRD.out.keep hW) hlt HB)
        have HC3 := Lib.hid (fun (W : World) (hW : Kept [] wr W) => HPT.out L _ j a W (HKw.out.trans hW) HGL.out (HRD.out.keep hW) hlt ha3)
        obtain ⟨p1, hp1⟩ : ∃ p1, partV P x r L S (j : Int) bb = p1 := ⟨_, rfl⟩
        obtain ⟨p2, hp2⟩ : ∃ p2, partV P x r L S (j : Int) a = p2 := ⟨_, rfl⟩
        rw [hp1] at HSX HC2
        rw [hp2] at HSX HC3
        have e7 : wr.cell? ⟨g7, j, none⟩ = some (.int .i64 a) := by rw [HOWN.out.cellAt j (by omega), List.getElem?_map, ha1]; rfl
        have HE7 := Lib.hid e7
        clear hp1 hp2 hbb ha1 ha2 ha3 HB HX HQJ e7
        obtain ⟨x0, x1, r0, r1, r2⟩ := HBR.out.cs
        go_wp2_with fail
        refine (HC1.out _ (Kept.refl _ _)).mono ?_
        rintro e w5 ⟨rfl, k5⟩
        have HK5 := Lib.hid k5
        clear k5 x0 x1 r0 r1 r2
        obtain ⟨x0, x1, r0, r1, r2⟩ := (HBR.out.keep HK5.out).cs
        go_wp2_with fail
        refine (HC2.out _ HK5.out).mono ?_
        rintro e w6 ⟨rfl, k6⟩
        have HK6 := Lib.hid (HK5.out.trans k6)
        clear k6 x0 x1 r0 r1 r2
        have y0 : ∀ s : SW (Kept [] wr), s.to.cell? ⟨w.heap.size, 0, none⟩ = some ov := fun s => (HBR.out.keep s.ok).cs.1
        have y1 : ∀ s : SW (Kept [] wr), s.to.cell? ⟨w.heap.size, 1, none⟩ = some fv := fun s => (HBR.out.keep s.ok).cs.2.1
        have y2 : ∀ s : SW (Kept [] wr), s.to.cell? ⟨w.heap.size + 1, 0, none⟩ = some sv := fun s => (HBR.out.keep s.ok).cs.2.2.1
        have y3 : ∀ s : SW (Kept [] wr), s.to.cell? ⟨w.heap.size + 1, 1, none⟩ = some tv := fun s => (HBR.out.keep s.ok).cs.2.2.2.1
        have y4 : ∀ s : SW (Kept [] wr), s.to.cell? ⟨w.heap.size + 1, 2, none⟩ = some pv := fun s => (HBR.out.keep s.ok).cs.2.2.2.2
        have y5 : ∀ s : SW (Kept [] wr), s.to.cell? ⟨g7, j, none⟩ = some (.int .i64 a) := fun s => s.ok.cell (by simp) HE7.out
        have hall : ∀ s : SW (Kept [] wr), Kept [] wr s.to := fun s => s.ok
        have hj0 : (0 : Int) ≤ (j : Int) := by omega
        have hjl : (j : Int) < (la : Int) := by omega
        go_wp2_with fail
        refine wp_region_sw (Kept [] wr) (stays_kept wr) HK6.out (by kernel_rfl) (by kernel_rfl) (fun hne => ?_)
        repeat (go_big_quiet_step (first
          | (go_at_call 24; exact SW.calls (stays_kept wr) (HC3.out _ (hall _)))))
        refine wpQuiet_nil ?_
        intro w7 hs7
        have HK7 := Lib.hid hs7
        clear hs7 y0 y1 y2 y3 y4 y5 hall
        by_cases hl : p1 < p2
        · have HNX : Hid (impG P x r S A (j + 1) = (L.set j bb, m + 1)) := by show _ = _; rw [HSX.out, if_pos hl]
          have hl' : decide (p1 < p2) = true := decide_eq_true hl
          have o7 := ownsRow_keep HOWN.out HK7.out (by simp)
          have f7 := o7.frozenAt j
          have e7 := HK7.out.cell (by simp) HE7.out
          have HO8 := Lib.hid ((o7.stored j (.int .i64 bb)).1)
          clear o7
          have HK8 : Hid (Kept [g7] w3 (w7.setCell ⟨g7, j, none⟩ (.int .i64 bb))) := (HK.out.trans HK7.out.nil).setCell (.inl (by simp)) _
          go_wp2_with fail
          go_roundw
          case rel => exact ⟨j + 1, by omega, by go_num, by rw [HNX.out]; go_num, by rw [HNX.out]; dsimp only; rw [List.map_set]; exact HO8.out, HK8.out⟩
          case measure => simp [intOf]; omega
        · have HNX : Hid (impG P x r S A (j + 1) = (L, m)) := by show _ = _; rw [HSX.out, if_neg hl]
          have hl' : decide (p1 < p2) = false := decide_eq_false hl
          have HO8 := Lib.hid (ownsRow_keep HOWN.out HK7.out (by simp))
          have HK8 : Hid (Kept [g7] w3 w7) := HK.out.trans HK7.out.nil
          go_wp2_with fail
          go_roundw
          case rel => exact ⟨j + 1, by omega, by go_num, by rw [HNX.out], by rw [HNX.out]; exact HO8.out, HK8.out⟩
          case measure => simp [intOf]; omega
      · have hjn : j = la := by omega
        subst hjn
        have HQE := Lib.hid (HQJ.out rfl)
        go_wp2_with fail
        go_ret3
        exact ⟨_, by rw [HQE.out] <;> rfl, by rw [HQE.out]; exact HRD.out, HKw.out⟩
  · have h1' : (E != 0) = true := by rw [bne_iff_ne]; exact h1
    have HQE : Hid (q0 = ([], 0)) := by show _ = _; rw [HQ.out, if_neg h1]
    go_wp2_with fail
    go_ret3
    exact ⟨_, by rw [HQE.out]; rfl, by rw [HQE.out]; exact rds_nil _ _, HK0.out.trans HK1.out⟩

end Go.Proofs.YtbaifjdealmckaaGreat

/- Where two placings are unlike: the program's Moved and the document's. -/
set_option linter.unusedVariables false
set_option linter.unusedSimpArgs false
set_option linter.unnecessarySimpa false
namespace Go.Proofs.YtbaifjdealmckaaGreat
open Go.RowKit Go.Shelf Tr
attribute [local go_sem] Oper.semAt_some

def RowPost (w : World) (l : List Int) : Ending → World → Prop := fun e w' => ∃ v, e = .returned v ∧ RdI w' .i64 v l ∧ Kept [] w w'
theorem movedG_put {a b : List Int} {j : Nat} (h : ¬ a[j]? = b[j]?) : movedG a b (j + 1) = movedG a b j ++ [(j : Int)] := by rw [movedG, if_neg h]
theorem movedG_skip {a b : List Int} {j : Nat} (h : a[j]? = b[j]?) : movedG a b (j + 1) = movedG a b j := by rw [movedG, if_pos h, List.append_nil]

end Go.Proofs.YtbaifjdealmckaaGreat

/- A placing that costs little: the program's Greedy. -/
set_option linter.unusedVariables false
set_option linter.unusedSimpArgs false
set_option linter.unnecessarySimpa false
namespace Go.Proofs.YtbaifjdealmckaaGreat
open Go.RowKit Go.Shelf Tr
attribute [local go_sem] Oper.semAt_some

set_option maxRecDepth 100000 in
set_option maxHeartbeats 2000000 in
theorem greedy_any (b : Nat) (P : List Int) (ov fv sv tv pv zv : Value) (x : PlanD) (r : RatesD) (S : List Int) (w : World) (hT : TreeAt w b P) (hTr : Tree P) (hpr : Pr w ov fv sv tv pv x r) (hzr : Rds (Rk.int .i64) w zv S) :
    Calls Tryz.prog 14 #[.pointer (some ⟨b, 0, none⟩), .agg #[ov, fv], .agg #[sv, tv, pv], zv] w (TwoPost w (greedE P x r S) (greedV P x r S)) := by
  have HA := Lib.hid (fun (W : World) (hk : Kept [] w W) => atroot_any b P ov fv x W (hT.keep hk) hTr (hpr.keep hk).o (hpr.keep hk).f hpr.F)
  have HI := Lib.hid (fun (W : World) (v : Value) (hk : Kept [] w W) (hv : Rds (Rk.int .i64) W v (rootsV P x)) => improve_any b P ov fv sv tv pv v zv x r (rootsV P x) S W (hT.keep hk) hTr (hpr.keep hk) hv (hzr.keep hk))
  obtain ⟨E, hE⟩ : ∃ E, greedE P x r S = E := ⟨_, rfl⟩
  obtain ⟨q, hq⟩ : ∃ q, impV P x r S (rootsV P x) = q := ⟨_, rfl⟩
  unfold greedV
  rw [hE, hq]
  unfold greedE at hE
  have HQ0 : Hid (planV x = false → q = ([], 0)) := fun h => by
    rw [← hq]
    unfold impV
    rw [if_neg]
    have e : standE P x (rootsV P x) S = 150 := by unfold standE; rw [h]; simp
    unfold lookE
    rw [e]
    simp
  obtain ⟨pv', hpv⟩ : ∃ p, planV x = p := ⟨_, rfl⟩
  rw [hpv] at HA hE HQ0
  rw [hq] at HI
  obtain ⟨R, hR⟩ : ∃ R, rootsV P x = R := ⟨_, rfl⟩
  rw [hR] at HA HI hE
  obtain ⟨EL, hEL⟩ : ∃ EL, lookE P x r R S 0 = EL := ⟨_, rfl⟩
  rw [hEL] at HI hE
  have HE := Lib.hid hE.symm
  clear hE hq hpv hR hEL hT hTr hzr
  have HK0 := Lib.hid (((Kept.refl [] w).alloc (.cells #[ov, fv] 26)).alloc (.cells #[sv, tv, pv] 29))
  have HBX := Lib.hid (Bx.new w ov fv sv tv pv)
  clear hpr
  go_enter Tryz.func14, Tryz.ntmps14
  go_wp2_with fail
  obtain ⟨w0, hw0⟩ : ∃ w0, (w.alloc (.cells #[ov, fv] 26)).alloc (.cells #[sv, tv, pv] 29) = w0 := ⟨_, rfl⟩
  rw [hw0] at HK0 HBX ⊢
  clear hw0
  obtain ⟨x0, x1, r0, r1, r2⟩ := HBX.out.cs
  refine (HA.out _ HK0.out).mono ?_
  rintro e w1 ⟨v1, rfl, hv1, k1⟩
  have HK1 := Lib.hid k1
  have HV1 := Lib.hid hv1
  clear k1 hv1 x0 x1 r0 r1 r2
  cases pv' with
  | false =>
    have hE : Hid (E = 150) := HE.out
    have hQ := Lib.hid (HQ0.out rfl)
    rw [show errPlan false = 150 from rfl]
    go_wp2_with fail
    go_ret2
    exact ⟨_, by rw [hE.out] <;> rfl, by rw [hQ.out]; exact rds_nil _ _, HK0.out.trans HK1.out⟩
  | true =>
    have hE : Hid (E = EL) := HE.out
    rw [if_pos rfl] at HV1
    rw [show errPlan true = 0 from rfl]
    obtain ⟨x0, x1, r0, r1, r2⟩ := (HBX.out.keep HK1.out).cs
    go_wp2_with fail
    refine (HI.out _ _ (HK0.out.trans HK1.out) HV1.out).mono ?_
    rintro e w2 ⟨v2, rfl, hv2, k2⟩
    have HK2 := Lib.hid k2
    have HV2 := Lib.hid hv2
    clear k2 hv2 x0 x1 r0 r1 r2
    go_wp2_with fail
    go_ret2
    exact ⟨_, by rw [hE.out] <;> rfl, HV2.out, (HK0.out.trans HK1.out).trans HK2.out⟩

end Go.Proofs.YtbaifjdealmckaaGreat

/- A placing that the document fixes: a plan of one term. -/
set_option linter.unusedVariables false
set_option linter.unusedSimpArgs false
set_option linter.unnecessarySimpa false
namespace Go.Proofs.YtbaifjdealmckaaGreat
open Go.RowKit Go.Shelf Tr
attribute [local go_sem] Oper.semAt_some

set_option maxRecDepth 100000 in
set_option maxHeartbeats 1000000 in
theorem shape_leaf (v t : ByteArray) (h1 : NameIs v) (h2 : NameIs t) (w : World) : Calls Tryz.prog 52 #[leafV v t] w fun e w' => e = .returned (.int .i64 0) ∧ Kept [] w w' := by
  have HB := Lib.hid (Blk.new w #[.int .i64 1, .string v, .string t, .slice none 0 0, .slice none 0 0] 62)
  have HK0 := Lib.hid ((Kept.refl [] w).alloc (.cells #[.int .i64 1, .string v, .string t, .slice none 0 0, .slice none 0 0] 62))
  have HN := Lib.hid (fun W : World => node_leaf v t h1 h2 W)
  clear h1 h2
  go_enter Tryz.func52, Tryz.ntmps52
  go_wp2_with fail
  obtain ⟨w1, hw1⟩ : ∃ w1, w.alloc (.cells #[.int .i64 1, .string v, .string t, .slice none 0 0, .slice none 0 0] 62) = w1 := ⟨_, rfl⟩
  rw [hw1] at HB HK0 ⊢
  clear hw1
  have HC : Hid (∀ W, Kept [] w1 W → W.cell? ⟨w.heap.size, 0, none⟩ = some (.int .i64 1) ∧ W.cell? ⟨w.heap.size, 1, none⟩ = some (.string v) ∧ W.cell? ⟨w.heap.size, 2, none⟩ = some (.string t) ∧ W.cell? ⟨w.heap.size, 3, none⟩ = some (.slice none 0 0) ∧ W.cell? ⟨w.heap.size, 4, none⟩ = some (.slice none 0 0)) := fun W hW =>
    ⟨((HB.out.kept hW (by simp)).cell 0).trans rfl, ((HB.out.kept hW (by simp)).cell 1).trans rfl, ((HB.out.kept hW (by simp)).cell 2).trans rfl, ((HB.out.kept hW (by simp)).cell 3).trans rfl, ((HB.out.kept hW (by simp)).cell 4).trans rfl⟩
  obtain ⟨a0, a1, a2, a3, a4⟩ := HC.out _ (Kept.refl _ _)
  refine (deep_leaf _ _ _).mono ?_
  rintro e w5 ⟨rfl, hk5⟩
  have HK5 := Lib.hid hk5
  clear hk5 a0 a1 a2 a3 a4
  obtain ⟨a0, a1, a2, a3, a4⟩ := HC.out _ HK5.out
  go_wp2_with fail
  refine (terms_leaf _ _ _).mono ?_
  rintro e w6 ⟨rfl, hk6⟩
  have HK6 := Lib.hid (HK5.out.trans hk6)
  clear hk6 a0 a1 a2 a3 a4
  obtain ⟨a0, a1, a2, a3, a4⟩ := HC.out _ HK6.out
  go_wp2_with fail
  refine (HN.out _).mono ?_
  rintro e w7 ⟨rfl, hk7⟩
  have HK7 := Lib.hid (HK6.out.trans hk7)
  clear hk7 a0 a1 a2 a3 a4
  obtain ⟨a0, a1, a2, a3, a4⟩ := HC.out _ HK7.out
  go_wp2_with fail
  refine (alts_leaf _ _ _).mono ?_
  rintro e w8 ⟨rfl, hk8⟩
  have HK8 := Lib.hid (HK7.out.trans hk8)
  clear hk8 a0 a1 a2 a3 a4
  go_wp2_with fail
  go_ret
  exact ⟨rfl, HK0.out.trans HK8.out⟩

abbrev onePV : Value := .agg #[.string ⟨#[112]⟩, .int .i64 5, .int .i64 1, .string ⟨#[97]⟩, .string ⟨#[65]⟩, .slice none 0 0, .slice none 0 0, .slice none 0 0]
abbrev onePC : Array Value := #[.string ⟨#[112]⟩, .int .i64 5, .int .i64 1, .string ⟨#[97]⟩, .string ⟨#[65]⟩, .slice none 0 0, .slice none 0 0, .slice none 0 0]
theorem onep_cells {w : World} {b : Nat} (h : Blk w b onePC 64) : w.cell? ⟨b, 0, none⟩ = some (.string ⟨#[112]⟩) ∧ w.cell? ⟨b, 1, none⟩ = some (.int .i64 5) ∧ w.cell? ⟨b, 2, none⟩ = some (.int .i64 1) ∧ w.cell? ⟨b, 3, none⟩ = some (.string ⟨#[97]⟩) ∧ w.cell? ⟨b, 4, none⟩ = some (.string ⟨#[65]⟩) ∧ w.cell? ⟨b, 5, none⟩ = some (.slice none 0 0) ∧ w.cell? ⟨b, 6, none⟩ = some (.slice none 0 0) ∧ w.cell? ⟨b, 7, none⟩ = some (.slice none 0 0) :=
  ⟨(h.cell 0).trans rfl, (h.cell 1).trans rfl, (h.cell 2).trans rfl, (h.cell 3).trans rfl, (h.cell 4).trans rfl, (h.cell 5).trans rfl, (h.cell 6).trans rfl, (h.cell 7).trans rfl⟩

set_option maxRecDepth 100000 in
set_option maxHeartbeats 2000000 in
theorem pattern_one (w : World) : Calls Tryz.prog 33 #[onePV] w fun e w' => e = .returned (.int .i64 0) ∧ Kept [] w w' := by
  have ha : Some1 ⟨#[97]⟩ := ⟨by rw [ByteArray.toList_eq]; decide⟩
  have HB := Lib.hid (Blk.new w onePC 64)
  have HK0 := Lib.hid ((Kept.refl [] w).alloc (.cells onePC 64))
  go_enter Tryz.func33, Tryz.ntmps33
  go_wp2_with fail
  obtain ⟨w1, hw1⟩ : ∃ w1, w.alloc (.cells onePC 64) = w1 := ⟨_, rfl⟩
  rw [hw1] at HB HK0 ⊢
  clear hw1
  obtain ⟨a0, a1, a2, a3, a4, a5, a6, a7⟩ := onep_cells HB.out
  have HR : Hid (∀ W, Kept [] w1 W → Blk W w.heap.size onePC 64) := fun W hW => HB.out.kept hW (by simp)
  refine (name_yes _ nameP.size nameP.is _).mono ?_
  rintro e w5 ⟨rfl, rfl⟩
  go_wp2_with fail
  refine (shape_leaf _ _ nameA nameUA _).mono ?_
  rintro e w5 ⟨rfl, hk5⟩
  have HK5 := Lib.hid hk5
  clear hk5
  obtain ⟨a0, a1, a2, a3, a4, a5, a6, a7⟩ := onep_cells (HR.out _ HK5.out)
  go_wp2_with fail
  refine (binds_leaf _ _ _).mono ?_
  rintro e w6 ⟨rfl, hk6⟩
  have HK6 := Lib.hid (HK5.out.trans hk6)
  clear hk6
  obtain ⟨a0, a1, a2, a3, a4, a5, a6, a7⟩ := onep_cells (HR.out _ HK6.out)
  go_wp2_with fail
  refine (vars_leaf _ _ ha _).mono ?_
  rintro e w7 ⟨g7, c7, rfl, _, hk7⟩
  have HK7 := Lib.hid (HK6.out.trans hk7)
  clear hk7
  obtain ⟨a0, a1, a2, a3, a4, a5, a6, a7⟩ := onep_cells (HR.out _ HK7.out)
  go_wp2_with fail
  refine wp_loop_rounds 1 ?_
  rw [rounds_succ]
  go_wp2_with fail
  go_ret
  exact ⟨rfl, HK0.out.trans HK7.out⟩

def oneO : List BareD := [(1, ⟨#[97]⟩, ⟨#[65]⟩, 5, 1), (5, ⟨#[]⟩, ⟨#[]⟩, 5, 1)]
def oneF : List (List Int) := [[-1], [0]]
def OnePost (w : World) : Ending → World → Prop := fun e w' => ∃ ov fv, e = .returned (.tuple #[.agg #[ov, fv], .int .i64 0]) ∧ Rds opR w' ov (oneO.map bareD) ∧ Rds intsR w' fv oneF ∧ Kept [] w w'
theorem oneO_ok : ∀ o ∈ oneO, BareOk o := by
  intro o ho
  unfold oneO at ho
  simp at ho
  rcases ho with rfl | rfl <;> exact ⟨by decide, by decide, by decide, by decide, by decide⟩
theorem oneF_ok : ∀ r ∈ oneF, ∀ x ∈ r, (Lit.int .i64 x).wf = true := by
  intro r hr x hx
  unfold oneF at hr
  simp at hr
  rcases hr with rfl | rfl <;> simp at hx <;> subst hx <;> decide

set_option maxRecDepth 100000 in
set_option maxHeartbeats 2000000 in
theorem of_one (w : World) : Calls Tryz.prog 19 #[onePV] w (OnePost w) := by
  have HK0 := Lib.hid (((Kept.refl [] w).alloc (.cells onePC 64)).alloc (.cells #[.slice none 0 0, .slice none 0 0] 26))
  have HPB : Hid (Blk ((w.alloc (.cells onePC 64)).alloc (.cells #[.slice none 0 0, .slice none 0 0] 26)) w.heap.size onePC 64) := (Blk.new w _ _).alloc _
  have HRB : Hid (Blk ((w.alloc (.cells onePC 64)).alloc (.cells #[.slice none 0 0, .slice none 0 0] 26)) (w.heap.size + 1) #[.slice none 0 0, .slice none 0 0] 26) := by
    have := Blk.new (w.alloc (.cells onePC 64)) #[.slice none 0 0, .slice none 0 0] 26
    rwa [show (w.alloc (.cells onePC 64)).heap.size = w.heap.size + 1 by simp] at this
  go_enter Tryz.func19, Tryz.ntmps19
  go_wp2_with fail
  refine (pattern_one _).mono ?_
  rintro e w5 ⟨rfl, hk5⟩
  have HK5 := Lib.hid (HK0.out.trans hk5)
  have HPB5 := Lib.hid (HPB.out.kept hk5 (by simp))
  have HRB5 := Lib.hid (HRB.out.kept hk5 (by simp))
  have hl5 := hk5.size
  have hr5 : w.heap.size + 1 < w5.heap.size := HRB5.out.lt
  clear hk5
  obtain ⟨a0, a1, a2, a3, a4, a5, a6, a7⟩ := onep_cells (HPB5.out.alloc (.cells #[.slice none 0 0, .slice none 0 0] 26))
  have HB6 := Lib.hid (Blk.new w5 #[.slice none 0 0, .slice none 0 0] 26)
  go_wp2_with fail
  obtain ⟨w6, hw6⟩ : ∃ w6, w5.alloc (.cells #[.slice none 0 0, .slice none 0 0] 26) = w6 := ⟨_, rfl⟩
  have HK6 : Hid (Kept [] w5 w6) := by
    show Kept [] w5 w6
    rw [← hw6]
    exact (Kept.refl [] w5).alloc _
  rw [hw6] at HB6 ⊢
  clear hw6
  have hs6 := HK6.out.size
  have hx6 : w5.heap.size < w6.heap.size := HB6.out.lt
  have HPA0 : Hid (PA w6.heap.size (fun _ => True) w6 w5.heap.size [] []) := ⟨_, _, [], HB6.out, World.ownsRow_nil _ _ _ _, World.ownsRow_nil _ _ _ _, rfl, (fun i v row h => by simp at h), (fun v h => by simp at h)⟩
  have HMK : Hid (Calls Tryz.prog 34 #[.pointer (some ⟨w5.heap.size, 0, none⟩), .agg #[.int .i64 1, .string ⟨#[97]⟩, .string ⟨#[65]⟩, .slice none 0 0, .slice none 0 0], .slice none 0 0, .int .i64 5] w6 (PutPost w6.heap.size (fun b => True ∨ w6.heap.size ≤ b) w6 w5.heap.size [(1, ⟨#[97]⟩, ⟨#[65]⟩, 5, 1)] [[-1]] 0)) :=
    makes_leaf w6.heap.size (fun _ => True) w5.heap.size [] [] ⟨#[97]⟩ ⟨#[65]⟩ 5 w6 hx6 (Nat.le_refl _) HPA0.out rfl (by decide) (fun a ha => by simp at ha)
  refine HMK.out.mono ?_
  rintro e w7 ⟨rfl, hpa7, hkt7⟩
  obtain ⟨B, hB⟩ : ∃ B, w6.heap.size = B := ⟨_, rfl⟩
  rw [hB] at hpa7 hkt7 hx6
  have HPA7 := Lib.hid hpa7
  have HKL7 := Lib.hid (KL.of_kt hkt7)
  have hB7 : B ≤ w7.heap.size := by have := hkt7.size; omega
  have HBB := Lib.hid hB
  clear hpa7 hkt7 hB
  obtain ⟨a0, a1, a2, a3, a4, a5, a6, a7⟩ := onep_cells ((HPB5.out.kept HK6.out (by simp)).kl HKL7.out (by omega) (by omega))
  have HPUT : Hid (Calls Tryz.prog 35 #[.pointer (some ⟨w5.heap.size, 0, none⟩), .agg #[.int .i64 5, .string ⟨#[]⟩, .string ⟨#[]⟩, .slice none 0 0, .slice none 0 0, .int .i64 5, .int .i64 1], .slice (some ⟨w7.heap.size, 0, none⟩) 1 1] (w7.alloc (.cells #[.int .i64 0] 3)) (PutPost B (fun _ => True) (w7.alloc (.cells #[.int .i64 0] 3)) w5.heap.size oneO oneF 1)) := by
    have hkd : Kept [] w7 (w7.alloc (.cells #[.int .i64 0] 3)) := (Kept.refl [] w7).alloc _
    have ho : (w7.alloc (.cells #[.int .i64 0] 3)).ownsRow B 3 1 (.slice (some ⟨w7.heap.size, 0, none⟩) 1 1) 1 [.int .i64 0] := by simpa using World.ownsRow_lit (base := B) (e := 3) (size := 1) w7 #[.int .i64 0] 1 (by omega) (by unfold maxLen; omega) (by simp)
    exact put_any B (fun _ => True) w5.heap.size [(1, ⟨#[97]⟩, ⟨#[65]⟩, 5, 1)] [[-1]] (5, ⟨#[]⟩, ⟨#[]⟩, 5, 1) [0] _ _ hx6 (by have := hkd.size; omega) ((HPA7.out.keep hkd).mono (fun _ _ _ => trivial)) (fun _ _ => trivial) ho (by rfl) (by decide) (by
      intro a ha
      simp at ha
      subst ha
      exact .inl (by simp))
  go_wp2_with fail
  refine HPUT.out.mono ?_
  rintro e w8 ⟨rfl, hpa8, hkt8⟩
  have HPA8 := Lib.hid hpa8
  have HKL8 : Hid (KL B w5.heap.size w6 w8) := (HKL7.out.trans (KL.of ((Kept.refl [] w7).alloc _))).trans (KL.of_kt hkt8)
  clear hpa8 hkt8
  obtain ⟨ov, fv, hb8, ho8, hf8⟩ := HPA8.out.reads (by rfl) oneO_ok oneF_ok
  obtain ⟨OA, oc, rfl, _⟩ := ho8.form
  obtain ⟨FA, fc, rfl, _⟩ := hf8.form
  have HRB8 := Lib.hid ((HRB5.out.kept HK6.out (by simp)).kl HKL8.out (by omega) (by omega))
  have x0 := hb8.cell 0
  have x1 := hb8.cell 1
  have r0 := HRB8.out.cell 0
  have r1 := HRB8.out.cell 1
  have f0 := HRB8.out.free 0
  have f1 := HRB8.out.free 1
  simp at x0 x1 r0 r1
  have HB8 := Lib.hid hb8
  clear hb8 ho8 hf8
  go_wp2_with fail
  have HP9 := Lib.hid ((HPA8.out.set_other (i := 0) (rb := w.heap.size + 1) (by omega) (by omega) (.slice OA oneO.length oc)).set_other (i := 1) (rb := w.heap.size + 1) (by omega) (by omega) (.slice FA oneF.length fc))
  obtain ⟨ov, fv, hb9, ho9, hf9⟩ := HP9.out.reads (by rfl) oneO_ok oneF_ok
  have hb9' : Blk ((w8.setCell ⟨w.heap.size + 1, 0, none⟩ (.slice OA oneO.length oc)).setCell ⟨w.heap.size + 1, 1, none⟩ (.slice FA oneF.length fc)) w5.heap.size #[.slice OA oneO.length oc, .slice FA oneF.length fc] 26 := (HB8.out.set_other (by simp; omega) _).set_other (by simp; omega) _
  have he := hb9'.same hb9
  simp at he
  obtain ⟨rfl, rfl⟩ := he
  have hrr : Blk ((w8.setCell ⟨w.heap.size + 1, 0, none⟩ (.slice OA oneO.length oc)).setCell ⟨w.heap.size + 1, 1, none⟩ (.slice FA oneF.length fc)) (w.heap.size + 1) #[.slice OA oneO.length oc, .slice FA oneF.length fc] 26 := by
    have := (HRB8.out.set 0 (.slice OA oneO.length oc)).set 1 (.slice FA oneF.length fc)
    simpa using this
  have hk8 : Kept [] w w8 := KL.kept (HK5.out.trans HK6.out) (by omega) (by omega) HKL8.out
  refine bodyPost_ret (res_ct rfl _ _ (w.heap.size + 1) 26 #[.slice OA oneO.length oc, .slice FA oneF.length fc] _ rfl hrr Tryz.underlying26 rfl (by kernel_rfl)) rfl ?_
  exact ⟨_, _, rfl, ho9, hf9, (hk8.setCell (.inr (by simp)) _).setCell (.inr (by simp)) _⟩

abbrev oneX : PlanD := (oneO.map bareD, oneF)
abbrev oneR : RatesD := ([1024], ([1, 1], [1024, 1024]))
theorem one_tree : treeErr [-1, 0] = 0 := by kernel_rfl
theorem one_ge : greedE [-1, 0] oneX oneR [1] = 0 := by kernel_rfl
theorem one_gv : greedV [-1, 0] oneX oneR [1] = [1, 0] := by kernel_rfl
theorem one_s1 : standE [-1, 0] oneX [1, 0] [1] = 0 := by kernel_rfl
theorem one_s2 : standE [-1, 0] oneX [0, 1] [1] = 190 := by kernel_rfl
def LivePost (w : World) : Ending → World → Prop := fun e w' => e = .returned (.bool true) ∧ Kept [] w w'

end Go.Proofs.YtbaifjdealmckaaGreat

/- A placing that the document fixes: live. -/
set_option linter.unusedVariables false
set_option linter.unusedSimpArgs false
set_option linter.unnecessarySimpa false
namespace Go.Proofs.YtbaifjdealmckaaGreat
open Go.RowKit Go.Shelf Tr
attribute [local go_sem] Oper.semAt_some

/-- The world in which live asks: a plan, rates in rows of their own. -/
abbrev W5 (w : World) (a b : Value) : World := ((((w.alloc (.cells #[a, b] 26)).alloc (.cells #[.int .i64 1024] 2)).alloc (.cells #[.int .i64 1, .int .i64 1] 2)).alloc (.cells #[.int .i64 1024, .int .i64 1024] 2)).alloc
  (.cells #[.slice (some ⟨w.heap.size + 1, 0, none⟩) 1 1, .slice (some ⟨w.heap.size + 1 + 1, 0, none⟩) 2 2, .slice (some ⟨w.heap.size + 1 + 1 + 1, 0, none⟩) 2 2] 29)
structure W5F (w : World) (a b : Value) (W : World) : Prop where
  k : Kept [] w W
  p : Blk W w.heap.size #[a, b] 26
  r : Blk W (w.heap.size + 1 + 1 + 1 + 1) #[.slice (some ⟨w.heap.size + 1, 0, none⟩) 1 1, .slice (some ⟨w.heap.size + 1 + 1, 0, none⟩) 2 2, .slice (some ⟨w.heap.size + 1 + 1 + 1, 0, none⟩) 2 2] 29
  s : RdI W .i64 (.slice (some ⟨w.heap.size + 1, 0, none⟩) 1 1) [1024]
  t : RdI W .i64 (.slice (some ⟨w.heap.size + 1 + 1, 0, none⟩) 2 2) [1, 1]
  q : RdI W .i64 (.slice (some ⟨w.heap.size + 1 + 1 + 1, 0, none⟩) 2 2) [1024, 1024]
theorem w5_facts (w : World) (a b : Value) : W5F w a b (W5 w a b) := by
  have al : ∀ (W : World) (o : Obj), Kept [] W (W.alloc o) := fun W o => (Kept.refl [] W).alloc o
  refine ⟨((((al _ _).trans (al _ _)).trans (al _ _)).trans (al _ _)).trans (al _ _), ((((Blk.new w _ _).alloc _).alloc _).alloc _).alloc _, ?_, ?_, ?_, ?_⟩
  · have := Blk.new ((((w.alloc (.cells #[a, b] 26)).alloc (.cells #[.int .i64 1024] 2)).alloc (.cells #[.int .i64 1, .int .i64 1] 2)).alloc (.cells #[.int .i64 1024, .int .i64 1024] 2)) #[.slice (some ⟨w.heap.size + 1, 0, none⟩) 1 1, .slice (some ⟨w.heap.size + 1 + 1, 0, none⟩) 2 2, .slice (some ⟨w.heap.size + 1 + 1 + 1, 0, none⟩) 2 2] 29
    simpa using this
  · exact (RdI.built (w.alloc (.cells #[a, b] 26)) [1024] 2 .i64 (by decide) _ (by simp)).keep (((al _ _).trans (al _ _)).trans (al _ _))
  · exact (RdI.built ((w.alloc (.cells #[a, b] 26)).alloc (.cells #[.int .i64 1024] 2)) [1, 1] 2 .i64 (by decide) _ (by simp)).keep ((al _ _).trans (al _ _))
  · exact (RdI.built (((w.alloc (.cells #[a, b] 26)).alloc (.cells #[.int .i64 1024] 2)).alloc (.cells #[.int .i64 1, .int .i64 1] 2)) [1024, 1024] 2 .i64 (by decide) _ (by simp)).keep (al _ _)
theorem W5F.cs {w : World} {a b : Value} {W V : World} (h : W5F w a b W) (k : Kept [] W V) : V.cell? ⟨w.heap.size, 0, none⟩ = some a ∧ V.cell? ⟨w.heap.size, 1, none⟩ = some b ∧ V.cell? ⟨w.heap.size + 1 + 1 + 1 + 1, 0, none⟩ = some (.slice (some ⟨w.heap.size + 1, 0, none⟩) 1 1) ∧ V.cell? ⟨w.heap.size + 1 + 1 + 1 + 1, 1, none⟩ = some (.slice (some ⟨w.heap.size + 1 + 1, 0, none⟩) 2 2) ∧ V.cell? ⟨w.heap.size + 1 + 1 + 1 + 1, 2, none⟩ = some (.slice (some ⟨w.heap.size + 1 + 1 + 1, 0, none⟩) 2 2) :=
  ⟨((h.p.kept k (by simp)).cell 0).trans rfl, ((h.p.kept k (by simp)).cell 1).trans rfl, ((h.r.kept k (by simp)).cell 0).trans rfl, ((h.r.kept k (by simp)).cell 1).trans rfl, ((h.r.kept k (by simp)).cell 2).trans rfl⟩
/-- A row of numbers that was built is read as such. -/
theorem rds_built (W : World) (l : List Int) (hl : l.length ≤ 100) (hw : ∀ x ∈ l, (Lit.int .i64 x).wf = true) (g : Nat) (hg : g = W.heap.size) : Rds (Rk.int .i64) (W.alloc (.cells (l.map (Value.int .i64)).toArray 3)) (.slice (some ⟨g, 0, none⟩) l.length l.length) l := by
  subst hg
  exact rds_own (base := W.heap.size) (e := 3) (n := l.length) ⟨by simp, .inr ⟨W.heap.size, l.length, (l.map (Value.int .i64)).toArray, rfl, Nat.le_refl _, Blk.new W _ _, Nat.le_refl _, by unfold maxLen; omega, by simp, by simp [List.take_of_length_le]⟩⟩ rfl hw

set_option maxRecDepth 100000 in
set_option maxHeartbeats 4000000 in
theorem live_any (w : World) : Calls Tryz.prog 6 #[] w (LivePost w) := by
  go_enter Tryz.func6, Tryz.ntmps6
  go_wp2_with fail
  refine (new_any _ [-1, 0] _ (RdI.built w [-1, 0] 3 .i64 (by decide) _ rfl)).mono ?_
  rintro e w1 ⟨k1, h1⟩
  have HK1 : Hid (Kept [] w w1) := ((Kept.refl [] w).alloc _).trans k1
  rcases h1 with ⟨hE, _⟩ | ⟨_, rfl, htr⟩
  · exact absurd one_tree hE
  have HT1 := Lib.hid htr
  obtain ⟨tb, htb⟩ : ∃ tb, (w.alloc (.cells ([-1, 0].map (Value.int .i64)).toArray 3)).heap.size = tb := ⟨_, rfl⟩
  rw [htb] at HT1 ⊢
  clear htr k1 htb
  go_wp2_with fail
  refine (of_one _).mono ?_
  rintro e w2 ⟨ov, fv, rfl, ho, hf, k2⟩
  obtain ⟨OA, oc, rfl⟩ : ∃ A c, ov = .slice A 2 c := by obtain ⟨A, c, h, _⟩ := ho.form; exact ⟨A, c, h⟩
  obtain ⟨FA, fc, rfl⟩ : ∃ A c, fv = .slice A 2 c := by obtain ⟨A, c, h, _⟩ := hf.form; exact ⟨A, c, h⟩
  have HO := Lib.hid ho
  have HF := Lib.hid hf
  have HT2 := Lib.hid (HT1.out.keep k2)
  have HK2 := Lib.hid (HK1.out.trans k2)
  clear ho hf k2
  go_upto_region 6 with fail
  have HW := Lib.hid (w5_facts w2 (.slice OA 2 oc) (.slice FA 2 fc))
  obtain ⟨w5, hw5⟩ : ∃ w5, W5 w2 (.slice OA 2 oc) (.slice FA 2 fc) = w5 := ⟨_, rfl⟩
  rw [hw5] at HW
  unfold W5 at hw5
  rw [hw5]
  clear hw5
  have HK5 := Lib.hid (HK2.out.trans HW.out.k)
  have HPR : Hid (∀ W, Kept [] w5 W → Pr W (.slice OA 2 oc) (.slice FA 2 fc) (.slice (some ⟨w2.heap.size + 1, 0, none⟩) 1 1) (.slice (some ⟨w2.heap.size + 1 + 1, 0, none⟩) 2 2) (.slice (some ⟨w2.heap.size + 1 + 1 + 1, 0, none⟩) 2 2) oneX oneR) := fun W hk =>
    ⟨HO.out.keep (HW.out.k.trans hk), HF.out.keep (HW.out.k.trans hk), by decide, HW.out.s.keep hk, HW.out.t.keep hk, HW.out.q.keep hk⟩
  have HTT : Hid (∀ W, Kept [] w5 W → TreeAt W tb [-1, 0]) := fun W hk => HT2.out.keep (HW.out.k.trans hk)
  have HTR := Lib.hid (tree_of one_tree)
  have HG : Hid (∀ (W : World) (g : Nat), Kept [] w5 W → g = W.heap.size → Calls Tryz.prog 14 #[.pointer (some ⟨tb, 0, none⟩), .agg #[.slice OA 2 oc, .slice FA 2 fc], .agg #[.slice (some ⟨w2.heap.size + 1, 0, none⟩) 1 1, .slice (some ⟨w2.heap.size + 1 + 1, 0, none⟩) 2 2, .slice (some ⟨w2.heap.size + 1 + 1 + 1, 0, none⟩) 2 2], .slice (some ⟨g, 0, none⟩) 1 1] (W.alloc (.cells #[.int .i64 1] 3)) (TwoPost (W.alloc (.cells #[.int .i64 1] 3)) 0 [1, 0])) := fun W g hk hg => by
    have hk2 := hk.alloc (.cells #[.int .i64 1] 3)
    have := greedy_any tb [-1, 0] _ _ _ _ _ (.slice (some ⟨g, 0, none⟩) 1 1) oneX oneR [1] _ (HTT.out _ hk2) HTR.out (HPR.out _ hk2) (rds_built W [1] (by decide) (by decide) g hg)
    rwa [one_ge, one_gv] at this
  have HC : Hid (∀ (W : World) (v : Value) (A : List Int) (E : Int) (g : Nat), Kept [] w5 W → standE [-1, 0] oneX A [1] = E → Rds (Rk.int .i64) W v A → g = W.heap.size → Calls Tryz.prog 20 #[.pointer (some ⟨tb, 0, none⟩), .agg #[.slice OA 2 oc, .slice FA 2 fc], v, .slice (some ⟨g, 0, none⟩) 1 1] (W.alloc (.cells #[.int .i64 1] 3)) fun e w' => e = .returned (.int .i64 E) ∧ Kept [] (W.alloc (.cells #[.int .i64 1] 3)) w') := fun W v A E g hk hE hv hg => by
    have hk2 := hk.alloc (.cells #[.int .i64 1] 3)
    have := check_any tb [-1, 0] _ _ v (.slice (some ⟨g, 0, none⟩) 1 1) oneX A [1] _ (HTT.out _ hk2) HTR.out (HPR.out _ hk2).o (HPR.out _ hk2).f (by decide) (hv.keep ((Kept.refl [] W).alloc _)) (rds_built W [1] (by decide) (by decide) g hg)
    rwa [hE] at this
  have HWX : Hid (∀ V, Kept [] w5 V → _) := fun V hk => HW.out.cs hk
  obtain ⟨x0, x1, r0, r1, r2⟩ := HWX.out _ (Kept.refl _ _)
  go_wp2_with fail
  refine (HG.out _ _ (Kept.refl _ _) rfl).mono ?_
  rintro e w6 ⟨v6, rfl, hv6, k6⟩
  obtain ⟨GA, gc, rfl⟩ : ∃ A c, v6 = .slice A 2 c := by obtain ⟨A, c, h, _⟩ := hv6.form; exact ⟨A, c, h⟩
  have HV6 := Lib.hid hv6
  have HK6 : Hid (Kept [] w5 w6) := ((Kept.refl [] w5).alloc _).trans k6
  clear hv6 k6 x0 x1 r0 r1 r2
  obtain ⟨x0, x1, -, -, -⟩ := HWX.out _ HK6.out
  have HEQ : Hid (∀ g, g = w6.heap.size → Calls Tryz.prog 16 #[.slice GA 2 gc, .slice (some ⟨g, 0, none⟩) 2 2] (w6.alloc (.cells #[.int .i64 1, .int .i64 0] 3)) fun e w' => e = .returned (.bool true) ∧ ∃ m, w' = (w6.alloc (.cells #[.int .i64 1, .int .i64 0] 3)).drewN m) := fun g hg => by
    have := equal_any .i64 (.slice GA 2 gc) (.slice (some ⟨g, 0, none⟩) 2 2) [1, 0] [1, 0] _ (HV6.out.ints.keep ((Kept.refl [] w6).alloc _)) (RdI.built w6 [1, 0] 3 .i64 (by decide) g hg)
    rwa [decide_eq_true rfl] at this
  go_wp2_with fail
  refine (HEQ.out _ rfl).mono ?_
  rintro e w7 ⟨rfl, m, rfl⟩
  obtain ⟨w7, hw7⟩ : ∃ w7, (w6.alloc (.cells #[.int .i64 1, .int .i64 0] 3)).drewN m = w7 := ⟨_, rfl⟩
  have HK67 : Hid (Kept [] w6 w7) := by
    show Kept [] w6 w7
    rw [← hw7]
    exact ((Kept.refl [] w6).alloc _).drewN m
  rw [hw7]
  clear hw7 x0 x1
  have HK7 := Lib.hid (HK6.out.trans HK67.out)
  obtain ⟨x0, x1, -, -, -⟩ := HWX.out _ HK7.out
  go_wp2_with fail
  refine (HC.out _ _ _ _ _ HK7.out one_s1 (HV6.out.keep HK67.out) rfl).mono ?_
  rintro e w8 ⟨rfl, k8⟩
  have HK8 : Hid (Kept [] w5 w8) := (HK7.out.alloc _).trans k8
  clear k8 x0 x1
  obtain ⟨x0, x1, -, -, -⟩ := HWX.out _ HK8.out
  go_wp2_with fail
  refine (HC.out (w8.alloc (.cells #[.int .i64 0, .int .i64 1] 3)) _ _ _ _ (HK8.out.alloc _) one_s2 (rds_built w8 [0, 1] (by decide) (by decide) _ rfl) (by simp)).mono ?_
  rintro e w9 ⟨rfl, k9⟩
  have HK9 : Hid (Kept [] w5 w9) := ((HK8.out.alloc _).alloc _).trans k9
  clear k9 x0 x1
  go_wp2_with fail
  go_ret
  exact ⟨rfl, HK5.out.trans HK9.out⟩

end Go.Proofs.YtbaifjdealmckaaGreat

/- A tree, a plan, rates, the sources' brokers: what is handed in, and its trees. -/
set_option linter.unusedVariables false
set_option linter.unusedSimpArgs false
set_option linter.unnecessarySimpa false
namespace Go.Proofs.YtbaifjdealmckaaGreat
open Go.RowKit Go.Deep Go.ChangeShapes Go.Shelf Tr
attribute [local go_sem] Oper.semAt_some

abbrev GroundD := List Int × (PlanD × (RatesD × List Int))
def groundR : Rk GroundD := intsR.pair (planR.pair (ratesR.pair intsR))
/-- What is handed in stands in memory. -/
structure Gr (w : World) (qv ov fv sv tv pv zv : Value) (P : List Int) (x : PlanD) (r : RatesD) (S : List Int) : Prop where
  q : Rds (Rk.int .i64) w qv P
  pr : Pr w ov fv sv tv pv x r
  z : Rds (Rk.int .i64) w zv S
theorem Gr.keep {w w' : World} {qv ov fv sv tv pv zv : Value} {P : List Int} {x : PlanD} {r : RatesD} {S : List Int} (h : Gr w qv ov fv sv tv pv zv P x r S) (k : Kept [] w w') : Gr w' qv ov fv sv tv pv zv P x r S := ⟨h.q.keep k, h.pr.keep k, h.z.keep k⟩
abbrev grC (qv ov fv sv tv pv zv : Value) : Array Value := #[qv, ov, fv, sv, tv, pv, zv]
theorem gr_cells {w : World} {b : Nat} {qv ov fv sv tv pv zv : Value} (h : Blk w b (grC qv ov fv sv tv pv zv) 31) : w.cell? ⟨b, 0, none⟩ = some qv ∧ w.cell? ⟨b, 1, none⟩ = some ov ∧ w.cell? ⟨b, 2, none⟩ = some fv ∧ w.cell? ⟨b, 3, none⟩ = some sv ∧ w.cell? ⟨b, 4, none⟩ = some tv ∧ w.cell? ⟨b, 5, none⟩ = some pv ∧ w.cell? ⟨b, 6, none⟩ = some zv :=
  ⟨(h.cell 0).trans rfl, (h.cell 1).trans rfl, (h.cell 2).trans rfl, (h.cell 3).trans rfl, (h.cell 4).trans rfl, (h.cell 5).trans rfl, (h.cell 6).trans rfl⟩
theorem ground_reads {w : World} {v : Array Value} {g : GroundD} (h : groundR.K w g v.toList) (hb : planW g.2.1 + 1 ≤ 1048576) : ∃ qv ov fv sv tv pv zv, v = grC qv ov fv sv tv pv zv ∧ Gr w qv ov fv sv tv pv zv g.1 g.2.1 g.2.2.1 g.2.2.2 := by
  obtain ⟨c1, c2, he, h1, c3, c4, rfl, h2, c5, c6, rfl, h3, h4⟩ := h
  obtain ⟨qv, rfl, hq⟩ := intsR_cells h1
  obtain ⟨zv, rfl, hz⟩ := intsR_cells h4
  obtain ⟨c7, c8, rfl, k1, c9, c10, rfl, k2, k3⟩ := h3
  obtain ⟨sv, rfl, hs⟩ := intsR_cells k1
  obtain ⟨tv, rfl, ht⟩ := intsR_cells k2
  obtain ⟨pv, rfl, hp⟩ := intsR_cells k3
  obtain ⟨c11, c12, rfl, ⟨A1, n1, rfl, o1⟩, ⟨A2, n2, rfl, o2⟩⟩ := h2
  refine ⟨qv, _, _, sv, tv, pv, zv, ?_, hq, ⟨⟨_, _, rfl, o1⟩, ⟨_, _, rfl, o2⟩, planW_le hb, hs.ints, ht.ints, hp.ints⟩, hz⟩
  rw [← Array.toArray_toList (xs := v), he]
  rfl

/-- A ground's weight: that of its plan. -/
def groundW (g : GroundD) : Nat := planW g.2.1
set_option maxRecDepth 100000 in
theorem ground_ofB : groundR.OfB groundW Tryz.prog 31 := by
  intro H enc w base spare held fuel cs x h
  obtain ⟨xs, n, hn, rfl, hl, hlen, hf⟩ := DataW.trod_struct Tryz.underlying31 h
  have hl7 : cs.length = 7 := hl.trans (by kernel_rfl)
  obtain ⟨a, b, c, d, e, f, g, rfl⟩ : ∃ a b c d e f g, cs = [a, b, c, d, e, f, g] := by
    clear h hf hl
    match cs with
    | [a, b, c, d, e, f, g] => exact ⟨a, b, c, d, e, f, g, rfl⟩
    | [] => simp at hl7
    | [_] => simp at hl7
    | [_, _] => simp at hl7
    | [_, _, _] => simp at hl7
    | [_, _, _, _] => simp at hl7
    | [_, _, _, _, _] => simp at hl7
    | [_, _, _, _, _, _] => simp at hl7
    | _ :: _ :: _ :: _ :: _ :: _ :: _ :: _ :: _ => simp at hl7
  have hx4 : xs.length = 4 := by simpa using hlen
  obtain ⟨y0, y1, y2, y3, rfl⟩ : ∃ y0 y1 y2 y3, xs = [y0, y1, y2, y3] := by
    clear hf
    match xs with
    | [y0, y1, y2, y3] => exact ⟨y0, y1, y2, y3, rfl⟩
    | [] => simp at hx4
    | [_] => simp at hx4
    | [_, _] => simp at hx4
    | [_, _, _] => simp at hx4
    | _ :: _ :: _ :: _ :: _ :: _ => simp at hx4
  have h0 : DataW.trod enc Tryz.prog w base spare held n 22 (([a, b, c, d, e, f, g].drop 0).take (Tryz.prog.cellsOf 22)) = some y0 := hf 0 _ rfl
  have h1 : DataW.trod enc Tryz.prog w base spare held n 26 (([a, b, c, d, e, f, g].drop 1).take (Tryz.prog.cellsOf 26)) = some y1 := hf 1 _ rfl
  have h2 : DataW.trod enc Tryz.prog w base spare held n 29 (([a, b, c, d, e, f, g].drop 3).take (Tryz.prog.cellsOf 29)) = some y2 := hf 2 _ rfl
  have h3 : DataW.trod enc Tryz.prog w base spare held n 22 (([a, b, c, d, e, f, g].drop 6).take (Tryz.prog.cellsOf 22)) = some y3 := hf 3 _ rfl
  rw [show Tryz.prog.cellsOf 22 = 1 from by kernel_rfl] at h0 h3
  rw [show Tryz.prog.cellsOf 26 = 2 from by kernel_rfl] at h1
  rw [show Tryz.prog.cellsOf 29 = 3 from by kernel_rfl] at h2
  obtain ⟨x0, k0⟩ := intsR_of (cs := [a]) h0
  obtain ⟨x1, k1, b1⟩ := planR_ofB (cs := [b, c]) h1
  obtain ⟨x2, k2⟩ := ratesR_of (cs := [d, e, f]) h2
  obtain ⟨x3, k3⟩ := intsR_of (cs := [g]) h3
  refine ⟨(x0, (x1, (x2, x3))), ⟨[a], [b, c, d, e, f, g], rfl, k0, [b, c], [d, e, f, g], rfl, k1, [d, e, f], [g], rfl, k2, k3⟩, ?_⟩
  unfold groundW
  dsimp only
  have hq := bulk_part (d := y1.1) (l := [y0.1, y1.1, y2.1, y3.1]) (by simp)
  show planW x1 + 1 ≤ Rows.uptoBulkAll [y0.1, y1.1, y2.1, y3.1] + 1
  omega

def TreesPost (w : World) (P : List Int) (et : Int) : Ending → World → Prop := fun e w' => Kept [] w w' ∧
  ((et ≠ 0 ∧ e = .returned (.tuple #[.pointer none, .pointer none, .bool false])) ∨
   (et = 0 ∧ ∃ tb rb tvv, e = .returned (.tuple #[.pointer (some ⟨tb, 0, none⟩), .pointer (some ⟨rb, 0, none⟩), .bool true]) ∧ TreeAt w' tb P ∧ RT w' rb tvv P))
set_option maxRecDepth 100000 in
set_option maxHeartbeats 2000000 in
theorem trees_any (qv ov fv sv tv pv zv : Value) (P : List Int) (w : World) (hq : RdI w .i64 qv P) : Calls Tryz.prog 5 #[.agg (grC qv ov fv sv tv pv zv)] w (TreesPost w P (treeErr P)) := by
  have HNEW := Lib.hid (fun (W : World) (hk : Kept [] w W) => new_any qv P W (hq.keep hk))
  have HRNEW := Lib.hid (fun (W : World) (hk : Kept [] w W) => rnew_any qv P W (hq.keep hk))
  unfold NewPost at HNEW
  unfold RNewPost at HRNEW
  obtain ⟨et, het⟩ : ∃ et, treeErr P = et := ⟨_, rfl⟩
  rw [het] at HNEW HRNEW ⊢
  clear het hq
  have HK0 := Lib.hid ((Kept.refl [] w).alloc (.cells (grC qv ov fv sv tv pv zv) 31))
  have HB := Lib.hid (Blk.new w (grC qv ov fv sv tv pv zv) 31)
  go_enter Tryz.func5, Tryz.ntmps5
  go_wp2_with fail
  obtain ⟨w0, hw0⟩ : ∃ w0, w.alloc (.cells (grC qv ov fv sv tv pv zv) 31) = w0 := ⟨_, rfl⟩
  rw [hw0] at HK0 HB ⊢
  clear hw0
  obtain ⟨a0, -, -, -, -, -, -⟩ := gr_cells HB.out
  refine (HNEW.out _ HK0.out).mono ?_
  rintro e w1 ⟨k1, h1⟩
  have HK1 := Lib.hid k1
  obtain ⟨a0, -, -, -, -, -, -⟩ := gr_cells (HB.out.kept k1 (by simp))
  clear k1
  rcases h1 with ⟨hE, rfl⟩ | ⟨rfl, rfl, htr⟩
  · have hE' : (et == 0) = false := by rw [beq_eq_false_iff_ne]; exact hE
    go_wp2_with fail
    refine (HRNEW.out _ (HK0.out.trans HK1.out)).mono ?_
    rintro e w2 ⟨k2, h2⟩
    have HK2 := Lib.hid (HK1.out.trans k2)
    clear k2 a0
    rcases h2 with ⟨_, rfl⟩ | ⟨h3, _⟩
    · go_wp2_with fail
      go_ret3
      exact ⟨HK0.out.trans HK2.out, .inl ⟨hE, rfl⟩⟩
    · exact absurd h3 hE
  · have HTA := Lib.hid htr
    clear htr
    go_wp2_with fail
    refine (HRNEW.out _ (HK0.out.trans HK1.out)).mono ?_
    rintro e w2 ⟨k2, h2⟩
    have HK2 := Lib.hid (HK1.out.trans k2)
    have HTA2 := Lib.hid (HTA.out.keep k2)
    clear k2 a0
    rcases h2 with ⟨h3, _⟩ | ⟨_, rb, tvv, rfl, hrt⟩
    · exact absurd (by first | trivial | rfl) h3
    · have HRT2 := Lib.hid hrt
      clear hrt
      go_wp2_with fail
      go_ret3
      exact ⟨HK0.out.trans HK2.out, .inr ⟨by first | trivial | rfl, _, _, _, rfl, HTA2.out, HRT2.out⟩⟩

end Go.Proofs.YtbaifjdealmckaaGreat

/- A shelf of []int. -/
import Derived.Test.YtdboipjbpkhacaaS22
import Derived.Test.YtdboipjbpkhacaaS9
set_option linter.unusedVariables false
set_option linter.unusedSimpArgs false
set_option linter.unnecessarySimpa false
namespace Go.Proofs.Ytdboipjbpkhacaa
open Go.RowKit Go.Shelf

abbrev Ti := Int × Int × Value
def cellsI (xs : List Ti) : List Value := xs.flatMap (fun p => [.int .i64 p.1, .int .i64 p.2.1, p.2.2])
theorem cellsI_cons (x : Ti) (xs : List Ti) : cellsI (x :: xs) = .int .i64 x.1 :: .int .i64 x.2.1 :: x.2.2 :: cellsI xs := rfl
theorem cellsI_len (xs : List Ti) : (cellsI xs).length = xs.length * 3 := by
  induction xs with
  | nil => rfl
  | cons x xs ih => rw [cellsI_cons]; simp only [List.length_cons, ih]; omega
theorem infoTi : (Try.prog.info? 89).map (fun i => (i.zero.map (fun z => z.cells.size), i.size, i.bytes)) = some (some 3, 3, 40) := by kernel_rfl
theorem thInfoI : ∃ i z, Try.prog.info? 89 = some i ∧ i.zero = some z ∧ i.size = 3 ∧ i.bytes = 40 ∧ z.cells.size = 3 := by
  have h := infoTi
  rw [Option.map_eq_some_iff] at h
  obtain ⟨i, hi, h⟩ := h
  simp only [Prod.mk.injEq] at h
  obtain ⟨hz, h1, h2⟩ := h
  rw [Option.map_eq_some_iff] at hz
  obtain ⟨z, hz, hs⟩ := hz
  exact ⟨i, z, hi, hz, h1, h2, hs⟩
def IsOne (L : List Ti) : Prop := ∀ u ∈ cellsI L, u.oneCell' = true

theorem newI_any (w : World) : Calls Try.prog 25 #[.int .i64 1] w fun e w' => e = .returned (.tuple #[.pointer (some ⟨w.heap.size, 0, none⟩), .int .i64 0]) ∧ w' = w.alloc (.cells #[.int .i64 1, .slice none 0 0] 87) := by
  go_enter Try.func25, Try.ntmps25
  go_wp2_with fail
  go_ret2
  exact ⟨rfl, rfl⟩

def PutIPost (w : World) (b : Nat) (sv : Value) (e : Ending) (w' : World) : Prop :=
  e = .returned (.int .i64 0) ∧ Kept [b] w w' ∧ ∃ g cap, Blk w' b #[.int .i64 1, .slice (some ⟨g, 0, none⟩) 1 cap] 87 ∧ w'.ownsRow 0 89 3 (.slice (some ⟨g, 0, none⟩) 1 cap) 1 (cellsI [(2, 3, sv)])

theorem putI_done {w w4 : World} {b g cap H : Nat} {sv : Value} (hb : Blk w b #[.int .i64 1, .slice none 0 0] 87) (hk : Kept [] w w4)
    (ho : w4.ownsRow 0 89 3 (.slice (some ⟨g, 0, none⟩) (0 + 1) cap) (0 + 1) ([] ++ [.int .i64 2, .int .i64 3, sv])) (hat : (Value.slice none 0 0).ownBlock = some g ∨ g = H) (hH : w.heap.size ≤ H) :
    PutIPost w b sv (.returned (.int .i64 0)) (w4.setCell ⟨b, 1, none⟩ (.slice (some ⟨g, 0, none⟩) 1 cap)) := by
  have hbl := hb.lt
  have hgb : g ≠ b := by
    rcases hat with h | h
    · cases h
    · omega
  have hks : Kept [b] w4 (w4.setCell ⟨b, 1, none⟩ (.slice (some ⟨g, 0, none⟩) 1 cap)) := (Kept.refl [b] w4).setCell (.inl (by simp)) _
  exact ⟨rfl, hk.nil.trans hks, g, cap, (hb.kept hk (by simp)).set 1 _, ownsRow_keep ho hks (by intro z hz; simp [Value.ownBlock] at hz; subst hz; simpa using hgb)⟩

set_option maxRecDepth 100000 in
set_option maxHeartbeats 4000000 in
theorem putI_any (b g2 c2 : Nat) (w : World) (hb : Blk w b #[.int .i64 1, .slice none 0 0] 87) :
    Calls Try.prog 26 #[.pointer (some ⟨b, 0, none⟩), .agg #[.int .i64 2, .int .i64 3], .slice (some ⟨g2, 0, none⟩) 2 c2] w (PutIPost w b (.slice (some ⟨g2, 0, none⟩) 2 c2)) := by
  obtain ⟨i0, z0, hi0, hz0, hz1, hz2, hz3⟩ := thInfoI
  have c0 := hb.cell 0
  have c1 := hb.cell 1
  simp at c0 c1
  have hbl := hb.lt
  have k1 := (Kept.refl [] w).alloc (.cells #[.int .i64 2, .int .i64 3] 29)
  have c0a := k1.cell (by simp) c0
  have c1a := k1.cell (by simp) c1
  have HB := Lib.hid hb
  have HK1 := Lib.hid k1
  clear k1 hb
  go_enter Try.func26, Try.ntmps26
  go_wp2_with fail
  go_quiet (fail)
  go_wp2_with fail
  go_region_law (refine step_append_lies _ rfl _ _ 85 rfl 0 89 i0 z0 3 40 Try.underlying85 hi0 hz0 hz1 hz2 hz3 (by decide) (.slice none 0 0) 0 [] rfl (World.ownsRow_nil _ _ _ _) ⟨w.heap.size + 1, 0, none⟩ 1 1 [.int .i64 2, .int .i64 3, .slice (some ⟨g2, 0, none⟩) 2 c2] rfl rfl (cell_three_at _ _ (by simp) _ _ _ _) (by simp [Value.oneCell']) (by omega) (by unfold maxLen; omega) (by omega) (Nat.zero_le _) _ rfl ?_; intro g cap w4 hown4 hgrow4 hat4 hlt4; have hk4 : Kept [] w w4 := ((HK1.out.drewN _).alloc _).grown hgrow4 (fun x hx => by cases hx); have hb4 := HB.out.kept hk4 (by simp); have c4 : w4.cell? ⟨b, 1, none⟩ = some (.slice none 0 0) := hb4.cell 1; have f4 : w4.frozen? ⟨b, 1, none⟩ = false := hb4.free 1; clear hgrow4)
  all_goals
    go_wp2_with fail
    go_ret
    exact putI_done HB.out hk4 hown4 hat4 (by simp; omega)

theorem lenI_any (b g cap n : Nat) (m : Int) (w : World) (hb : Blk w b #[.int .i64 m, .slice (some ⟨g, 0, none⟩) n cap] 87) (hn : n ≤ 16384) : Calls Try.prog 29 #[.pointer (some ⟨b, 0, none⟩)] w fun e w' => e = .returned (.int .i64 n) ∧ w = w' := by
  have c1 := hb.cell 1
  simp at c1
  clear hb
  go_enter Try.func29, Try.ntmps29
  go_wp2_with fail
  go_ret
  exact ⟨rfl, rfl⟩

attribute [local go_sem] Lib.run_eql_slice_nil

theorem own_emptyI (w : World) (base : Nat) (hb : base ≤ w.heap.size) : (w.alloc (.cells #[] 89)).ownsRow base 89 3 (.slice (some ⟨w.heap.size, 0, none⟩) 0 0) 0 [] := by
  refine ⟨rfl, .inr ⟨w.heap.size, 0, #[], rfl, hb, ?_, Nat.le_refl _, by unfold maxLen; omega, rfl, rfl⟩⟩
  exact Blk.new w _ _

/-- What hands out a new row of things. -/
def RowPostI (w : World) (L : List Ti) (e : Ending) (w' : World) : Prop :=
  ∃ v, e = .returned v ∧ w'.ownsRow w.heap.size 89 3 v L.length (cellsI L) ∧ Kept [] w w'

set_option maxRecDepth 100000 in
set_option maxHeartbeats 4000000 in
theorem clonesI_any (v : Value) (L : List Ti) (base : Nat) (w : World) (ho : w.ownsRow base 89 3 v L.length (cellsI L)) (hl : L.length ≤ 16384) (hone : IsOne L) :
    Calls Try.prog 46 #[v] w (RowPostI w L) := by
  obtain ⟨i0, z0, hi0, hz0, hz1, hz2, hz3⟩ := thInfoI
  have HONE := Lib.hid hone
  clear hone
  rcases ho.2 with ⟨rfl, h0⟩ | ⟨g, cap, cur, rfl, hbg, hg, hnc, hcm, hcs, htk⟩
  · have e : L = [] := List.eq_nil_of_length_eq_zero h0
    subst e
    clear ho
    go_enter Try.func46, Try.ntmps46
    go_wp2_with fail
    go_ret
    exact ⟨_, rfl, World.ownsRow_nil _ _ _ _, Kept.refl _ _⟩
  · have HC : Hid (∀ j u, (cellsI L)[j]? = some u → w.cell? ((⟨g, 0, none⟩ : Addr).add j) = some u) := fun j u hu => by
      have ha : (⟨g, 0, none⟩ : Addr).add j = ⟨g, j, none⟩ := by unfold Addr.add; split <;> simp_all
      have hj := (List.getElem?_eq_some_iff.1 hu).1
      rw [cellsI_len] at hj
      rw [ha, ho.cellAt j hj]; exact hu
    have HLN := Lib.hid (cellsI_len L)
    obtain ⟨n, hn⟩ : ∃ n, L.length = n := ⟨_, rfl⟩
    rw [hn] at hl hnc HLN ⊢
    have HN := Lib.hid hn
    clear hn ho hg hcs htk
    unfold maxLen at hcm
    go_enter Try.func46, Try.ntmps46
    go_wp2_with (at_builtin; refine wpList_append_own _ rfl _ _ 85 rfl w.heap.size 89 i0 z0 3 40 Try.underlying85 hi0 hz0 hz1 hz2 hz3 (by decide) _ 0 [] rfl (own_emptyI w _ (Nat.le_refl _)) ⟨g, 0, none⟩ n cap (cellsI L) rfl HLN.out (fun j u hu => ((Kept.refl [] w).alloc _).cell (by simp) (HC.out j u hu)) (fun u hu => HONE.out u hu) (by unfold maxLen; omega) (by omega) (by simp) ?_)
    intro v' w4 hown4 hgrow4 _
    have hK4 : Kept [] w w4 := ((Kept.refl [] w).alloc _).grown hgrow4 (fun x hx => .inr (by simp [Value.ownBlock] at hx; omega))
    have HOWN4 := Lib.hid hown4
    clear hown4 hgrow4
    go_wp2_with fail
    go_ret
    refine ⟨_, rfl, ?_, hK4⟩
    have := HOWN4.out
    rw [HN.out]
    simpa using this


def encI (sv : Value) (_ : Unit) : Array Value := #[.agg #[.int .i64 2, .int .i64 3], sv]

set_option maxRecDepth 100000 in
set_option maxHeartbeats 8000000 in
/-- The iterator over a shelf of one. -/
theorem all1I_stops (m : Nat) (hm : 1 ≤ m) (bs b g cap g2 c2 : Nat) (w : World) (hb : Blk w b #[.int .i64 1, .slice (some ⟨g, 0, none⟩) 1 cap] 87) (ho : w.ownsRow 0 89 3 (.slice (some ⟨g, 0, none⟩) 1 cap) 1 (cellsI [(2, 3, .slice (some ⟨g2, 0, none⟩) 2 c2)])) (hbs : w.cell? ⟨bs, 0, none⟩ = some (.pointer (some ⟨b, 0, none⟩))) :
    SeqStopsK Fence.wide m Try.prog 45 #[.pointer (some ⟨bs, 0, none⟩)] (encI (.slice (some ⟨g2, 0, none⟩) 2 c2)) (KeptC []) (fun ys => ys = [()]) (fun _ => True) 1 w := by
  intro l J Jx W hW hJ hJx hY h0
  have hsW := hW.size
  have htW := (hW.cell (p := ⟨bs, 0, none⟩) (World.block_lt_of_cell? w _ hbs)).trans hbs
  have kW := Kept.of_below hW
  have c1 := (hb.kept kW (by simp)).cell 1
  simp at c1
  have CL := clonesI_any _ [(2, 3, .slice (some ⟨g2, 0, none⟩) 2 c2)] 0 W (ownsRow_keep ho kW (by simp)) (by simp) (by intro u hu; simp [cellsI] at hu; rcases hu with rfl | rfl | rfl <;> rfl)
  clear hb ho hbs
  refine callsIn_of_wp Try.func45 rfl trivial ?_ rfl
  simp only [Try.ntmps45, List.size_toArray, List.length_cons, List.length_nil, Nat.reduceAdd, Nat.reduceSub, Array.replicate_succ, Array.replicate_zero, List.push_toArray, List.append_toArray, List.nil_append, List.cons_append]
  gi_wp2_with (refine ⟨trivial, ?_⟩; gi_at_call 46; refine (callsIn_wide.2 CL).mono ?_; rintro e w1 ⟨v, rfl, hown, hk1⟩; obtain ⟨g5, cap5, rfl, hg5, hg5l⟩ := hown.form (by simp))
  have hJ1 := hJ _ W w1 none h0 hk1.grownBy (fun r e => by cases e)
  have hs1 := hk1.size
  have e1 : w1.cell? ⟨g5, 0, none⟩ = some (.int .i64 2) := hown.cellAt 0 (by simp)
  have e2 : w1.cell? ⟨g5, 1, none⟩ = some (.int .i64 3) := hown.cellAt 1 (by simp)
  have e3 : w1.cell? ⟨g5, 2, none⟩ = some (.slice (some ⟨g2, 0, none⟩) 2 c2) := hown.cellAt 2 (by simp)
  clear hown CL
  gi_loopw [13] (fun i wr => (i = .int .i64 0 ∧ J [] wr ∧ Kept [] w1 wr) ∨ (i = .int .i64 1 ∧ J [()] wr)) (fun i _ => 1 - (intOf i).toNat)
  case atStart => exact .inl ⟨rfl, hJ1, Kept.refl _ _⟩
  case round =>
    rcases hrel with ⟨rfl, hJs, hkr⟩ | ⟨rfl, hJs⟩
    · have f1 := hkr.cell (by simp) e1
      have f2 := hkr.cell (by simp) e2
      have f3 := hkr.cell (by simp) e3
      have hJa := hJ _ wr _ none hJs ((Kept.refl [] wr).alloc (.cells #[.int .i64 2, .int .i64 3, .slice (some ⟨g2, 0, none⟩) 2 c2] 89)).grownBy (fun r e => by cases e)
      obtain ⟨fn, tmps, assign, body, hy, hR⟩ := hY _ () _ hJa (by simp)
      dsimp only [encI] at hy
      gi_wp2_with fail
      refine hR.mono ?_
      rintro e W3 (⟨rfl, hJ3, hk3⟩ | ⟨rfl, hJx3⟩)
      · gi_wp2_with fail
        go_roundw
        case rel => exact .inr ⟨by go_num, hJ3⟩
        case measure => simp [intOf]
      · gi_wp2_with fail
        refine bodyPost_ret (results_none rfl _ _ _) rfl ?_
        exact ⟨⟨_, rfl⟩, .inr ⟨_, trivial, hJx3⟩⟩
    · gi_wp2
      go_end0
      exact ⟨⟨_, rfl⟩, .inl ⟨_, rfl, hJs⟩⟩

theorem allI_sharp (tp : Option Addr) (w : World) : Calls Try.prog 27 #[.pointer tp] w fun e w' => e = .returned (.func (.func 45) #[] #[.pointer (some ⟨w.heap.size, 0, none⟩)]) ∧ w' = w.alloc (.cells #[.pointer tp] 63) := by
  go_enter Try.func27, Try.ntmps27
  go_wp2_with fail
  go_ret
  exact ⟨rfl, rfl⟩

end Go.Proofs.Ytdboipjbpkhacaa

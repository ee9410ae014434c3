/- What an operator's inputs cost, if it stands at a broker: the program's in. -/
import Derived.Test.YtiiiflckphgdiaaM2
import Derived.Deep.RegionHeld3
set_option linter.unusedVariables false
set_option linter.unusedSimpArgs false
set_option linter.unnecessarySimpa false
namespace Go.Proofs.Ytiiiflckphgdiaa
open Go.RowKit Go.Shelf Tr
attribute [local go_sem] Oper.semAt_some

def srcV (P : List Int) (h : Int) : List Int → List Int → List Int
  | n :: ns, a :: ys => wayV P n a h :: srcV P h ns ys
  | _, _ => []
theorem srcV_le (P : List Int) (h : Int) : ∀ (a b : List Int), (srcV P h a b).length ≤ b.length
  | n :: ns, a :: ys => by have := srcV_le P h ns ys; simp [srcV]; omega
  | [], b => by simp [srcV]
  | _ :: _, [] => by simp [srcV]
def inV (P : List Int) (x : PlanD) (r : RatesD) (O A S : List Int) (k : Nat) (h : Int) : List Int :=
  if (opAt x k).1 = 1 then srcV P h r.1 S else (rowAt x k).map (fun f => wayV P (O.getD f.toNat 0) (A.getD f.toNat 0) h)

/-- A model in memory. -/
structure MdAt (w : World) (mb b : Nat) (P : List Int) (x : PlanD) (r : RatesD) (O A S : List Int) (ov fv sv tv pv av zv uv : Value) : Prop where
  blk : Blk w mb (mdC b ov fv sv tv pv av zv uv) 105
  tree : TreeAt w b P
  ops : Rds opR w ov x.1
  rows : Rds intsR w fv x.2
  src : RdI w .i64 sv r.1
  at_ : RdI w .i64 av A
  ats : RdI w .i64 zv S
  out : RdI w .i64 uv O
theorem MdAt.keep {w w' : World} {mb b : Nat} {P : List Int} {x : PlanD} {r : RatesD} {O A S : List Int} {ov fv sv tv pv av zv uv : Value} (h : MdAt w mb b P x r O A S ov fv sv tv pv av zv uv) (k : Kept [] w w') : MdAt w' mb b P x r O A S ov fv sv tv pv av zv uv :=
  ⟨h.blk.kept k (by simp), h.tree.keep k, h.ops.keep k, h.rows.keep k, h.src.keep k, h.at_.keep k, h.ats.keep k, h.out.keep k⟩

set_option maxRecDepth 100000 in
set_option maxHeartbeats 4000000 in
theorem in_term (mb b : Nat) (P : List Int) (x : PlanD) (r : RatesD) (O A S : List Int) (ov fv sv tv pv av zv uv : Value) (k : Nat) (h : Int) (w : World) (hM : MdAt w mb b P x r O A S ov fv sv tv pv av zv uv) (hT : Tree P)
    (hk : k < x.1.length) (h1 : (opAt x k).1 = 1) (hl : S.length = r.1.length) (hl2 : S.length ≤ 1048576) :
    Calls Try.prog 49 #[.pointer (some ⟨mb, 0, none⟩), .int .i64 k, .int .i64 h] w (IntsPost w (inV P x r O A S k h)) := by
  obtain ⟨i0, hi0, hz0, hz1, hz2⟩ := info_parts info64
  have HM := Lib.hid hM
  rw [inV, if_pos h1]
  have HWY := Lib.hid (fun (n a : Int) (W : World) (hW : Kept [] w W) => way_any mb b P n a h W (hM.tree.keep hW) hT ((hM.blk.kept hW (by simp)).cell 0))
  obtain ⟨b1, off, c, o, cs, he, hx, hE, hc⟩ := hM.ops.at hk
  obtain ⟨xv, cv, rfl, hrt, hrc, hz1', hz2'⟩ := opR_cells hE
  obtain ⟨o0, o1, o2, o3, o4, o5, o6⟩ := o
  have e0 := hc 0 (by decide)
  simp [opCells, show opR.sz = 7 from rfl] at e0
  have ho1 : o0 = 1 := by rw [opAt_of hx] at h1; exact h1
  subst ho1
  subst he
  obtain ⟨n, hn⟩ : ∃ n, x.1.length = n := ⟨_, rfl⟩
  rw [hn] at hk HM
  obtain ⟨ZA, zc, rfl, hmZ, -⟩ := hM.ats
  obtain ⟨SA, sc, rfl, hmS, -⟩ := hM.src
  obtain ⟨m, hm⟩ : ∃ m, S.length = m := ⟨_, rfl⟩
  rw [hm] at hl hl2 hmZ HM
  rw [← hl] at hmS HM
  have HLS := Lib.hid hl
  have HLZ := Lib.hid hm
  have c1 := (HM.out.blk).cell 1
  have c3 := (HM.out.blk).cell 3
  have c7 := (HM.out.blk).cell 7
  simp at c1 c3 c7
  have hgl := srcV_le P h r.1 S
  rw [hm] at hgl
  obtain ⟨G, hG⟩ : ∃ G, srcV P h r.1 S = G := ⟨_, rfl⟩
  rw [hG] at hgl ⊢
  have HG := Lib.hid hG
  have HGL : Hid (G.length ≤ 1048576) := by show _ ≤ _; omega
  clear hM h1 hx hE hc hrt hrc hz1' hz2' hn hl hm hgl hG
  go_enter Try.func49, Try.ntmps49
  go_wp2_with fail
  go_loopw [7, 27] (fun o jj wr => ∃ (j : Nat) (L : List Int), j ≤ m ∧ jj = .int .i64 j ∧ L ++ srcV P h (r.1.drop j) (S.drop j) = G ∧ wr.ownsRow w.heap.size 2 1 o L.length (L.map (.int .i64)) ∧ Kept [] w wr) (fun _ jj _ => m - (intOf jj).toNat)
  case atStart => exact ⟨0, [], by omega, rfl, by rw [List.drop_zero, List.drop_zero]; exact HG.out, World.ownsRow_nil _ _ _ _, Kept.refl _ _⟩
  case round =>
    obtain ⟨j, L, hj, rfl, hg, hown, hK⟩ := hrel
    have HGO := Lib.hid hg
    obtain ⟨AA, cc, rfl⟩ := own_len hown
    have HOWN := Lib.hid hown
    have HGB : Hid (∀ x, (Value.slice AA L.length cc).ownBlock = some x → w.heap.size ≤ x) := fun x hx => (hown.lt x hx).1
    have HK := Lib.hid hK
    have hsz2 := hK.size
    clear hg hown hK
    by_cases hlt : j < m
    · obtain ⟨bz, oz, c', a, he, hy, hca0⟩ := RdI.at HM.out.ats (i := j) (by rw [HLZ.out]; exact hlt)
      injection he with he1 he2 he3
      subst he1 he3
      obtain ⟨bs, os, c'', s, he, hy2, hcs0⟩ := RdI.at HM.out.src (i := j) (by rw [← HLS.out]; exact hlt)
      injection he with he1 he4 he3
      subst he1 he3
      have hca := HK.out.cell (by simp) hca0
      have hcs := HK.out.cell (by simp) hcs0
      have c1 := HK.out.cell (by simp) c1
      have c3 := HK.out.cell (by simp) c3
      have c7 := HK.out.cell (by simp) c7
      have HD1 := Lib.hid (drop_at hy)
      have HD2 := Lib.hid (drop_at hy2)
      obtain ⟨ML, hML⟩ : ∃ ML, L.length = ML := ⟨_, rfl⟩
      rw [hML] at HOWN HGB ⊢
      have HMLL := Lib.hid hML
      obtain ⟨y, hyy⟩ : ∃ y, wayV P s a h = y := ⟨_, rfl⟩
      have HW := Lib.hid (HWY.out s a wr HK.out)
      rw [hyy] at HW
      have HGN : Hid (L ++ y :: srcV P h (r.1.drop (j + 1)) (S.drop (j + 1)) = G) := by
        show _ = _
        rw [← HGO.out, HD1.out, HD2.out, srcV, hyy]
      have hML3 : ML < 1048576 := by
        have h1 := HGL.out
        rw [← HGN.out, List.length_append, List.length_cons, HMLL.out] at h1
        omega
      clear hy hy2 he2 he4 hca0 hcs0 hML hyy
      go_wp2_with fail
      refine HW.out.mono ?_
      rintro e w5 ⟨rfl, k5⟩
      have HK5 := Lib.hid (HK.out.trans k5)
      have hown5 := ownsRow_keep HOWN.out k5 (by simp)
      have hs5 := HK5.out.size
      clear k5
      go_wp2_with (at_builtin; refine wpList_append_own_at _ rfl _ _ 22 rfl w.heap.size 2 i0 (.int .i64 0) 1 8 Try.underlying22 hi0 hz0 hz1 hz2 rfl (by decide) _ ML (L.map (.int .i64)) rfl (hown5.alloc _) ⟨w5.heap.size, 0, none⟩ 1 1 [.int .i64 y] rfl rfl (cell_one_at _ _ _ _ rfl) (by simp [Value.oneCell']) (by unfold maxLen; omega) (by omega) (by simp; omega) ?_)
      intro v' w6 hown6 hgrow6 _ _
      have HK6 : Hid (Kept [] w w6) := (HK5.out.alloc _).grown hgrow6 (fun x hx => .inr (HGB.out x hx))
      have HOWN6 := Lib.hid hown6
      clear hown5 hown6 hgrow6
      go_wp2_with fail
      go_roundw
      case rel => exact ⟨j + 1, L ++ [y], by omega, by go_num, by rw [← HGN.out]; simp, by rw [List.map_append, List.length_append, HMLL.out]; exact HOWN6.out, HK6.out⟩
      case measure => simp [intOf]; omega
    · have HLG : Hid (L = G) := by
        show _ = _
        have := HGO.out
        rw [List.drop_eq_nil_of_le (show S.length ≤ j from by rw [HLZ.out]; omega)] at this
        rw [← this]
        cases r.1.drop j <;> simp [srcV]
      go_wp2_with fail
      go_ret
      refine ⟨_, rfl, ?_, HK.out⟩
      rw [← HLG.out]
      exact HOWN.out

end Go.Proofs.Ytiiiflckphgdiaa

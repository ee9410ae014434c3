/- The reference's Clone. -/
import Derived.Test.YtdboipjbpkhacaaS21
set_option linter.unusedVariables false
set_option linter.unusedSimpArgs false
set_option linter.unnecessarySimpa false
namespace Go.Proofs.Ytdboipjbpkhacaa
open Go.RowKit Go.Shelf

/-- 'append' at a step of a region that draws, whatever is appended, nothing too. -/
theorem step_append_any {P : Program} (w : World) {ops : Array Oper} {o : Oper} {a : Act} {K : Act → World → Prop} {Q : Exit → Act → World → Prop} {E : Prop} (hgd : o.guard = none) (s x : Operand) (t : TypeId)
    (ho : o.op = .call { callee := .builtin .append, args := #[s, x], argTypes := #[t, t] })
    (base : Nat) (e : TypeId) (i : TypeInfo) (z : Value) (size bytes : Nat) (ht : P.underlying t = some (.slice e)) (hi : P.info? e = some i) (hz : i.zero = some z)
    (hsize : i.size = size) (hby : i.bytes = bytes) (hzs : z.cells.size = size) (hsz : 0 < size)
    (v : Value) (n : Nat) (xs : List Value) (hs : a.eval s = v) (hown : w.ownsRow base e size v n xs)
    (ad : Addr) (m c : Nat) (news : List Value) (hx : a.eval x = .slice (some ad) m c) (hl : news.length = m * size) (hnews : ∀ j u, news[j]? = some u → w.cell? (ad.add j) = some u) (h1 : ∀ u ∈ news, u.oneCell' = true)
    (h63 : n + m ≤ maxLen) (hbytes : (n + m) * bytes ≤ 140737488355328) (hbase : base ≤ w.heap.size)
    (h : ∀ v' w', w'.ownsRow base e size v' (n + m) (xs ++ news) → w.grownBy w' v.ownBlock → K (a.put o.dst v') w') :
    if Region.wanted o (yielded ops a.tmps) = true then Oper.wp P o a w K Q else E := by
  have hw : Region.wanted o (yielded ops a.tmps) = true := by simp [Region.wanted, hgd]
  rw [if_pos hw]
  obtain ⟨v', w', hr, h2, h3, _, _⟩ := run_append_own_at (P := P) w base t o.type e i z size bytes ht hi hz hsize hby hzs hsz v n xs hown ad m c news hl hnews h1 h63 hbytes hbase
  unfold Oper.wp execOp
  simp only [ho, resolve, invoke, builtin, Sem.run_bind, Sem.run_pure, Result.andThen_ok, List.map_toArray, List.map_cons, List.map_nil, hs, hx, hr]
  exact h v' w' h2 h3

theorem own_zero {w : World} {base : Nat} {e : TypeId} {size : Nat} {v : Value} {n : Nat} {xs : List Value} (h : w.ownsRow base e size v (0 + n) ([] ++ xs)) : w.ownsRow base e size v n xs := by
  rw [Nat.zero_add, List.nil_append] at h; exact h
def RTwinPost (w : World) (m : Int) (L : List Th) (e : Ending) (w' : World) : Prop :=
  ∃ b' F', e = .returned (.pointer (some ⟨b', 0, none⟩)) ∧ RSh w' F' b' m L ∧ (∀ z ∈ F', w.heap.size ≤ z) ∧ Kept [] w w'
theorem rtwin_done {w w2 : World} {m : Int} {L : List Th} {v' : Value} {n : Nat} (hm0 : 1 ≤ m) (hm1 : m ≤ 16384) (hl : n ≤ 16384) (hn : L.length = n) (hk : Kept [] w w2) (ho : w2.ownsRow w.heap.size 40 3 v' n (cellsT L)) :
    RTwinPost w m L (.returned (.pointer (some ⟨w2.heap.size, 0, none⟩))) (w2.alloc (.cells #[v', .int .i64 m] 78)) := by
  subst hn
  refine ⟨w2.heap.size, w2.heap.size :: v'.ownBlock.toList, rfl, ⟨hm0, hm1, hl, v', Blk.new w2 _ _, ?_, rfl, ?_⟩, ?_, hk.alloc _⟩
  · exact ownsRow_keep (rowBase ho (Nat.zero_le _)) ((Kept.refl [] w2).alloc _) (by simp)
  · intro hx
    have := (ho.lt _ hx).2
    omega
  · intro z hz
    simp at hz
    rcases hz with rfl | hz
    · exact hk.size
    · exact (ho.lt z hz).1

set_option maxRecDepth 100000 in
set_option maxHeartbeats 4000000 in
theorem rclone_any (F : List Nat) (b : Nat) (m : Int) (L : List Th) (w : World) (h : RSh w F b m L) : Calls Try.prog 24 #[.pointer (some ⟨b, 0, none⟩)] w (RTwinPost w m L) := by
  obtain ⟨i0, z0, hi0, hz0, hz1, hz2, hz3⟩ := thingInfo
  obtain ⟨hm0, hm1, hl, lv, hb, ho, hF, hn⟩ := h
  have c0 := hb.cell 0
  have c1 := hb.cell 1
  simp at c0 c1
  have HB := Lib.hid hb
  rcases ho.2 with ⟨rfl, h0⟩ | ⟨g, cap, cur, rfl, hbg, hg, hnc, hcm, hcs, htk⟩
  · have e : L = [] := List.eq_nil_of_length_eq_zero h0
    subst e
    have DN := Lib.hid (fun (q : Nat) => rtwin_done (w := w) (w2 := w.drewN q) (L := []) (v' := .slice none 0 0) (n := 0) hm0 hm1 (by omega) rfl ((Kept.refl [] w).drewN q) (World.ownsRow_nil _ _ _ _))
    clear ho hF hn hb
    go_enter Try.func24, Try.ntmps24
    go_wp2_with fail
    go_region
    all_goals
      go_wp2_with fail
      go_ret
      exact DN.out 1
  · have HC : Hid (∀ j u, (cellsT L)[j]? = some u → w.cell? ((⟨g, 0, none⟩ : Addr).add j) = some u) := fun j u hu => by
      have ha : (⟨g, 0, none⟩ : Addr).add j = ⟨g, j, none⟩ := by unfold Addr.add; split <;> simp_all
      have hj := (List.getElem?_eq_some_iff.1 hu).1
      rw [cellsT_len] at hj
      rw [ha, ho.cellAt j hj]; exact hu
    have HLN := Lib.hid (cellsT_len L)
    obtain ⟨n, hnn⟩ : ∃ n, L.length = n := ⟨_, rfl⟩
    rw [hnn] at hl hnc HLN c0
    have HN := Lib.hid hnn
    clear hnn ho hg hcs htk hF hn
    unfold maxLen at hcm
    go_enter Try.func24, Try.ntmps24
    go_wp2_with fail
    go_region_law (refine step_append_any _ rfl _ _ 35 rfl w.heap.size 40 i0 z0 3 32 Try.underlying35 hi0 hz0 hz1 hz2 hz3 (by decide) (.slice none 0 0) 0 [] rfl (World.ownsRow_nil _ _ _ _) ⟨g, 0, none⟩ n cap (cellsT L) rfl HLN.out (fun j u hu => HC.out j u hu) (fun u hu => cellsT_one hu) (by unfold maxLen; omega) (by omega) (Nat.le_refl _) ?_; intro v' w4 hown4 hgrow4; have hK4 : Kept [] w w4 := ((Kept.refl [] w).drew).grown hgrow4 (fun x hx => by cases hx); have d1 := hK4.cell (by simp) c1; have hown5 : w4.ownsRow w.heap.size 40 3 v' n (cellsT L) := own_zero hown4; clear hgrow4 hown4; obtain ⟨A5, c5, rfl⟩ := own_len hown5)
    all_goals
      go_wp2_with fail
      go_ret
      exact rtwin_done hm0 hm1 hl HN.out hK4 hown5

end Go.Proofs.Ytdboipjbpkhacaa

/- Texts put together: Z24, Z25, Z26, Z27, Z28. -/
import Derived.Test.YthgenobbpaclhaaDoorZ21
import Derived.Test.YthgenobbpaclhaaDoorZ14
import Derived.Deep.Upon
import Derived.Test.YthgenobbpaclhaaDoorZ23
import Derived.Test.YthgenobbpaclhaaDoorZ16
import Derived.Test.YthgenobbpaclhaaDoorZ17
/- Scripts, the document's: an engine's line. -/
set_option linter.unusedVariables false
set_option linter.unusedSimpArgs false
set_option linter.unnecessarySimpa false
namespace Go.Proofs.YthgenobbpaclhaaDoor
open Go.RowKit Go.Shelf
attribute [local go_sem] Oper.semAt_some

theorem ints_tail2 (l : List Int) : tailT (listW l) = { data := #[32] } ++ intsT l := by
  unfold intsT listW
  rw [joinT_tail, tailT_cons, ba_assoc]
theorem head_text (c : ConfD) : (((({ data := #[101, 110, 103, 105, 110, 101, 32] } ++ numT c.slide : ByteArray) ++ { data := #[32] }) ++ intsT c.parents) ++ { data := #[32] }) ++ intsT c.sources = headT c := by
  unfold headT headW
  rw [show [engB, numT c.slide] ++ listW c.parents ++ listW c.sources = engB :: ([numT c.slide] ++ (listW c.parents ++ listW c.sources)) from by simp]
  rw [joinT_tail, tailT_app, tailT_app, ints_tail2, ints_tail2, tailT_cons, tailT_nil]
  apply ba_ext
  simp [Joins.data_append, engB]

set_option maxRecDepth 100000 in
set_option maxHeartbeats 4000000 in
theorem rhead_any (c : ConfD) (pv sv : Value) (w : World) (hc : ConfV w c pv sv) (sm : ConfSm c) (ht : TabVar w) : Calls Tryd.prog 13 #[.agg (confC c pv sv)] w fun e w' => e = .returned (.string (headT c)) ∧ Kept [] w w' := by
  have HC := Lib.hid hc
  have SM := Lib.hid sm
  have HT := Lib.hid ht
  obtain ⟨PA, pc, rfl, _⟩ := hc.1
  obtain ⟨SA, sc, rfl, _⟩ := hc.2
  have hs1 := num_size sm.slide
  have hs2 := intsT_size sm.plen sm.parents
  have hs3 := intsT_size sm.slen sm.sources
  have HTX := Lib.hid (head_text c)
  clear hc sm ht
  obtain ⟨W0, hW0⟩ : ∃ W0, w.alloc (.cells #[.slice PA c.parents.length pc, .slice SA c.sources.length sc, .int .i64 c.slide] 24) = W0 := ⟨_, rfl⟩
  have HK0 : Hid (Kept [] w W0) := by show Kept _ _ _; rw [← hW0]; exact (Kept.refl [] w).alloc _
  have HB0 : Hid (Blk W0 w.heap.size #[.slice PA c.parents.length pc, .slice SA c.sources.length sc, .int .i64 c.slide] 24) := by show Blk _ _ _ _; rw [← hW0]; exact Blk.new _ _ _
  have HW0 := Lib.hid hW0
  clear hW0
  have HKS : Hid (∀ s : SW (Kept [] W0), Kept [] w s.to) := fun s => HK0.out.trans s.ok
  have HNU : Hid (∀ W, Kept [] w W → Calls Tryd.prog 25 #[.int .i64 c.slide] W fun e w' => e = .returned (.string (numT c.slide)) ∧ Kept [] W w') := fun W hk => ritoa_any c.slide SM.out.slide W (HT.out.keep hk)
  have HLP : Hid (∀ W, Kept [] w W → Calls Tryd.prog 26 #[.slice PA c.parents.length pc] W fun e w' => e = .returned (.string (intsT c.parents)) ∧ Kept [] W w') := fun W hk => rints_any _ c.parents W (HC.out.1.keep hk) SM.out.plen SM.out.parents (HT.out.keep hk)
  have HLS : Hid (∀ W, Kept [] w W → Calls Tryd.prog 26 #[.slice SA c.sources.length sc] W fun e w' => e = .returned (.string (intsT c.sources)) ∧ Kept [] W w') := fun W hk => rints_any _ c.sources W (HC.out.2.keep hk) SM.out.slen SM.out.sources (HT.out.keep hk)
  have a0 : ∀ s : SW (Kept [] W0), s.to.cell? ⟨w.heap.size, 0, none⟩ = some (.slice PA c.parents.length pc) := fun s => (HB0.out.kept s.ok (by simp)).cell 0
  have a1 : ∀ s : SW (Kept [] W0), s.to.cell? ⟨w.heap.size, 1, none⟩ = some (.slice SA c.sources.length sc) := fun s => (HB0.out.kept s.ok (by simp)).cell 1
  have a2 : ∀ s : SW (Kept [] W0), s.to.cell? ⟨w.heap.size, 2, none⟩ = some (.int .i64 c.slide) := fun s => (HB0.out.kept s.ok (by simp)).cell 2
  dsimp only [confC]
  go_enter Tryd.func13, Tryd.ntmps13
  go_upto_region 1 with fail
  rw [show w.alloc (.cells #[.slice PA c.parents.length pc, .slice SA c.sources.length sc, .int .i64 c.slide] 24) = W0 from HW0.out]
  refine wp_region_sw (Kept [] W0) (stays_kept W0) (Kept.refl _ _) (by kernel_rfl) (by kernel_rfl) (fun hne => ?_)
  repeat (go_big_quiet_step (first
    | (go_at_call 25; exact SW.calls (stays_kept W0) (HNU.out _ (HKS.out _)))
    | (go_at_call_of 26 (Value.slice PA c.parents.length pc); exact SW.calls (stays_kept W0) (HLP.out _ (HKS.out _)))
    | (go_at_call_of 26 (Value.slice SA c.sources.length sc); exact SW.calls (stays_kept W0) (HLS.out _ (HKS.out _)))))
  refine wpQuiet_nil ?_
  intro w1 hs
  have HK1 := Lib.hid (HK0.out.trans hs)
  clear hs a0 a1 a2
  go_wp2_with fail
  go_ret
  exact ⟨by rw [← HTX.out] <;> rfl, HK1.out⟩

end Go.Proofs.YthgenobbpaclhaaDoor

/- A row of the call's own, told by its cells (a conversion's row among them), appended to. -/
set_option linter.unusedVariables false
set_option linter.unusedSimpArgs false
set_option linter.unnecessarySimpa false
namespace Go.Proofs.YthgenobbpaclhaaDoor
open Go.RowKit Go.Shelf

/-- v is a row of bytes in a block that is not below base, all its cells there and none frozen. -/
def OwnM (base : Nat) (w : World) (v : Value) (bs : List Value) : Prop := ∃ g cap, v = .slice (some ⟨g, 0, none⟩) bs.length cap ∧ base ≤ g ∧ bs.length ≤ cap ∧ cap ≤ maxLen ∧ (∀ j u, bs[j]? = some u → w.cell? ⟨g, j, none⟩ = some u) ∧ ∀ j, j < cap → (w.cell? ⟨g, j, none⟩).isSome = true ∧ w.frozen? ⟨g, j, none⟩ = false

theorem tape_setCells (b : Nat) : ∀ (vs : List Value) (o : Nat) (w : World), (w.setCells b o vs).tape = w.tape
  | [], _, _ => rfl
  | v :: r, o, w => by
    rw [World.setCells, tape_setCells b r]
    unfold World.setCell
    split <;> rfl

theorem run_append_m {P : Program} (base : Nat) (t tx ty e : TypeId) (i : TypeInfo) (ht : P.underlying t = some (.slice e)) (hi : P.info? e = some i) (hz : i.zero = some (.int .u8 0)) (hs1 : i.size = 1) (hby : i.bytes = 1)
    {w : World} {v : Value} {bs : List Value} (h : OwnM base w v bs) (x : Value) (n : Nat) (news : List Value) (hs : Src P 1 tx x n news w) (hb2 : bs.length + n ≤ 140737488355328) (hb : base ≤ w.heap.size) :
    ∃ v' w', (Builtin.append_ #[t, tx] ty #[v, x]).run P w = .ok v' w' ∧ OwnM base w' v' (bs ++ news) ∧ Below base w w' := by
  obtain ⟨g, cap, rfl, hg, hle, hmax, hcell, hthere⟩ := h
  have hnl : news.length = n := by simpa using hs.newsLen
  have hlen : (bs ++ news).length = bs.length + n := by rw [List.length_append, hnl]
  by_cases hfit : bs.length + n ≤ cap
  · have hsome : ∀ j, j < news.length → (w.cell? ⟨g, bs.length + j, none⟩).isSome = true := fun j hj => (hthere _ (by omega)).1
    have hrun := run_append_room_src (P := P) w t tx ty e i ht hi g 0 bs.length cap x n news (by rw [hs1]; exact hs) hfit
      (fun j hj => by rw [hs1, Nat.zero_add, Nat.mul_one]; exact hsome j hj)
      (fun j hj => by rw [hs1, Nat.zero_add, Nat.mul_one]; exact (hthere _ (by omega)).2)
    rw [hs1, Nat.zero_add, Nat.mul_one] at hrun
    have hkb := World.keptBut_setCells g (may := fun p => p.block = g) news bs.length w (fun _ _ => rfl)
    refine ⟨_, _, hrun, ⟨g, cap, by rw [hlen], hg, by omega, hmax, ?_, ?_⟩, ?_⟩
    · intro j u hu
      by_cases hj : j < bs.length
      · rw [World.cell?_setCells_out g _ _ _ _ (fun _ _ => Or.inl hj)]
        exact hcell j u (by rwa [List.getElem?_append_left hj] at hu)
      · rw [List.getElem?_append_right (by omega)] at hu
        have hj2 : j - bs.length < news.length := (List.getElem?_eq_some_iff.1 hu).1
        have h3 := World.cell?_setCells_in g news bs.length w hsome (j - bs.length) hj2
        rw [show bs.length + (j - bs.length) = j by omega] at h3
        rw [h3, ← hu, List.getElem?_eq_getElem hj2]
    · intro j hj
      refine ⟨?_, (World.frozen?_setCells g _ _ _ _).trans (hthere j hj).2⟩
      by_cases hin : bs.length ≤ j ∧ j < bs.length + news.length
      · have h3 := World.cell?_setCells_in g news bs.length w hsome (j - bs.length) (by omega)
        rw [show bs.length + (j - bs.length) = j by omega] at h3
        rw [h3]; rfl
      · rw [World.cell?_setCells_out g _ _ _ _ (fun _ _ => by show j < bs.length ∨ bs.length + news.length ≤ j; omega)]
        exact (hthere j hj).1
    · exact ⟨World.os_setCells _ _ _ _, tape_setCells _ _ _ _, World.output_setCells _ _ _ _, hkb.size, fun k hk => World.heap_setCells_other w g _ news (by omega) (by omega)⟩
  · have hold : (Builtin.firstCells i.size bs.length (.slice (some ⟨g, 0, none⟩) bs.length cap)).run P w.drew = .ok bs.toArray w.drew := by
      rw [hs1]
      exact run_firstCells_some w.drew 1 bs.length ⟨g, 0, none⟩ bs.length cap bs (by simp) (fun j u hu => by rw [Addr.add_lit, Nat.zero_add]; exact hcell j u hu)
    have hrun := run_append_grow_src (P := P) w t tx ty e i (.int .u8 0) ht hi hz (some ⟨g, 0, none⟩) bs.length cap bs hold x n news (by rw [hs1]; exact hs) (by omega) (by omega) (growslice_fits (by omega) (by rw [hby]; omega))
    have hge := grownCap_ge w (bs.length + n) cap e
    have hcm := grownCap_le_maxLen w (bs.length + n) cap e (by unfold maxLen; omega)
    refine ⟨_, _, hrun, ⟨w.heap.size, _, by rw [hlen], hb, by omega, hcm, ?_, ?_⟩, ⟨rfl, rfl, rfl, by simp, fun k hk => Below.heap_alloc w.drew _ k (by show k < w.heap.size; omega)⟩⟩
    · intro j u hu
      have e1 : (w.drew.alloc (.cells ((bs ++ news).toArray ++ Builtin.zeroCells (Value.int .u8 0).cells (grownCap w (bs.length + n) cap e - (bs.length + n))) e)).cell? ⟨w.heap.size, j, none⟩ = _ := World.cell?_alloc_new w.drew _ _ j
      have hj := (List.getElem?_eq_some_iff.1 hu).1
      rw [e1, Array.getElem?_append_left (by simpa using hj), List.getElem?_toArray]
      exact hu
    · intro j hj
      have e1 : (w.drew.alloc (.cells ((bs ++ news).toArray ++ Builtin.zeroCells (Value.int .u8 0).cells (grownCap w (bs.length + n) cap e - (bs.length + n))) e)).cell? ⟨w.heap.size, j, none⟩ = _ := World.cell?_alloc_new w.drew _ _ j
      refine ⟨?_, World.frozen?_alloc_new w.drew _ _ j⟩
      rw [e1]
      have hz1 : (Value.int IntKind.u8 0).cells.size = 1 := rfl
      have hsz : ((bs ++ news).toArray ++ Builtin.zeroCells (Value.int .u8 0).cells (grownCap w (bs.length + n) cap e - (bs.length + n))).size = grownCap w (bs.length + n) cap e := by
        rw [Array.size_append, List.size_toArray, hlen, size_zeroCells, hz1]
        omega
      rw [Array.getElem?_eq_getElem (by rw [hsz]; exact hj)]
      rfl

theorem wpList_append_m {P : Program} (w : World) {ops : Array Oper} {rest : List Oper} {o : Oper} {a : Act} {Q : Exit → Act → World → Prop} (hgd : o.guard = none) (s x : Operand) (t tx : TypeId)
    (ho : o.op = .call { callee := .builtin .append, args := #[s, x], argTypes := #[t, tx] })
    (base : Nat) (e : TypeId) (i : TypeInfo) (ht : P.underlying t = some (.slice e)) (hi : P.info? e = some i) (hz : i.zero = some (.int .u8 0)) (hs1 : i.size = 1) (hby : i.bytes = 1)
    {v : Value} {bs : List Value} (hv : a.eval s = v) (h : OwnM base w v bs)
    (xv : Value) (n : Nat) (news : List Value) (hx : a.eval x = xv) (hs : Src P 1 tx xv n news w) (hb2 : bs.length + n ≤ 140737488355328) (hb : base ≤ w.heap.size)
    (hK : ∀ v' w', OwnM base w' v' (bs ++ news) → Below base w w' → wpList P ops Q rest (a.put o.dst v') w') : wpList P ops Q (o :: rest) a w := by
  refine wpList_plain hgd fun K hK' => ?_
  obtain ⟨v', w', hrun, r1, r2⟩ := run_append_m (P := P) base t tx o.type e i ht hi hz hs1 hby h xv n news hs hb2 hb
  unfold Oper.wp
  simp [execOp, ho, resolve, invoke, builtin, hv, hx, hrun, Result.andThen]
  exact hK' _ _ (hK v' w' r1 r2)

theorem OwnM.keep {base : Nat} {w w' : World} {v : Value} {bs : List Value} (h : OwnM base w v bs) (hk : Kept [] w w') : OwnM base w' v bs := by
  obtain ⟨g, cap, rfl, h1, h2, h3, h4, h5⟩ := h
  have hb : ∀ j u, w.cell? ⟨g, j, none⟩ = some u → w'.heap[g]? = w.heap[g]? := fun j u hu => hk.block g (World.block_lt_of_cell? _ _ hu) (by simp)
  refine ⟨g, cap, rfl, h1, h2, h3, fun j u hu => ?_, fun j hj => ?_⟩
  · exact (World.cell?_of_block (a := ⟨g, j, none⟩) (hb j u (h4 j u hu))).trans (h4 j u hu)
  · obtain ⟨h6, h7⟩ := h5 j hj
    obtain ⟨u, hu⟩ := Option.isSome_iff_exists.1 h6
    have e1 := hb j u hu
    exact ⟨by rw [World.cell?_of_block (a := ⟨g, j, none⟩) e1]; exact h6, (World.frozen?_of_block (a := ⟨g, j, none⟩) e1).trans h7⟩

/-- A conversion's row. -/
theorem OwnM.conv (w : World) (e : TypeId) (s : ByteArray) (base : Nat) (hb : base ≤ w.heap.size) (hs : s.size ≤ 140737488355328) : OwnM base (Lib.bytesWorld w e s) (.slice (some ⟨w.heap.size, 0, none⟩) s.size (grownCap w s.size 0 e)) (Lib.strCells s) := by
  have hge := grownCap_ge w s.size 0 e
  have hcm := grownCap_le_maxLen w s.size 0 e (by unfold maxLen; omega)
  have hsz : (Lib.bytesCells w e s).size = grownCap w s.size 0 e := by
    unfold Lib.bytesCells
    have : s.data.size = s.size := rfl
    simp
    omega
  refine ⟨w.heap.size, _, by rw [Lib.strCells_length], hb, by rw [Lib.strCells_length]; exact hge, hcm, fun j u hu => ?_, fun j hj => ⟨?_, ?_⟩⟩
  · have hj := (List.getElem?_eq_some_iff.1 hu).1
    rw [Lib.strCells_length] at hj
    rw [Lib.bytesWorld_cell w e s j hj, ← hu]
    unfold Lib.strCells
    have hj2 : j < s.data.toList.length := by simpa using hj
    rw [List.getElem?_map, List.getElem?_eq_getElem hj2, List.getD_eq_getElem?_getD, List.getElem?_eq_getElem hj2]
    rfl
  · unfold World.cell?
    simp only [Lib.bytesWorld_at_new]
    rw [← hsz] at hj
    simp [hj]
  · unfold World.frozen?
    simp only [Lib.bytesWorld_at_new]
    simp [hsz]
    omega

end Go.Proofs.YthgenobbpaclhaaDoor

/- Scripts, the document's: Print. -/
set_option linter.unusedVariables false
set_option linter.unusedSimpArgs false
set_option linter.unnecessarySimpa false
namespace Go.Proofs.YthgenobbpaclhaaDoor
open Go.RowKit Go.Shelf
attribute [local go_sem] Oper.semAt_some

theorem nl_new (w : World) (o : TypeId) : ∀ j u, [Value.int .u8 10][j]? = some u → (w.alloc (.cells #[.int .u8 10] o)).cell? ((⟨w.heap.size, 0, none⟩ : Addr).add j) = some u := by
  intro j u hu
  match j, hu with
  | 0, hu =>
    rw [Addr.add_lit, World.cell?_alloc_new]
    exact hu
  | j + 1, hu => simp at hu
theorem back_m {base : Nat} {w : World} {v : Value} {l : List UInt8} {n : Nat} (h : OwnM base w v (Lib.byteCells l)) (hn : l.length = n) : ∃ g c, v = .slice (some ⟨g, 0, none⟩) n c ∧ (convert 44 9 (.slice (some ⟨g, 0, none⟩) n c)).run Tryd.prog w = .ok (.string ⟨l.toArray⟩) w := by
  obtain ⟨g, c, rfl, _, _, _, h4, _⟩ := h
  have hl : (Lib.byteCells l).length = n := by rw [Lib.byteCells_length, hn]
  refine ⟨g, c, by rw [hl], ?_⟩
  rw [← hn]
  refine run_convert_bytes_back w _ _ 5 ⟨g, 0, none⟩ c l Tryd.underlying44 (by kernel_rfl) Tryd.underlying9 (fun j hj => ?_)
  rw [Addr.add_lit, Nat.zero_add]
  refine h4 j _ ?_
  unfold Lib.byteCells
  rw [List.getElem?_map, List.getElem?_eq_getElem hj]
  rfl

set_option maxRecDepth 100000 in
set_option maxHeartbeats 8000000 in
theorem rprint_any (c : ConfD) (pv sv v : Value) (L : List StepD) (w : World) (hc : ConfV w c pv sv) (csm : ConfSm c) (hl : RdSt w v L) (lsm : ∀ x ∈ L, StepSm x) (ht : TabVar w) :
    Calls Tryd.prog 11 #[.agg (confC c pv sv), v] w (PrintPost w (printV c L)) := by
  obtain ⟨i0, hi, hz0, hz1, hz2⟩ := info_parts infoU8
  have HI0 : Hid (Tryd.prog.info? 5 = some i0) := hi
  have HZ0 : Hid (i0.zero = some (.int .u8 0)) := hz0
  have HZ1 : Hid (i0.size = 1) := hz1
  have HZ2 : Hid (i0.bytes = 1) := hz2
  clear hi hz0 hz1 hz2
  have HC := Lib.hid hc
  have CSM := Lib.hid csm
  have HLL := Lib.hid hl
  have LSM := Lib.hid lsm
  have HT := Lib.hid ht
  obtain ⟨PA, pc, rfl, hp1, _⟩ := hc.1
  obtain ⟨SA, sc, rfl, hs1, _⟩ := hc.2
  obtain ⟨LA, lc, rfl, hlm, _⟩ := hl
  have hpl := csm.plen
  have hsl := csm.slen
  obtain ⟨n, hn⟩ : ∃ n, L.length = n := ⟨_, rfl⟩
  have HN := Lib.hid hn
  rw [hn] at hlm HLL ⊢
  clear hc csm lsm ht hp1 hs1 hn
  have hnm : n ≤ 9223372036854775807 := by unfold maxLen at hlm; omega
  clear hlm
  obtain ⟨W0, hW0⟩ : ∃ W0, w.alloc (.cells #[.slice PA c.parents.length pc, .slice SA c.sources.length sc, .int .i64 c.slide] 24) = W0 := ⟨_, rfl⟩
  have HK0 : Hid (Kept [] w W0) := by show Kept _ _ _; rw [← hW0]; exact (Kept.refl [] w).alloc _
  have HW0 := Lib.hid hW0
  clear hW0
  have HPV : Hid (16384 < n ∨ 64 < c.parents.length ∨ 64 < c.sources.length → printV c L = (eB, 3)) := fun h => printV_long (by rw [HN.out]; exact h)
  dsimp only [confC]
  by_cases h1 : 16384 < n
  · have d1 : decide ((16384 : Int) < (n : Int)) = true := decide_eq_true (by omega)
    have HE := Lib.hid (HPV.out (.inl h1))
    clear h1
    go_enter Tryd.func11, Tryd.ntmps11
    go_wp2_with fail
    rw [show w.alloc (.cells #[.slice PA c.parents.length pc, .slice SA c.sources.length sc, .int .i64 c.slide] 24) = W0 from HW0.out]
    go_ret2
    exact PrintPost.of HE.out HK0.out
  by_cases h2 : 64 < c.parents.length
  · have d1 : decide ((16384 : Int) < (n : Int)) = false := decide_eq_false (by omega)
    have d2 : decide ((64 : Int) < (c.parents.length : Int)) = true := decide_eq_true (by omega)
    have HE := Lib.hid (HPV.out (.inr (.inl h2)))
    clear h1 h2
    go_enter Tryd.func11, Tryd.ntmps11
    go_wp2_with fail
    rw [show w.alloc (.cells #[.slice PA c.parents.length pc, .slice SA c.sources.length sc, .int .i64 c.slide] 24) = W0 from HW0.out]
    go_ret2
    exact PrintPost.of HE.out HK0.out
  by_cases h3 : 64 < c.sources.length
  · have d1 : decide ((16384 : Int) < (n : Int)) = false := decide_eq_false (by omega)
    have d2 : decide ((64 : Int) < (c.parents.length : Int)) = false := decide_eq_false (by omega)
    have d3 : decide ((64 : Int) < (c.sources.length : Int)) = true := decide_eq_true (by omega)
    have HE := Lib.hid (HPV.out (.inr (.inr h3)))
    clear h1 h2 h3
    go_enter Tryd.func11, Tryd.ntmps11
    go_wp2_with fail
    rw [show w.alloc (.cells #[.slice PA c.parents.length pc, .slice SA c.sources.length sc, .int .i64 c.slide] 24) = W0 from HW0.out]
    go_ret2
    exact PrintPost.of HE.out HK0.out
  have d1 : decide ((16384 : Int) < (n : Int)) = false := decide_eq_false (by omega)
  have d2 : decide ((64 : Int) < (c.parents.length : Int)) = false := decide_eq_false (by omega)
  have d3 : decide ((64 : Int) < (c.sources.length : Int)) = false := decide_eq_false (by omega)
  have HNOT : Hid (¬ (16384 < L.length ∨ 64 < c.parents.length ∨ 64 < c.sources.length)) := by show ¬ _; rw [HN.out]; omega
  have hn16 : n ≤ 16384 := by omega
  clear h1 h2 h3 HPV
  have HHD : Hid (∀ W, Kept [] w W → Calls Tryd.prog 13 #[.agg #[.slice PA c.parents.length pc, .slice SA c.sources.length sc, .int .i64 c.slide]] W fun e w' => e = .returned (.string (headT c)) ∧ Kept [] W w') := fun W hk => rhead_any c _ _ W (HC.out.keep hk) CSM.out (HT.out.keep hk)
  have hhs := headT_size CSM.out
  obtain ⟨hT, hhT⟩ : ∃ h, headT c = h := ⟨_, rfl⟩
  rw [hhT] at HHD hhs
  have HHT := Lib.hid hhT
  have HS0 : Hid (W0.heap.size = w.heap.size + 1) := by show _ = _; rw [← HW0.out]; simp
  have HB1 : Hid (Blk W0 w.heap.size #[.slice PA c.parents.length pc, .slice SA c.sources.length sc, .int .i64 c.slide] 24) := by
    show Blk _ _ _ _
    have := Blk.new w #[.slice PA c.parents.length pc, .slice SA c.sources.length sc, .int .i64 c.slide] 24
    rw [HW0.out] at this
    exact this
  clear hhT
  go_enter Tryd.func11, Tryd.ntmps11
  go_upto_region 3 with fail
  rw [show w.alloc (.cells #[.slice PA c.parents.length pc, .slice SA c.sources.length sc, .int .i64 c.slide] 24) = W0 from HW0.out]
  have a0 := HB1.out.cell 0
  have a1 := HB1.out.cell 1
  have a2 := HB1.out.cell 2
  simp at a0 a1 a2
  go_wp2_with fail
  refine (HHD.out _ HK0.out).mono ?_
  rintro e w2 ⟨rfl, hk2⟩
  have HK2 := Lib.hid hk2
  have hsz2 := HK2.out.size
  clear hk2 a0 a1 a2
  obtain ⟨N, hN⟩ : ∃ N, (hT ++ { data := #[10] } : ByteArray).size = N := ⟨_, rfl⟩
  have hNs : N = hT.size + 1 := by rw [← hN, nl_size]
  obtain ⟨C, hC⟩ : ∃ C, bcap w2 (hT ++ { data := #[10] }) = C := ⟨_, rfl⟩
  obtain ⟨W3, hW3⟩ : ∃ W3, bwor w2 (hT ++ { data := #[10] }) = W3 := ⟨_, rfl⟩
  have cv := conv_bytes (hT ++ { data := #[10] }) hN w2
  rw [hC, hW3] at cv
  have HM3 : Hid (OwnM (w.heap.size + 1) W3 (.slice (some ⟨w2.heap.size, 0, none⟩) N C) (Lib.byteCells (hT.data.toList ++ [10]))) := by
    show OwnM _ _ _ _
    have h := OwnM.conv w2 5 (hT ++ { data := #[10] }) (w.heap.size + 1) (by have := HS0.out; omega) (by rw [hN]; omega)
    rw [← hW3, ← hC, ← hN, ← str_nl]
    exact h
  have HK3 : Hid (Kept [] W0 W3) := by
    show Kept [] W0 W3
    rw [← hW3]
    exact HK2.out.trans (bwor_kept _ _)
  clear hN hC hW3 hNs
  go_wp2_with fail
  clear cv
  go_loopw [6, 7] (fun out ii wr => ∃ (k : Nat) (P : List UInt8), k ≤ n ∧ ii = .int .i64 k ∧ linesB (L.take k) = some P ∧ P.length ≤ k * 2700000001 ∧ OwnM (w.heap.size + 1) wr out (Lib.byteCells (hT.data.toList ++ [10] ++ P)) ∧ Kept [] W0 wr) (fun _ ii _ => n - (intOf ii).toNat)
  case atStart => exact ⟨0, [], by omega, rfl, rfl, by simp, by rw [List.append_nil]; exact HM3.out, HK3.out⟩
  case round =>
    obtain ⟨k, P, hk, rfl, hP, hPl, hM, hK⟩ := hrel
    have HP := Lib.hid hP
    have HM := Lib.hid hM
    have HK := Lib.hid hK
    have hszr := hK.size
    clear hP hM
    by_cases hlt : k < n
    · obtain ⟨x, hxg⟩ : ∃ x, L[k]? = some x := ⟨_, List.getElem?_eq_getElem (by rw [HN.out]; exact hlt)⟩
      obtain ⟨A', c', he, _, hE⟩ := HLL.out.keep (HK0.out.trans hK)
      obtain ⟨b, off, rfl, hcc⟩ := hE (by rintro rfl; simp at hxg)
      injection he with he1 he2 he3
      subst he1 he3
      obtain ⟨qv, av, hv, hcx⟩ := hcc k x hxg
      have HV := Lib.hid hv
      obtain ⟨QA, qc, rfl, _⟩ := hv.1
      obtain ⟨BA, bc, rfl, _⟩ := hv.2.form
      obtain ⟨e0, e1, e2, e3, e4, e5, e6, e7, e8, e9, e10, e11, e12, e13⟩ := step14 hcx
      have hsm := LSM.out x (List.mem_of_getElem? hxg)
      have hmem := List.mem_of_getElem? hxg
      have HSM := Lib.hid hsm
      have HMEM := Lib.hid hmem
      have HLI : Hid (∀ W, Kept [] wr W → Calls Tryd.prog 21 #[.agg (stepC x (.slice QA x.place.length qc) (.slice BA x.attrs.length bc))] W (LinePost W (lineT x))) := fun W hkw => rline_any x _ _ W ⟨HV.out.keep hkw, HSM.out, HT.out.keep ((HK0.out.trans HK.out).trans hkw)⟩
      have htk : L.take (k + 1) = L.take k ++ [x] := by
        obtain ⟨g1, g2⟩ := List.getElem?_eq_some_iff.1 hxg
        rw [List.take_succ_eq_append_getElem g1, g2]
      have HTK := Lib.hid htk
      obtain ⟨o, ho⟩ : ∃ o, lineT x = o := ⟨_, rfl⟩
      have HO := Lib.hid ho
      rw [ho] at HLI
      clear hv hcx hcc hE hxg he2 hsm hmem htk ho hK
      dsimp only [stepC] at HLI
      go_wp2_with fail
      refine (HLI.out _ (Kept.refl [] wr)).mono ?_
      rintro e w5 ⟨rfl, hk5⟩
      have HK5 := Lib.hid (HK.out.trans hk5)
      have HM5 := Lib.hid (HM.out.keep hk5)
      clear hk5 e0 e1 e2 e3 e4 e5 e6 e7 e8 e9 e10 e11 e12 e13
      cases o with
      | none =>
        have HE := Lib.hid (printV_bad HNOT.out (linesB_none HO.out L HMEM.out))
        go_wp2_with fail
        go_ret2
        exact PrintPost.of HE.out (HK0.out.trans HK5.out)
      | some s =>
        have hss := line_size HSM.out HO.out
        have hsz5 := HK5.out.size
        have HW1 : Hid ((Lib.byteCells (hT.data.toList ++ [10] ++ P)).length + s.size ≤ 140737488355328 ∧ w.heap.size + 1 ≤ w5.heap.size) := by
          show _ ∧ _
          have := HS0.out
          have h7 : hT.data.size = hT.size := rfl
          rw [Lib.byteCells_length, List.length_append, List.length_append, Array.length_toList]
          simp only [List.length_cons, List.length_nil]
          omega
        have HW2 : Hid ((Lib.byteCells (hT.data.toList ++ [10] ++ P) ++ byteCells s).length + 1 ≤ 140737488355328) := by
          show _ ≤ _
          have h7 : hT.data.size = hT.size := rfl
          rw [List.length_append, Go.byteCells_length, Lib.byteCells_length, List.length_append, List.length_append, Array.length_toList]
          simp only [List.length_cons, List.length_nil]
          omega
        clear hss
        go_wp2_with (at_builtin; refine wpList_append_m _ rfl _ _ 44 9 rfl (w.heap.size + 1) 5 i0 Tryd.underlying44 HI0.out HZ0.out HZ1.out HZ2.out rfl HM5.out _ s.size (byteCells s) rfl (Src.ofString _ Tryd.underlying9 s) HW1.out.1 HW1.out.2 ?_)
        intro v6 w6 hm6 hb6
        have HM6 : Hid (OwnM (w.heap.size + 1) w6 v6 (Lib.byteCells (hT.data.toList ++ [10] ++ P) ++ byteCells s)) := by
          show OwnM _ _ _ _
          have h := hm6
          simp only [Lib.byteCells, Go.byteCells, List.map_append, List.map_cons, List.map_nil, List.append_assoc, List.cons_append, List.nil_append] at h ⊢
          exact h
        have HK6 : Hid (Kept [] W0 w6) := Kept.below_of HK5.out (by rw [HS0.out]; exact hb6)
        have hsz6 := hb6.size
        have HZ6 : Hid (w.heap.size + 1 ≤ (w6.alloc (.cells #[.int .u8 10] 5)).heap.size) := by show _ ≤ _; have := HW1.out.2; simp; omega
        clear hm6 hb6 hsz6
        go_wp2_with (at_builtin; refine wpList_append_m _ rfl _ _ 44 44 rfl (w.heap.size + 1) 5 i0 Tryd.underlying44 HI0.out HZ0.out HZ1.out HZ2.out rfl (HM6.out.keep ((Kept.refl [] w6).alloc _)) _ 1 [.int .u8 10] rfl (Src.ofSlice _ Tryd.underlying44 ⟨w6.heap.size, 0, none⟩ 1 1 [.int .u8 10] rfl (nl_new w6 _) (by simp [Value.oneCell'])) HW2.out HZ6.out ?_)
        intro v7 w7 hm7 hb7
        have HM7 : Hid (OwnM (w.heap.size + 1) w7 v7 (Lib.byteCells (hT.data.toList ++ [10] ++ (P ++ (s.data.toList ++ [10]))))) := by
          show OwnM _ _ _ _
          have h := hm7
          simp only [Lib.byteCells, Go.byteCells, List.map_append, List.map_cons, List.map_nil, List.append_assoc, List.cons_append, List.nil_append] at h ⊢
          exact h
        have HK7 : Hid (Kept [] W0 w7) := Kept.below_of (HK6.out.alloc _) (by rw [HS0.out]; exact hb7)
        clear hm7 hb7
        have HP6 : Hid (linesB (L.take (k + 1)) = some (P ++ (s.data.toList ++ [10]))) := by
          show _ = _
          rw [HTK.out]
          exact linesB_snoc HO.out _ _ HP.out
        have HPL6 : Hid ((P ++ (s.data.toList ++ [10])).length ≤ (k + 1) * 2700000001) := by
          show _ ≤ _
          have hss := line_size HSM.out HO.out
          rw [List.length_append, List.length_append, Array.length_toList]
          have : s.data.size = s.size := rfl
          simp
          omega
        go_wp2_with fail
        go_roundw
        case rel => exact ⟨k + 1, _, by omega, by go_num, HP6.out, HPL6.out, HM7.out, HK7.out⟩
        case measure => simp [intOf]; omega
    · have hin : k = n := by omega
      have hLP : linesB L = some P := by
        have := HP.out
        rwa [hin, List.take_of_length_le (by rw [HN.out]; exact Nat.le_refl _)] at this
      have HE := Lib.hid (printV_ok HNOT.out hLP)
      obtain ⟨M, hM⟩ : ∃ M, (hT.data.toList ++ [10] ++ P).length = M := ⟨_, rfl⟩
      obtain ⟨g, c', rfl, hcv⟩ := back_m HM.out hM
      obtain ⟨Z, hZ⟩ : ∃ Z, (⟨(hT.data.toList ++ [10] ++ P).toArray⟩ : ByteArray) = Z := ⟨_, rfl⟩
      rw [hZ] at hcv
      have HZ := Lib.hid hZ
      clear hLP hM hZ
      go_wp2_with fail
      go_ret2
      refine PrintPost.of ?_ (HK0.out.trans HK.out)
      rw [HE.out, HHT.out, ← HZ.out]
      simp

end Go.Proofs.YthgenobbpaclhaaDoor

/- The script of any engine and any steps: the law's walk. -/
set_option linter.unusedVariables false
set_option linter.unusedSimpArgs false
set_option linter.unnecessarySimpa false
namespace Go.Proofs.YthgenobbpaclhaaDoor
open Go.RowKit Go.Shelf Go.Deep Go.ChangeShapes
attribute [local go_sem] Oper.semAt_some

set_option maxRecDepth 100000 in
set_option maxHeartbeats 8000000 in
theorem lawPrints_any (c : ConfD) (pv sv v : Value) (L : List StepD) (w : World) (hc : ConfV w c pv sv) (csm : ConfSm c) (hl : RdSt w v L) (lsm : ∀ x ∈ L, StepSm x) (ht : TabVar w) :
    Calls Tryd.prog 4 #[.agg (confC c pv sv), v] w fun e w' => e = .returned (.bool true) ∧ Kept [] w w' := by
  have HPP : Hid (∀ W, Kept [] w W → Calls Tryd.prog 6 #[.agg (confC c pv sv), v] W (PrintPost W (printV c L))) := fun W hk => print_any c pv sv v L W (hc.keep hk) csm (hl.keep hk) lsm (ht.keep hk)
  have HRP : Hid (∀ W, Kept [] w W → Calls Tryd.prog 11 #[.agg (confC c pv sv), v] W (PrintPost W (printV c L))) := fun W hk => rprint_any c pv sv v L W (hc.keep hk) csm (hl.keep hk) lsm (ht.keep hk)
  have HPH : Hid (∀ W, Kept [] w W → Calls Tryd.prog 12 #[.agg (confC c pv sv)] W fun e w' => e = .returned (.string (headT c)) ∧ Kept [] W w') := fun W hk => head_any c pv sv W (hc.keep hk) csm (ht.keep hk)
  have HRH : Hid (∀ W, Kept [] w W → Calls Tryd.prog 13 #[.agg (confC c pv sv)] W fun e w' => e = .returned (.string (headT c)) ∧ Kept [] W w') := fun W hk => rhead_any c pv sv W (hc.keep hk) csm (ht.keep hk)
  have HLV : Hid (∀ W, Kept [] w W → Calls Tryd.prog 10 #[] W fun e w' => e = .returned (.bool true) ∧ Kept [] W w') := fun W hk => live_any W (ht.keep hk)
  obtain ⟨PA, pc, rfl, _⟩ := hc.1
  obtain ⟨SA, sc, rfl, _⟩ := hc.2
  obtain ⟨LA, lc, rfl, _⟩ := hl
  obtain ⟨⟨S, E⟩, hr⟩ : ∃ r, printV c L = r := ⟨_, rfl⟩
  obtain ⟨hT, hh⟩ : ∃ h, headT c = h := ⟨_, rfl⟩
  obtain ⟨n, hn⟩ : ∃ n, L.length = n := ⟨_, rfl⟩
  rw [hr, hn] at HPP HRP
  rw [hh] at HPH HRH
  rw [hn]
  obtain ⟨W0, hW0⟩ : ∃ W0, w.alloc (.cells #[.slice PA c.parents.length pc, .slice SA c.sources.length sc, .int .i64 c.slide] 24) = W0 := ⟨_, rfl⟩
  have HK0 : Hid (Kept [] w W0) := by show Kept _ _ _; rw [← hW0]; exact (Kept.refl [] w).alloc _
  have HB0 : Hid (Blk W0 w.heap.size #[.slice PA c.parents.length pc, .slice SA c.sources.length sc, .int .i64 c.slide] 24) := by show Blk _ _ _ _; rw [← hW0]; exact Blk.new w _ _
  have HW0 := Lib.hid hW0
  clear hc csm lsm ht hr hh hn hW0
  dsimp only [confC] at HPP HRP HPH HRH ⊢
  go_enter Tryd.func4, Tryd.ntmps4
  go_upto_region 1 with fail
  rw [show w.alloc (.cells #[.slice PA c.parents.length pc, .slice SA c.sources.length sc, .int .i64 c.slide] 24) = W0 from HW0.out]
  have a0 := HB0.out.cell 0
  have a1 := HB0.out.cell 1
  have a2 := HB0.out.cell 2
  simp at a0 a1 a2
  go_wp2_with fail
  refine (HPP.out _ HK0.out).mono ?_
  rintro e w1 ⟨rfl, hk1⟩
  have HK1 := Lib.hid (HK0.out.trans hk1)
  have HB1 := Lib.hid (HB0.out.kept hk1 (by simp))
  clear hk1 a0 a1 a2
  have a0 := HB1.out.cell 0
  have a1 := HB1.out.cell 1
  have a2 := HB1.out.cell 2
  simp at a0 a1 a2
  go_wp2_with fail
  refine (HRP.out _ HK1.out).mono ?_
  rintro e w2 ⟨rfl, hk2⟩
  have HK2 := Lib.hid (HK1.out.trans hk2)
  have HB2 := Lib.hid (HB1.out.kept hk2 (by simp))
  clear hk2 a0 a1 a2
  go_upto_region 3 with fail
  have b0 : ∀ x : SW (Kept [] w2), x.to.cell? ⟨w.heap.size, 0, none⟩ = some (.slice PA c.parents.length pc) := fun x => (HB2.out.kept x.ok (by simp)).cell 0
  have b1 : ∀ x : SW (Kept [] w2), x.to.cell? ⟨w.heap.size, 1, none⟩ = some (.slice SA c.sources.length sc) := fun x => (HB2.out.kept x.ok (by simp)).cell 1
  have b2 : ∀ x : SW (Kept [] w2), x.to.cell? ⟨w.heap.size, 2, none⟩ = some (.int .i64 c.slide) := fun x => (HB2.out.kept x.ok (by simp)).cell 2
  have HKS : Hid (∀ x : SW (Kept [] w2), Kept [] w x.to) := fun x => HK2.out.trans x.ok
  refine wp_region_sw (Kept [] w2) (stays_kept w2) (Kept.refl _ _) (by kernel_rfl) (by kernel_rfl) (fun hne => ?_)
  repeat (go_big_quiet_step (first
    | (go_at_call 10; exact SW.calls (stays_kept w2) (HLV.out _ (HKS.out _)))
    | (go_at_call 12; exact SW.calls (stays_kept w2) (HPH.out _ (HKS.out _)))
    | (go_at_call 13; exact SW.calls (stays_kept w2) (HRH.out _ (HKS.out _)))))
  refine wpQuiet_nil ?_
  intro w7 hs7
  have HK7 := Lib.hid (HK2.out.trans hs7)
  clear hs7 b0 b1 b2
  go_wp2_with fail
  go_ret
  exact ⟨rfl, HK7.out⟩

end Go.Proofs.YthgenobbpaclhaaDoor

/- The script of any engine and any steps: what the bound gives; the row's walk. -/
set_option linter.unusedVariables false
set_option linter.unusedSimpArgs false
set_option linter.unnecessarySimpa false
namespace Go.Proofs.YthgenobbpaclhaaDoor
open Go.RowKit Go.Shelf Go.Deep Go.ChangeShapes

abbrev ConfT := List Int × List Int × Int
def confP : Rk ConfT := (Rk.slice (Rk.int .i64)).pair ((Rk.slice (Rk.int .i64)).pair (Rk.int .i64))
def confWt (x : ConfT) : Nat := (x.1.map (fun _ => 0 + 1)).sum + ((x.2.1.map (fun _ => 0 + 1)).sum + 0)
theorem confP_ofB : confP.OfB confWt Tryd.prog 24 := by
  intro H enc w base spare held fuel cs x h0
  have h := Rk.of_structB (P := Tryd.prog) (t := 24) Tryd.underlying24 (Rk.fields_consB intsR_ofB rfl (by kernel_rfl) (Rk.fields_consB intsR_ofB rfl (by kernel_rfl) (Rk.fields_oneB intR_ofB rfl (by kernel_rfl)))) (by kernel_rfl) h0
  exact h
def toConf (x : ConfT) : ConfD := ⟨x.1, x.2.1, x.2.2⟩
theorem confP_get {w : World} {t : ConfT} {cs : List Value} (h : confP.K w t cs) : ∃ pv sv, cs = (confC (toConf t) pv sv).toList ∧ ConfV w (toConf t) pv sv ∧ (confWt t + 1 ≤ 1048577 → ConfSm (toConf t)) := by
  obtain ⟨t1, t2, t3⟩ := t
  obtain ⟨_, _, rfl, k1, _, _, rfl, k2, rfl, r3⟩ := h
  have k1' := k1
  have k2' := k2
  obtain ⟨A1, c1, rfl, _⟩ := k1
  obtain ⟨A2, c2, rfl, _⟩ := k2
  refine ⟨_, _, rfl, ⟨RdI.of_rk k1', RdI.of_rk k2'⟩, fun hw => ?_⟩
  unfold confWt at hw
  dsimp only at hw
  rw [sum_ones, sum_ones] at hw
  exact ⟨by show t1.length ≤ _; omega, ints_i64 k1', by show t2.length ≤ _; omega, ints_i64 k2', i64_bd r3⟩

def stepsW (l : List StepT) : Nat := (l.map (fun a => stepWt a + 1)).sum
theorem stepsR_ofB : (Rk.slice stepP).OfB stepsW Tryd.prog 25 := Rk.OfB.slice Tryd.underlying25 stepP_ofB (by kernel_rfl) (by decide)
theorem steps_get {w : World} {A : Option Addr} {n cap : Nat} {x : List StepT} (wx : (Rk.slice stepP).K w x [.slice A n cap]) (bx : stepsW x + 1 ≤ 1048576) : RdSt w (.slice A n cap) (x.map toStep) ∧ ∀ y ∈ x.map toStep, StepSm y := by
  obtain ⟨A', c', he, h1, h2, _, hE⟩ := wx
  simp only [List.cons.injEq, and_true, Value.slice.injEq] at he
  obtain ⟨rfl, rfl, rfl⟩ := he
  refine ⟨⟨A, cap, by rw [List.length_map], by rw [List.length_map]; omega, fun hne => ?_⟩, ?_⟩
  · obtain ⟨b, off, rfl, hx⟩ := hE (by rintro rfl; exact hne rfl)
    refine ⟨b, off, rfl, fun i y hy => ?_⟩
    rw [List.getElem?_map] at hy
    obtain ⟨z, hz, rfl⟩ := Option.map_eq_some_iff.1 hy
    obtain ⟨cs, hK, hc⟩ := hx i z hz
    obtain ⟨pv, av, rfl, hv, _⟩ := stepP_get hK
    refine ⟨pv, av, hv, fun j u hu => ?_⟩
    have hj : j < 14 := by
      have := (Array.getElem?_eq_some_iff.1 hu).1
      simpa [stepC] using this
    have h3 := hc j hj
    rw [Array.getElem?_toList] at h3
    rw [← hu]
    exact h3
  · intro y hy
    obtain ⟨z, hz, rfl⟩ := List.mem_map.1 hy
    obtain ⟨b, off, _, hx⟩ := hE (by rintro rfl; cases hz)
    have hs0 := sum_mem (fun a => stepWt a + 1) x z hz
    obtain ⟨i, hi, rfl⟩ := List.getElem_of_mem hz
    obtain ⟨cs, hK, _⟩ := hx i _ (List.getElem?_eq_getElem hi)
    obtain ⟨_, _, _, _, hs⟩ := stepP_get hK
    refine hs ?_
    unfold stepsW at bx
    omega

theorem prints_row (w : World) (hL : laidMetH Tryd.prog Rows.scriptPrintsUptoRow.laid w) (c1 : Array Value) (x1 : ConfT) (h1 : confP.K w x1 c1.toList) (b1 : confWt x1 + 1 ≤ 1048576) (A : Option Addr) (n cap : Nat) (x2 : List StepT) (w2 : (Rk.slice stepP).K w x2 [.slice A n cap]) (b2 : stepsW x2 + 1 ≤ 1048576) :
    Calls Tryd.prog 4 #[.agg c1, .slice A n cap] w fun e w' => e = .returned (.bool true) ∧ Below w.heap.size w w' := by
  obtain ⟨pv, sv, e1, v1, s1⟩ := confP_get h1
  have e1 : c1 = confC (toConf x1) pv sv := Array.ext' e1
  subst e1
  obtain ⟨r2, s2⟩ := steps_get w2 b2
  exact (lawPrints_any _ _ _ _ _ w v1 (s1 (by omega)) r2 s2 (tab_of_laid hL)).mono fun e w' ⟨he, hk⟩ => ⟨he, hk.below⟩

end Go.Proofs.YthgenobbpaclhaaDoor

/- The operations that come in; All, whatever its rounds keep of rows of things. -/
import Derived.Test.YtdboipjbpkhacaaS10
set_option linter.unusedVariables false
set_option linter.unusedSimpArgs false
set_option linter.unnecessarySimpa false
namespace Go.Proofs.Ytdboipjbpkhacaa
open Go.RowKit Go.Shelf
attribute [local go_sem] Oper.semAt_some

/-- An operation: what it does, its span, its text, its time. -/
abbrev Opn := Int × ((Int × Int) × (ByteArray × Int))
def spanR : Rk (Int × Int) := (Rk.int .i64).pair (Rk.int .i64)
theorem spanR_of : spanR.Of Try.prog 29 :=
  Rk.of_struct Try.underlying29 (Rk.fields_cons (Rk.of_int Try.underlying2) rfl (by kernel_rfl) (Rk.fields_one (Rk.of_int Try.underlying2) rfl (by kernel_rfl))) (by kernel_rfl)
def opR : Rk Opn := (Rk.int .i64).pair (spanR.pair (Rk.str.pair (Rk.int .i64)))
theorem opR_of : opR.Of Try.prog 31 :=
  Rk.of_struct Try.underlying31 (Rk.fields_cons (Rk.of_int Try.underlying3) rfl (by kernel_rfl) (Rk.fields_cons spanR_of rfl (by kernel_rfl) (Rk.fields_cons (Rk.of_str Try.underlying9) rfl (by kernel_rfl) (Rk.fields_one (Rk.of_int Try.underlying2) rfl (by kernel_rfl))))) (by kernel_rfl)

def opCells (o : Opn) : List Value := [.int .i64 o.1, .int .i64 o.2.1.1, .int .i64 o.2.1.2, .string o.2.2.1, .int .i64 o.2.2.2]
/-- v reads as the operations l. -/
def RdO (w : World) (v : Value) (l : List Opn) : Prop :=
  ∃ A c, v = .slice A l.length c ∧ l.length ≤ maxLen ∧ (l ≠ [] → ∃ b off, A = some ⟨b, off, none⟩ ∧ ∀ i x, l[i]? = some x → ∀ j, j < 5 → w.cell? ⟨b, off + i * 5 + j, none⟩ = (opCells x)[j]?)
theorem RdO.keep {w w' : World} {v : Value} {l : List Opn} (h : RdO w v l) (hk : Kept [] w w') : RdO w' v l := by
  obtain ⟨A, c, rfl, hm, h⟩ := h
  refine ⟨A, c, rfl, hm, fun hn => ?_⟩
  obtain ⟨b, off, rfl, hc⟩ := h hn
  refine ⟨b, off, rfl, fun i x hx j hj => ?_⟩
  have := hc i x hx j hj
  have hl : j < (opCells x).length := hj
  rw [List.getElem?_eq_getElem hl] at this ⊢
  exact hk.cell (by simp) this
theorem RdO.of_rk {w : World} {v : Value} {l : List Opn} (h : (Rk.slice opR).K w l [v]) : RdO w v l := by
  obtain ⟨A, c, he, h1, h2, _, hE⟩ := h
  simp only [List.cons.injEq, and_true] at he
  subst he
  refine ⟨A, c, rfl, by omega, fun hn => ?_⟩
  obtain ⟨b, off, rfl, hx⟩ := hE hn
  refine ⟨b, off, rfl, fun i x hxi j hj => ?_⟩
  obtain ⟨cs, hK, hc⟩ := hx i x hxi
  have e : cs = opCells x := by
    obtain ⟨c1, c2, rfl, ⟨rfl, _⟩, c3, c4, rfl, ⟨c5, c6, rfl, ⟨rfl, _⟩, ⟨rfl, _⟩⟩, c7, c8, rfl, ⟨rfl, _⟩, ⟨rfl, _⟩⟩ := hK
    rfl
  subst e
  exact hc j hj


set_option maxRecDepth 100000 in
set_option maxHeartbeats 8000000 in
/-- All's iterator: it asks of a round only that rows of things made since w stand. -/
theorem all1_gen (Kp : World → World → Prop) (m : Nat) (hm : 1 ≤ m) (bs : Nat) (F : List Nat) (b : Nat) (mm : Int) (L : List Th) (w : World) (hsh : Sh w F b mm L) (hbs : w.cell? ⟨bs, 0, none⟩ = some (.pointer (some ⟨b, 0, none⟩)))
    (hKp : ∀ A B, Kp A B → A.heap.size ≤ B.heap.size ∧ ∀ (k : Nat) (cs : Array Value), w.heap.size ≤ k → Blk A k cs 75 → Blk B k cs 75) :
    SeqStopsK Fence.wide m Try.prog 32 #[.pointer (some ⟨bs, 0, none⟩)] encT Kp (fun ys => ys = L) (fun pre => pre <+: L) 16384 w := by
  intro l J Jx W hW hJ hJx hY h0
  have hsW := hW.size
  have htW := (hW.cell (p := ⟨bs, 0, none⟩) (World.block_lt_of_cell? w _ hbs)).trans hbs
  obtain ⟨hm0, hm1, hl, lv, hb, ho, hF, hn⟩ := hsh.below hW
  have c1 := hb.cell 1
  simp at c1
  have CL := clones_any lv L 0 W ho hl
  clear hb ho hF hn hsh hbs
  refine callsIn_of_wp Try.func32 rfl trivial ?_ rfl
  simp only [Try.ntmps32, List.size_toArray, List.length_cons, List.length_nil, Nat.reduceAdd, Nat.reduceSub, Array.replicate_succ, Array.replicate_zero, List.push_toArray, List.append_toArray, List.nil_append, List.cons_append]
  gi_wp2_with (refine ⟨trivial, ?_⟩; gi_at_call 30; refine (callsIn_wide.2 CL).mono ?_; rintro e w1 ⟨v, rfl, hown, hk1⟩; have hl1 := (RdT.of_own hown hl).1; obtain ⟨AA, cc, rfl, hmm, _⟩ := hl1)
  have hJ1 := hJ _ W w1 none h0 hk1.grownBy (fun r e => by cases e)
  have hs1 := hk1.size
  obtain ⟨n, hnl⟩ : ∃ n, L.length = n := ⟨_, rfl⟩
  rw [hnl] at hl hmm hown ⊢
  have HL := Lib.hid hnl
  clear hnl CL
  gi_loopw [13] (fun i wr => ∃ (j : Nat), i = .int .i64 j ∧ j ≤ n ∧ J (L.take j) wr ∧ wr.ownsRow W.heap.size 75 3 (.slice AA n cc) n (cellsT L) ∧ W.heap.size ≤ wr.heap.size) (fun i _ => n - (intOf i).toNat)
  case atStart => exact ⟨0, rfl, by omega, by simpa using hJ1, hown, hs1⟩
  case round =>
    obtain ⟨j, rfl, hj, hJs, hrd, hsz⟩ := hrel
    by_cases hlt : j < n
    · obtain ⟨⟨x1, x2, xs⟩, hx⟩ : ∃ x, L[j]? = some x := ⟨_, List.getElem?_eq_getElem (by rw [HL.out]; exact hlt)⟩
      have hrd' := (RdT.of_own hrd (by rw [HL.out]; exact hl)).1
      obtain ⟨A', c', he, _, hcell⟩ := hrd'
      obtain ⟨bb, off, rfl, hcc⟩ := hcell (by rintro rfl; simp at hx)
      injection he with he1 he2 he3
      subst he1 he3
      obtain ⟨e1, e2, e3⟩ := hcc j _ hx
      dsimp only at e1 e2 e3
      have HNX : Hid (L.take j ++ [(x1, x2, xs)] = L.take (j + 1)) := by
        obtain ⟨g1, g2⟩ := List.getElem?_eq_some_iff.1 hx
        show _ = _
        rw [List.take_succ_eq_append_getElem g1, g2]
      have hJa := hJ _ wr _ none hJs ((Kept.refl [] wr).alloc (.cells #[.int .i64 x1, .int .i64 x2, .string xs] 75)).grownBy (fun r e => by cases e)
      have hrda := ownsRow_keep hrd ((Kept.refl [] wr).alloc (.cells #[.int .i64 x1, .int .i64 x2, .string xs] 75)) (by simp)
      have HRDA := Lib.hid hrda
      obtain ⟨fn, tmps, assign, body, hy, hR⟩ := hY _ (x1, x2, xs) _ hJa (by rw [List.length_take]; omega)
      dsimp only [encT] at hy
      have hwj : IntKind.i64.wrap ((j : Int) + 1) = ((j + 1 : Nat) : Int) := by unfold IntKind.wrap; simp [IntKind.signed, IntKind.bits]; omega
      have HWJ := Lib.hid hwj
      clear hx hcell he2 hcc hrd hrda hwj hown
      gi_wp2_with fail
      refine hR.mono ?_
      rintro e W3 (⟨rfl, hJ3, hk3⟩ | ⟨rfl, hJx3⟩)
      · rw [HNX.out] at hJ3
        gi_wp2_with fail
        go_roundw
        case rel =>
          obtain ⟨q1, q2⟩ := hKp _ _ hk3
          refine ⟨j + 1, by go_num, by omega, hJ3, ?_, by simp at q1; omega⟩
          have hr := HRDA.out
          refine ⟨hr.1, ?_⟩
          rcases hr.2 with hr | ⟨g, cap, cur, hv, hg0, hg1, hg2⟩
          · exact .inl hr
          · exact .inr ⟨g, cap, cur, hv, hg0, q2 g cur (by omega) hg1, hg2⟩
        case measure => simp [intOf]; omega
      · rw [HNX.out] at hJx3
        gi_wp2_with fail
        refine bodyPost_ret (results_none rfl _ _ _) rfl ?_
        exact ⟨⟨_, rfl⟩, .inr ⟨_, List.take_prefix _ _, hJx3⟩⟩
    · have hfin : J L wr := by
        rw [List.take_of_length_le (by rw [HL.out]; omega)] at hJs
        exact hJs
      clear hJs
      gi_wp2
      go_end0
      exact ⟨⟨_, rfl⟩, .inl ⟨_, rfl, hfin⟩⟩

end Go.Proofs.Ytdboipjbpkhacaa

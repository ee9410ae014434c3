/- All: the iterator. -/
import Derived.Test.YtdboipjbpkhacaaS5
import Derived.Sort.CutIn
set_option linter.unusedVariables false
set_option linter.unusedSimpArgs false
set_option linter.unnecessarySimpa false
namespace Go.Proofs.Ytdboipjbpkhacaa
open Go.RowKit Go.Shelf
attribute [local go_sem] Oper.semAt_some

/-- Every block of cells of w, but those of S, stands in w' as it stood. -/
structure KeptC (S : List Nat) (w w' : World) : Prop where
  os : w'.os = w.os
  tape : w'.tape = w.tape
  output : w'.output = w.output
  size : w.heap.size ≤ w'.heap.size
  block : ∀ k o, k ∉ S → w.heap[k]? = some o → o.isCells = true → w'.heap[k]? = some o
theorem KeptC.refl (S : List Nat) (w : World) : KeptC S w w := ⟨rfl, rfl, rfl, Nat.le_refl _, fun _ _ _ h _ => h⟩
theorem KeptC.trans {S : List Nat} {a b c : World} (h : KeptC S a b) (k : KeptC S b c) : KeptC S a c :=
  ⟨k.os.trans h.os, k.tape.trans h.tape, k.output.trans h.output, Nat.le_trans h.size k.size, fun i o hi h1 h2 => k.block i o hi (h.block i o hi h1 h2) h2⟩
theorem KeptC.of {S : List Nat} {a b : World} (h : Kept S a b) : KeptC S a b :=
  ⟨h.os, h.tape, h.output, h.size, fun i o hi h1 _ => (h.block i (Array.getElem?_eq_some_iff.1 h1).1 hi).trans h1⟩
theorem KeptC.nil {S : List Nat} {a b : World} (h : Kept [] a b) : KeptC S a b := KeptC.of h.nil
theorem KeptC.putObj {S : List Nat} {W : World} {l : Nat} {o o' : Obj} (h : W.heap[l]? = some o) (hc : o.isCells = false) : KeptC S W (W.putObj l o') :=
  ⟨rfl, rfl, rfl, by simp, fun k x _ hx hxc => (World.putObj_heap_other (by rintro rfl; rw [h] at hx; cases hx; rw [hc] at hxc; cases hxc)).trans hx⟩
theorem Blk.keptC {S : List Nat} {w w' : World} {b : Nat} {cs : Array Value} {t : TypeId} (h : Blk w b cs t) (k : KeptC S w w') (hs : b ∉ S) : Blk w' b cs t := k.block b _ hs h rfl
theorem KeptC.cell {S : List Nat} {w w' : World} (h : KeptC S w w') {a : Addr} {v : Value} (hs : a.block ∉ S) (hc : w.cell? a = some v) : w'.cell? a = some v := by
  have hl := World.block_lt_of_cell? w a hc
  obtain ⟨o, ho⟩ : ∃ o, w.heap[a.block]? = some o := ⟨_, Array.getElem?_eq_getElem hl⟩
  have hoc : o.isCells = true := by
    unfold World.cell? at hc
    rw [ho] at hc
    cases o <;> first | rfl | (simp at hc)
  have := h.block _ _ hs ho hoc
  unfold World.cell? at *
  rw [this]
  rw [ho] at hc
  exact hc
theorem RdT.keptC {S : List Nat} {w w' : World} {v : Value} {L : List Th} (h : RdT w v L) (hk : KeptC S w w') (hs : ∀ b, v.ownBlock = some b → b ∉ S) : RdT w' v L := by
  obtain ⟨A, c, rfl, hm, h⟩ := h
  refine ⟨A, c, rfl, hm, fun hn => ?_⟩
  obtain ⟨b, off, rfl, hc⟩ := h hn
  exact ⟨b, off, rfl, fun i x hx => ⟨hk.cell (hs b rfl) (hc i x hx).1, hk.cell (hs b rfl) (hc i x hx).2.1, hk.cell (hs b rfl) (hc i x hx).2.2⟩⟩
theorem Kept.grownBy {w w' : World} (h : Go.Proofs.Ytdboipjbpkhacaa.Kept [] w w') : w.grownBy w' none := ⟨h.os, h.tape, h.output, h.size, fun k hk _ => h.block k hk (by simp)⟩
theorem Sh.below {w W : World} {F : List Nat} {b : Nat} {m : Int} {L : List Th} (h : Sh w F b m L) (hb : Below w.heap.size w W) : Sh W F b m L := h.keep (Kept.of_below hb)

def encT (x : Th) : Array Value := #[.agg #[.int .i64 x.1, .int .i64 x.2.1], .string x.2.2]

set_option maxRecDepth 100000 in
set_option maxHeartbeats 8000000 in
theorem all1_stops (m : Nat) (hm : 1 ≤ m) (bs : Nat) (F : List Nat) (b : Nat) (mm : Int) (L : List Th) (S : List Nat) (w : World) (hsh : Sh w F b mm L) (hbs : w.cell? ⟨bs, 0, none⟩ = some (.pointer (some ⟨b, 0, none⟩))) (hS : ∀ x ∈ S, x < w.heap.size) :
    SeqStopsK Fence.wide m Try.prog 32 #[.pointer (some ⟨bs, 0, none⟩)] encT (KeptC S) (fun ys => ys = L) (fun pre => pre <+: L) 16384 w := by
  intro l J Jx W hW hJ hJx hY h0
  have hsW := hW.size
  have htW := (hW.cell (p := ⟨bs, 0, none⟩) (World.block_lt_of_cell? w _ hbs)).trans hbs
  obtain ⟨hm0, hm1, hl, lv, hb, ho, hF, hn⟩ := hsh.below hW
  have c1 := hb.cell 1
  simp at c1
  have CL := clones_any lv L 0 W ho hl
  clear hb ho hF hn hsh hbs
  refine callsIn_of_wp Try.func32 rfl trivial ?_ rfl
  simp only [Try.ntmps32, List.size_toArray, List.length_cons, List.length_nil, Nat.reduceAdd, Nat.reduceSub, Array.replicate_succ, Array.replicate_zero, List.push_toArray, List.append_toArray, List.nil_append, List.cons_append]
  gi_wp2_with (refine ⟨trivial, ?_⟩; gi_at_call 30; refine (callsIn_wide.2 CL).mono ?_; rintro e w1 ⟨v, rfl, hown, hk1⟩; have hl1 := (RdT.of_own hown hl).1; obtain ⟨AA, cc, rfl, hmm, _⟩ := hl1)
  have hJ1 := hJ _ W w1 none h0 hk1.grownBy (fun r e => by cases e)
  have hrd1 := (RdT.of_own hown hl).1
  have hs1 := hk1.size
  have HOB : Hid (∀ b, (Value.slice AA L.length cc).ownBlock = some b → b ∉ S) := fun b hb hbS' => by
    have h1 := (hown.lt b hb).1
    have h2 := hS b hbS'
    omega
  obtain ⟨n, hnl⟩ : ∃ n, L.length = n := ⟨_, rfl⟩
  rw [hnl] at hl hmm hrd1 HOB ⊢
  have HL := Lib.hid hnl
  clear hnl hown CL
  gi_loopw [13] (fun i wr => ∃ (j : Nat), i = .int .i64 j ∧ j ≤ n ∧ J (L.take j) wr ∧ RdT wr (.slice AA n cc) L ∧ W.heap.size ≤ wr.heap.size) (fun i _ => n - (intOf i).toNat)
  case atStart => exact ⟨0, rfl, by omega, by simpa using hJ1, hrd1, hs1⟩
  case round =>
    obtain ⟨j, rfl, hj, hJs, hrd, hsz⟩ := hrel
    by_cases hlt : j < n
    · obtain ⟨⟨x1, x2, xs⟩, hx⟩ : ∃ x, L[j]? = some x := ⟨_, List.getElem?_eq_getElem (by rw [HL.out]; exact hlt)⟩
      have hrd' := hrd
      obtain ⟨A', c', he, _, hcell⟩ := hrd'
      obtain ⟨bb, off, rfl, hcc⟩ := hcell (by rintro rfl; simp at hx)
      injection he with he1 he2 he3
      subst he1 he3
      obtain ⟨e1, e2, e3⟩ := hcc j _ hx
      dsimp only at e1 e2 e3
      have HNX : Hid (L.take j ++ [(x1, x2, xs)] = L.take (j + 1)) := by
        obtain ⟨g1, g2⟩ := List.getElem?_eq_some_iff.1 hx
        show _ = _
        rw [List.take_succ_eq_append_getElem g1, g2]
      have hJa := hJ _ wr _ none hJs ((Kept.refl [] wr).alloc (.cells #[.int .i64 x1, .int .i64 x2, .string xs] 75)).grownBy (fun r e => by cases e)
      have hrda := hrd.keep ((Kept.refl [] wr).alloc (.cells #[.int .i64 x1, .int .i64 x2, .string xs] 75))
      have HRDA := Lib.hid hrda
      obtain ⟨fn, tmps, assign, body, hy, hR⟩ := hY _ (x1, x2, xs) _ hJa (by rw [List.length_take]; omega)
      dsimp only [encT] at hy
      have hwj : IntKind.i64.wrap ((j : Int) + 1) = ((j + 1 : Nat) : Int) := by unfold IntKind.wrap; simp [IntKind.signed, IntKind.bits]; omega
      have HWJ := Lib.hid hwj
      clear hx hcell he2 hcc hrd hrda hwj
      gi_wp2_with fail
      refine hR.mono ?_
      rintro e W3 (⟨rfl, hJ3, hk3⟩ | ⟨rfl, hJx3⟩)
      · rw [HNX.out] at hJ3
        gi_wp2_with fail
        go_roundw
        case rel => exact ⟨j + 1, by go_num, by omega, hJ3, RdT.keptC HRDA.out hk3 HOB.out, by have := hk3.size; simp at this; omega⟩
        case measure => simp [intOf]; omega
      · rw [HNX.out] at hJx3
        gi_wp2_with fail
        refine bodyPost_ret (results_none rfl _ _ _) rfl ?_
        exact ⟨⟨_, rfl⟩, .inr ⟨_, List.take_prefix _ _, hJx3⟩⟩
    · have hfin : J L wr := by
        rw [List.take_of_length_le (by rw [HL.out]; omega)] at hJs
        exact hJs
      clear hJs
      gi_wp2
      go_end0
      exact ⟨⟨_, rfl⟩, .inl ⟨_, rfl, hfin⟩⟩

theorem all1_nil (m : Nat) (hm : 1 ≤ m) (bs : Nat) (S : List Nat) (w : World) (hbs : w.cell? ⟨bs, 0, none⟩ = some (.pointer none)) :
    SeqStopsK Fence.wide m Try.prog 32 #[.pointer (some ⟨bs, 0, none⟩)] encT (KeptC S) (fun ys => ys = []) (fun pre => pre <+: []) 16384 w := by
  intro l J Jx W hW hJ hJx hY h0
  have htW := (hW.cell (p := ⟨bs, 0, none⟩) (World.block_lt_of_cell? w _ hbs)).trans hbs
  refine callsIn_of_wp Try.func32 rfl trivial ?_ rfl
  simp only [Try.ntmps32, List.size_toArray, List.length_cons, List.length_nil, Nat.reduceAdd, Nat.reduceSub, Array.replicate_succ, Array.replicate_zero, List.push_toArray, List.append_toArray, List.nil_append, List.cons_append]
  gi_wp2_with fail
  refine bodyPost_ret (results_none rfl _ _ _) rfl ?_
  exact ⟨⟨_, rfl⟩, .inl ⟨_, rfl, h0⟩⟩

/-- v is an iterator of things that gives xs. -/
def ItT (w : World) (v : Value) (xs : List Th) : Prop :=
  ∃ (g : Nat) (lb : Array Value), v = .func (.func g) #[] lb ∧ (∀ args w, (callFunc g args).run Try.prog w = .ok (.enter g args) w) ∧
    ∀ (w' : World) (S : List Nat), Kept [] w w' → (∀ x ∈ S, w.heap.size ≤ x ∧ x < w'.heap.size) → ∀ m, 1 ≤ m → SeqStopsK Fence.wide m Try.prog g lb encT (KeptC S) (fun ys => ys = xs) (fun pre => pre <+: xs) 16384 w'
theorem ItT.keep {w w' : World} {v : Value} {xs : List Th} (h : Go.Proofs.Ytdboipjbpkhacaa.ItT w v xs) (hk : Kept [] w w') : ItT w' v xs := by
  obtain ⟨g, lb, rfl, eg, hseq⟩ := h
  exact ⟨g, lb, rfl, eg, fun w2 S hk2 hS m hm => hseq w2 S (hk.trans hk2) (fun x hx => ⟨Nat.le_trans hk.size (hS x hx).1, (hS x hx).2⟩) m hm⟩
def ItPost (w : World) (xs : List Th) (e : Ending) (w' : World) : Prop := ∃ v, e = .returned v ∧ ItT w' v xs ∧ Kept [] w w'

theorem all_any (F : List Nat) (b : Nat) (mm : Int) (L : List Th) (w : World) (h : Sh w F b mm L) :
    Calls Try.prog 11 #[.pointer (some ⟨b, 0, none⟩)] w (ItPost w L) := by
  have k1 := (Kept.refl [] w).alloc (.cells #[.pointer (some ⟨b, 0, none⟩)] 23)
  have IT : ItT (w.alloc (.cells #[.pointer (some ⟨b, 0, none⟩)] 23)) (.func (.func 32) #[] #[.pointer (some ⟨w.heap.size, 0, none⟩)]) L :=
    ⟨_, _, rfl, enters_of Try.func32 (by kernel_rfl) rfl, fun w' S hk hS m hm => all1_stops m hm w.heap.size F b mm L S w' ((h.keep k1).keep hk) (hk.cell (by simp) ((Blk.new w _ _).cell 0)) (fun x hx => (hS x hx).2)⟩
  have HIT := Lib.hid IT
  have HK := Lib.hid k1
  clear IT h k1
  go_enter Try.func11, Try.ntmps11
  go_wp2_with fail
  go_ret
  exact ⟨_, rfl, HIT.out, HK.out⟩
theorem all_nil (w : World) : Calls Try.prog 11 #[.pointer none] w (ItPost w []) := by
  have k1 := (Kept.refl [] w).alloc (.cells #[.pointer none] 23)
  have IT : ItT (w.alloc (.cells #[.pointer none] 23)) (.func (.func 32) #[] #[.pointer (some ⟨w.heap.size, 0, none⟩)]) [] :=
    ⟨_, _, rfl, enters_of Try.func32 (by kernel_rfl) rfl, fun w' S hk hS m hm => all1_nil m hm w.heap.size S w' (hk.cell (by simp) ((Blk.new w _ _).cell 0))⟩
  have HIT := Lib.hid IT
  have HK := Lib.hid k1
  clear IT k1
  go_enter Try.func11, Try.ntmps11
  go_wp2_with fail
  go_ret
  exact ⟨_, rfl, HIT.out, HK.out⟩

end Go.Proofs.Ytdboipjbpkhacaa

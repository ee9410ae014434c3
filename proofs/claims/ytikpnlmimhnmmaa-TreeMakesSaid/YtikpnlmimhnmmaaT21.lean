/- Ways: the iterator. -/
import Derived.Test.YtikpnlmimhnmmaaT19
set_option linter.unusedVariables false
set_option linter.unusedSimpArgs false
set_option linter.unnecessarySimpa false
namespace Go.Proofs.Ytikpnlmimhnmmaa
open Go.RowKit Go.Shelf Tr
attribute [local go_sem] Oper.semAt_some

/-- Every block of cells of w, but those of S, stands in w' as it stood. -/
structure KeptC (S : List Nat) (w w' : World) : Prop where
  os : w'.os = w.os
  tape : w'.tape = w.tape
  output : w'.output = w.output
  size : w.heap.size ≤ w'.heap.size
  block : ∀ k o, k ∉ S → w.heap[k]? = some o → o.isCells = true → w'.heap[k]? = some o
theorem KeptC.refl (S : List Nat) (w : World) : KeptC S w w := ⟨rfl, rfl, rfl, Nat.le_refl _, fun _ _ _ h _ => h⟩
theorem KeptC.trans {S : List Nat} {a b c : World} (h : KeptC S a b) (k : KeptC S b c) : KeptC S a c :=
  ⟨k.os.trans h.os, k.tape.trans h.tape, k.output.trans h.output, Nat.le_trans h.size k.size, fun i o hi h1 h2 => k.block i o hi (h.block i o hi h1 h2) h2⟩
theorem KeptC.of {S : List Nat} {a b : World} (h : Kept S a b) : KeptC S a b :=
  ⟨h.os, h.tape, h.output, h.size, fun i o hi h1 _ => (h.block i (Array.getElem?_eq_some_iff.1 h1).1 hi).trans h1⟩
theorem KeptC.nil {S : List Nat} {a b : World} (h : Kept [] a b) : KeptC S a b := KeptC.of h.nil
theorem KeptC.putObj {S : List Nat} {W : World} {l : Nat} {o o' : Obj} (h : W.heap[l]? = some o) (hc : o.isCells = false) : KeptC S W (W.putObj l o') :=
  ⟨rfl, rfl, rfl, by simp, fun k x _ hx hxc => (World.putObj_heap_other (by rintro rfl; rw [h] at hx; cases hx; rw [hc] at hxc; cases hxc)).trans hx⟩
theorem Blk.keptC {S : List Nat} {w w' : World} {b : Nat} {cs : Array Value} {t : TypeId} (h : Blk w b cs t) (k : KeptC S w w') (hs : b ∉ S) : Blk w' b cs t := k.block b _ hs h rfl
theorem KeptC.cell {S : List Nat} {w w' : World} (h : KeptC S w w') {a : Addr} {v : Value} (hs : a.block ∉ S) (hc : w.cell? a = some v) : w'.cell? a = some v := by
  have hl := World.block_lt_of_cell? w a hc
  obtain ⟨o, ho⟩ : ∃ o, w.heap[a.block]? = some o := ⟨_, Array.getElem?_eq_getElem hl⟩
  have hoc : o.isCells = true := by
    unfold World.cell? at hc
    rw [ho] at hc
    cases o <;> first | rfl | (simp at hc)
  have := h.block _ _ hs ho hoc
  unfold World.cell? at *
  rw [this]
  rw [ho] at hc
  exact hc
theorem RdI.keptC {S : List Nat} {w w' : World} {k : IntKind} {v : Value} {xs : List Int} (h : RdI w k v xs) (hk : KeptC S w w') (hs : ∀ b, v.ownBlock = some b → b ∉ S) : RdI w' k v xs := by
  obtain ⟨A, c, rfl, hm, h⟩ := h
  refine ⟨A, c, rfl, hm, fun hn => ?_⟩
  obtain ⟨b, off, rfl, hc⟩ := h hn
  exact ⟨b, off, rfl, fun i x hx => hk.cell (hs b rfl) (hc i x hx)⟩

def encW (p : Int × Int) : Array Value := #[.agg #[.int .i64 p.1, .int .i64 p.2]]
def waysL (NL : Nat → List Int) (n : Nat) : List (Int × Int) := (List.range n).flatMap (fun i => (NL i).map (fun k => ((i : Int), k)))
theorem waysL_succ (NL : Nat → List Int) (n : Nat) : waysL NL (n + 1) = waysL NL n ++ (NL n).map (fun k => ((n : Int), k)) := by
  unfold waysL; rw [List.range_succ, List.flatMap_append]; simp
theorem waysL_pre (NL : Nat → List Int) {k n : Nat} (h : k ≤ n) : waysL NL k <+: waysL NL n := by
  induction n with
  | zero => have : k = 0 := by omega
            subst this; exact List.prefix_refl _
  | succ n ih =>
    by_cases hk : k = n + 1
    · subst hk; exact List.prefix_refl _
    · refine (ih (by omega)).trans ?_
      rw [waysL_succ]; exact List.prefix_append _ _
theorem waysL_le (NL : Nat → List Int) (hNL : ∀ k, (NL k).length ≤ 16) : ∀ n, (waysL NL n).length ≤ 16 * n
  | 0 => by simp [waysL]
  | n + 1 => by
    have := waysL_le NL hNL n
    have h2 := hNL n
    rw [waysL_succ, List.length_append, List.length_map]; omega

set_option maxRecDepth 100000 in
set_option maxHeartbeats 8000000 in
theorem ways1_stops (m : Nat) (hm : 1 ≤ m) (bt nn : Nat) (tp : Option Addr) (NL : Nat → List Int) (S : List Nat) (Good : World → Prop) (hG1 : ∀ W W', Good W → Kept [] W W' → Good W') (hG2 : ∀ W W', Good W → KeptC S W W' → Good W')
    (hlen : ∀ W, Good W → Calls Try.prog 13 #[.pointer tp] W fun e W' => e = .returned (.int .i64 nn) ∧ W = W') (hn16 : nn ≤ 16) (hNL : ∀ k, (NL k).length ≤ 16)
    (hnear : ∀ W (k : Nat), Good W → k < nn → Calls Try.prog 18 #[.pointer tp, .int .i64 k] W (RisePost W (NL k)))
    (w : World) (hgood : Good w) (hbt : w.cell? ⟨bt, 0, none⟩ = some (.pointer tp)) (hbS : bt ∉ S) (hS : ∀ x ∈ S, x < w.heap.size)
    (hG0 : ∀ W, Below w.heap.size w W → Good W) :
    SeqStopsK Fence.wide m Try.prog 52 #[.pointer (some ⟨bt, 0, none⟩)] encW (KeptC S) (fun ys => ys = waysL NL nn) (fun pre => pre <+: waysL NL nn) 256 w := by
  intro l J Jx W hW hJ hJx hY h0
  have hGW := hG0 W hW
  have hsW := hW.size
  have htW := (hW.cell (p := ⟨bt, 0, none⟩) (World.block_lt_of_cell? w _ hbt)).trans hbt
  have HNN := Lib.hid (waysL_le NL hNL nn)
  have HNL := Lib.hid hNL
  have HPRE := Lib.hid (fun (k : Nat) (h : k ≤ nn) => waysL_pre NL h)
  clear hNL
  refine callsIn_of_wp Try.func52 rfl trivial ?_ rfl
  simp only [Try.ntmps52, List.size_toArray, List.length_cons, List.length_nil, Nat.reduceAdd, Nat.reduceSub, Array.replicate_succ, Array.replicate_zero, List.push_toArray, List.append_toArray, List.nil_append, List.cons_append]
  gi_wp2_with (refine ⟨trivial, ?_⟩; gi_at_call 13; refine (callsIn_wide.2 (hlen W hGW)).mono ?_; rintro e w' ⟨rfl, rfl⟩)
  gi_loopw [8] (fun i wr => ∃ (k : Nat), i = .int .i64 k ∧ k ≤ nn ∧ J (waysL NL k) wr ∧ Good wr ∧ wr.cell? ⟨bt, 0, none⟩ = some (.pointer tp) ∧ W.heap.size ≤ wr.heap.size) (fun i _ => nn - (intOf i).toNat)
  case atStart => exact ⟨0, rfl, by omega, h0, hGW, htW, Nat.le_refl _⟩
  case round =>
    obtain ⟨k, rfl, hk, hJs, hGr, htr, hsz⟩ := hrel
    by_cases hlt : k < nn
    · have HSUC := Lib.hid (waysL_succ NL k)
      have hln := HNL.out k
      have hwk : IntKind.i64.wrap ((k : Int) + 1) = ((k + 1 : Nat) : Int) := by unfold IntKind.wrap; simp [IntKind.signed, IntKind.bits]; omega
      have HWK := Lib.hid hwk
      clear hwk
      obtain ⟨ys, hys⟩ : ∃ ys, NL k = ys := ⟨_, rfl⟩
      have hnk := hnear wr k hGr hlt
      rw [hys] at hnk hln
      have HYS := Lib.hid hys
      clear hys
      gi_wp2_with (refine ⟨trivial, ?_⟩; gi_at_call 18; refine (callsIn_wide.2 hnk).mono ?_; rintro e w1 ⟨v, rfl, hown, hk1⟩; have hl1 := (RdI.of_own hown).1; obtain ⟨AA, cc, rfl, hmm, _⟩ := hl1)
      have hsz1 := Nat.le_trans hsz hk1.size
      have hJ1 := hJ _ wr w1 none hJs hk1.grownBy (fun r e => by cases e)
      have hG1' := hG1 _ _ hGr hk1
      have ht1 := hk1.cell (by simp) htr
      have hrd1 := (RdI.of_own hown).1
      have hob : ∀ b, (Value.slice AA ys.length cc).ownBlock = some b → b ∉ S := fun b hb hbS' => by
        have h1 := (hown.lt b hb).1
        have h2 := hS b hbS'
        omega
      have HOB := Lib.hid hob
      obtain ⟨L, hL⟩ : ∃ L, ys.length = L := ⟨_, rfl⟩
      rw [hL] at hln hrd1 hmm HOB ⊢
      have HL := Lib.hid hL
      clear hob hL hown
      unfold maxLen at hmm
      gi_loopw [15] (fun i wr2 => ∃ (j : Nat), i = .int .i64 j ∧ j ≤ L ∧ J (waysL NL k ++ (ys.take j).map (fun z => ((k : Int), z))) wr2 ∧ Good wr2 ∧ wr2.cell? ⟨bt, 0, none⟩ = some (.pointer tp) ∧ RdI wr2 .i64 (.slice AA L cc) ys ∧ W.heap.size ≤ wr2.heap.size) (fun i _ => L - (intOf i).toNat)
      case atStart => exact ⟨0, rfl, by omega, by simpa using hJ1, hG1', ht1, hrd1, hsz1⟩
      case round =>
        obtain ⟨j, rfl, hj, hJs2, hGr2, htr2, hrd2, hsz2⟩ := hrel
        by_cases hlt2 : j < L
        · obtain ⟨z, hz⟩ : ∃ z, ys[j]? = some z := ⟨_, List.getElem?_eq_getElem (by rw [HL.out]; exact hlt2)⟩
          have hrd2' := hrd2
          obtain ⟨A', c', he, _, hcell⟩ := hrd2'
          obtain ⟨bb, off, rfl, hcc⟩ := hcell (by rintro rfl; simp at hz)
          injection he with he1 he2 he3
          subst he1 he3
          have hcz := hcc j z hz
          have htk : ys.take (j + 1) = ys.take j ++ [z] := by
            obtain ⟨g1, g2⟩ := List.getElem?_eq_some_iff.1 hz
            rw [List.take_succ_eq_append_getElem g1, g2]
          have hnxt : (waysL NL k ++ (ys.take j).map (fun z => ((k : Int), z))) ++ [((k : Int), z)] = waysL NL k ++ (ys.take (j + 1)).map (fun z => ((k : Int), z)) := by
            rw [htk]; simp
          have hpr : waysL NL k ++ (ys.take (j + 1)).map (fun z => ((k : Int), z)) <+: waysL NL nn := by
            refine List.IsPrefix.trans ?_ (HPRE.out (k + 1) (by omega))
            rw [HSUC.out, HYS.out]
            exact (List.prefix_append_right_inj _).2 ((List.take_prefix _ _).map _)
          have hlen256 : (waysL NL k ++ (ys.take j).map (fun z => ((k : Int), z))).length < 256 := by
            have h1 := hpr.length_le
            have h2 := HNN.out
            rw [← hnxt, List.length_append] at h1
            simp at h1
            simp
            omega
          have HNXT := Lib.hid hnxt
          have HPR := Lib.hid hpr
          have HRD2 := Lib.hid hrd2
          have hwj : IntKind.i64.wrap ((j : Int) + 1) = ((j + 1 : Nat) : Int) := by unfold IntKind.wrap; simp [IntKind.signed, IntKind.bits]; omega
          have HWJ := Lib.hid hwj
          clear hz hcell he2 hcc htk hnxt hpr hrd2 hwj
          obtain ⟨fn, tmps, assign, body, hy, hR⟩ := hY _ ((k : Int), z) _ hJs2 hlen256
          dsimp only [encW] at hy
          clear hlen256
          gi_wp2_with fail
          refine hR.mono ?_
          rintro e W3 (⟨rfl, hJ3, hk3⟩ | ⟨rfl, hJx3⟩)
          · rw [HNXT.out] at hJ3
            gi_wp2_with fail
            go_roundw
            case rel => exact ⟨j + 1, by go_num, by omega, hJ3, hG2 _ _ hGr2 hk3, hk3.cell hbS htr2, RdI.keptC HRD2.out hk3 HOB.out, by have := hk3.size; omega⟩
            case measure => simp [intOf]; omega
          · rw [HNXT.out] at hJx3
            gi_wp2_with fail
            refine bodyPost_ret (results_none rfl _ _ _) rfl ?_
            exact ⟨⟨_, rfl⟩, .inr ⟨_, HPR.out, hJx3⟩⟩
        · have hfin : J (waysL NL (k + 1)) wr := by
            rw [HSUC.out, HYS.out]
            rw [List.take_of_length_le (by rw [HL.out]; omega)] at hJs2
            exact hJs2
          clear hJs2
          gi_wp2_with fail
          go_roundw
          case rel => exact ⟨k + 1, by go_num, by omega, hfin, hGr2, htr2, hsz2⟩
          case measure => simp [intOf]; omega
    · gi_wp2
      go_end0
      have : k = nn := by omega
      subst this
      exact ⟨⟨_, rfl⟩, .inl ⟨_, rfl, hJs⟩⟩

end Go.Proofs.Ytikpnlmimhnmmaa

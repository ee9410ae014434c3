/- Attributes, sorted: the program's. -/
import Derived.Test.YthnfoiaahiopdaaDoorB4
set_option linter.unusedVariables false
set_option linter.unusedSimpArgs false
set_option linter.unnecessarySimpa false
namespace Go.Proofs.YthnfoiaahiopdaaDoor
open Go.RowKit Go.Shelf
attribute [local go_sem] Oper.semAt_some

theorem mem_insRev (x y : AttrD) : ∀ Q : List AttrD, y ∈ insRev x Q → y = x ∨ y ∈ Q
  | [], h => by simp [insRev] at h; exact .inl h
  | z :: Q, h => by
    rw [insRev] at h
    split at h
    · rcases List.mem_cons.1 h with h | h
      · exact .inr (by simp [h])
      · rcases mem_insRev x y Q h with h | h
        · exact .inl h
        · exact .inr (by simp [h])
    · rcases List.mem_cons.1 h with h | h
      · exact .inl h
      · exact .inr h
theorem mem_sortL : ∀ (n : Nat) (l : List AttrD), l.length = n → ∀ y ∈ sortL l, y ∈ l
  | 0, l, h, y, hy => by rw [List.eq_nil_of_length_eq_zero h] at hy; simp [sortL] at hy
  | n + 1, l, h, y, hy => by
    rcases List.eq_nil_or_concat l with rfl | ⟨M, x, rfl⟩
    · simp at h
    · rw [List.concat_eq_append] at h hy ⊢
      rw [List.length_append] at h
      rw [sortL_snoc] at hy
      unfold insR at hy
      rw [List.mem_reverse] at hy
      rcases mem_insRev x y _ hy with h1 | h1
      · simp [h1]
      · rw [List.mem_reverse] at h1
        have := mem_sortL n M (by simpa using h) y h1
        simp [this]
set_option maxRecDepth 100000 in
theorem lCheckAttrs_big (A : Option Addr) (n c : Nat) (hn : n ≤ 9223372036854775807) (hbig : 8 < n) (w : World) : Calls Tryd.prog 31 #[.slice A n c] w fun e w' => e = .returned (.int .i64 3) ∧ Kept [] w w' := by
  have hd : decide ((8 : Int) < (n : Int)) = true := decide_eq_true (by omega)
  go_enter Tryd.func31, Tryd.ntmps31
  go_wp2_with fail
  go_ret
  exact ⟨rfl, Kept.refl _ _⟩
/-- The attributes in order, and the fault. -/
def attrsV (l : List AttrD) : List AttrD × Int := if 8 < l.length then ([], 3) else if chkA (sortL l) = 0 then (sortL l, 0) else ([], chkA (sortL l))
def AttrsPost (w : World) (l : List AttrD) (e : Ending) (w' : World) : Prop := ∃ v, e = .returned (.tuple #[v, .int .i64 (attrsV l).2]) ∧ Rds attrR w' v (attrsV l).1 ∧ Kept [] w w'
theorem rds_nil (w : World) : Rds attrR w (.slice none 0 0) [] := rds_of_own (base := 0) (World.ownsRow_nil _ _ _ _) (Nat.zero_le _) (fun x hx => by cases hx)
theorem AttrsPost.no {w w' : World} {l : List AttrD} {x : Int} (h : attrsV l = ([], x)) (hk : Kept [] w w') : AttrsPost w l (.returned (.tuple #[.slice none 0 0, .int .i64 x])) w' := ⟨_, by rw [h], by rw [h]; exact rds_nil _, hk⟩
theorem AttrsPost.yes {w w' : World} {l S : List AttrD} {v : Value} (h : attrsV l = (S, 0)) (hr : Rds attrR w' v S) (hk : Kept [] w w') : AttrsPost w l (.returned (.tuple #[v, .int .i64 0])) w' := ⟨_, by rw [h], by rw [h]; exact hr, hk⟩
/-- The first cells of the row's elements may be written, and lie in new memory. -/
def OwnA (base : Nat) (w' : World) (v : Value) (n : Nat) : Prop := ∀ i, i < n → ∃ g c x, v = .slice (some ⟨g, 0, none⟩) n c ∧ base ≤ g ∧ w'.cell? ⟨g, i * 4, none⟩ = some x ∧ w'.frozen? ⟨g, i * 4, none⟩ = false
theorem Kept.frozen {S : List Nat} {w w' : World} (h : Kept S w w') {a : Addr} {v : Value} (hs : a.block ∉ S) (hc : w.cell? a = some v) : w'.frozen? a = w.frozen? a := by
  have hl := World.block_lt_of_cell? w a hc
  have := h.block a.block hl hs
  unfold World.frozen?
  rw [this]
theorem OwnA.keep {base : Nat} {w w' : World} {v : Value} {n : Nat} (h : OwnA base w v n) (hk : Kept [] w w') : OwnA base w' v n := fun i hi => by
  obtain ⟨g, c, x, h1, h2, h3, h4⟩ := h i hi
  exact ⟨g, c, x, h1, h2, hk.cell (by simp) h3, by rw [hk.frozen (by simp) h3]; exact h4⟩
def AttrsPostL (w : World) (l : List AttrD) (e : Ending) (w' : World) : Prop := ∃ v, e = .returned (.tuple #[v, .int .i64 (attrsV l).2]) ∧ Rds attrR w' v (attrsV l).1 ∧ OwnA w.heap.size w' v (attrsV l).1.length ∧ Kept [] w w'
theorem AttrsPostL.no {w w' : World} {l : List AttrD} {x : Int} (h : attrsV l = ([], x)) (hk : Kept [] w w') : AttrsPostL w l (.returned (.tuple #[.slice none 0 0, .int .i64 x])) w' := ⟨_, by rw [h], by rw [h]; exact rds_nil _, by rw [h]; intro i hi; simp at hi, hk⟩
theorem AttrsPostL.yes {w w' : World} {l S : List AttrD} {v : Value} (h : attrsV l = (S, 0)) (hr : Rds attrR w' v S) (ho : OwnA w.heap.size w' v S.length) (hk : Kept [] w w') : AttrsPostL w l (.returned (.tuple #[v, .int .i64 0])) w' := ⟨_, by rw [h], by rw [h]; exact hr, by rw [h]; exact ho, hk⟩
/-- The sorted row is read. -/
theorem rds_sorted {w1 w2 : World} {v : Value} {l : List AttrD} (hr : Rds attrR w1 v l) (h20 : ∀ i x, (sortL l)[i]? = some x → ∃ g c, v = .slice (some ⟨g, 0, none⟩) l.length c ∧ ∀ j, j < 4 → w2.cell? ⟨g, 0 + i * 4 + j, none⟩ = (attrC x)[j]?) (hok : ∀ x ∈ l, attrR.K w2 x (attrC x)) : Rds attrR w2 v (sortL l) := by
  have hls := sortL_len l.length l rfl
  obtain ⟨A, c, he, h1, h2, h3, hE⟩ := hr
  refine ⟨A, c, by rw [hls]; exact he, by rw [hls]; exact h1, h2, ?_, fun hn => ?_⟩
  · intro e
    obtain ⟨q1, q2⟩ := h3 e
    subst q1
    exact ⟨rfl, q2⟩
  · obtain ⟨x0, hx0⟩ : ∃ x, (sortL l)[0]? = some x := by
      cases hs : sortL l with
      | nil => exact absurd hs hn
      | cons x r => exact ⟨x, rfl⟩
    obtain ⟨g, c', hv, _⟩ := h20 0 x0 hx0
    rw [hv] at he
    simp only [List.cons.injEq, and_true] at he
    injection he with e1 e2 e3
    refine ⟨g, 0, e1.symm, fun i x hx => ⟨attrC x, hok x (mem_sortL _ l rfl x (List.mem_of_getElem? hx)), fun j hj => ?_⟩⟩
    obtain ⟨g', c'', hv', hc⟩ := h20 i x hx
    rw [hv] at hv'
    injection hv' with q1 q2 q3
    injection q1 with q1
    injection q1 with q4 q5 q6
    subst q4
    exact hc j hj

set_option maxRecDepth 100000 in
set_option maxHeartbeats 4000000 in
theorem lAttrs_own (v : Value) (l : List AttrD) (w : World) (hx : Rds attrR w v l) (hb : l.length * 48 ≤ 140737488355328) : Calls Tryd.prog 25 #[v] w (AttrsPostL w l) := by
  have HCL := Lib.hid (clone_attrs v l w hx hb)
  have HOK := Lib.hid (ints_ok hx)
  obtain ⟨A, c, rfl, hmx⟩ := hx.form
  obtain ⟨n, hn⟩ : ∃ n, l.length = n := ⟨_, rfl⟩
  rw [hn] at hb hmx HCL ⊢
  have HN := Lib.hid hn
  clear hx hn
  go_enter Tryd.func25, Tryd.ntmps25
  go_wp2_with fail
  refine HCL.out.mono ?_
  rintro e w1 ⟨v1, rfl, hr1, ho1, hk1⟩
  have HSO := Lib.hid (sortOwn_any v1 l w.heap.size w1 ho1 (by rw [HN.out]; omega))
  have HR1 := Lib.hid hr1
  have HK1 := Lib.hid hk1
  obtain ⟨A1, c1, rfl⟩ := own_len ho1
  rw [HN.out] at HSO HR1 ⊢
  clear hr1 ho1 hk1
  go_wp2_with fail
  refine HSO.out.mono ?_
  rintro e w2 ⟨rfl, hkk, hcl⟩
  have HK2 := Lib.hid (hkk w rfl HK1.out)
  have HCE := Lib.hid hcl
  clear hkk hcl
  by_cases hbig : 8 < n
  · have HE : Hid (attrsV l = ([], 3)) := by show _ = _; unfold attrsV; rw [if_pos (by rw [HN.out]; exact hbig)]
    go_wp2_with fail
    refine (lCheckAttrs_big A1 n c1 hmx hbig w2).mono ?_
    rintro e w3 ⟨rfl, hk3⟩
    have HK3 := Lib.hid (HK2.out.trans hk3)
    clear hk3
    go_wp2_with fail
    go_ret2
    exact AttrsPostL.no HE.out HK3.out
  · have hrs := rds_sorted HR1.out (fun i x hx => by
      obtain ⟨g, c', h1, h2, _⟩ := HCE.out (by rw [HN.out]; omega) i x hx
      exact ⟨g, c', h1, h2⟩) (fun x hx => attrR.keep HK2.out (HOK.out x hx))
    have HO2 : Hid (OwnA w.heap.size w2 (.slice A1 n c1) (sortL l).length) := fun i hi => by
      obtain ⟨g, c', h1, h2, h3, h4⟩ := HCE.out (by rw [HN.out]; omega) i _ (List.getElem?_eq_getElem hi)
      have h5 := h2 0 (by decide)
      rw [Nat.zero_add, Nat.add_zero] at h5
      exact ⟨g, c', _, by rw [h1, sortL_len l.length l rfl], h3, h5, h4⟩
    have HRS := Lib.hid hrs
    have HLC := Lib.hid (lCheckAttrs_any _ _ w2 hrs)
    obtain ⟨F, hF⟩ : ∃ F, chkA (sortL l) = F := ⟨_, rfl⟩
    have HF := Lib.hid hF
    rw [hF] at HLC
    clear hrs hF
    go_wp2_with fail
    refine HLC.out.mono ?_
    rintro e w3 ⟨rfl, hk3⟩
    have HK3 := Lib.hid (HK2.out.trans hk3)
    have HR3 := Lib.hid (Rds.keep HRS.out hk3)
    have HO3 := Lib.hid (HO2.out.keep hk3)
    clear hk3
    by_cases h0 : F = 0
    · have HE : Hid (attrsV l = (sortL l, 0)) := by show _ = _; unfold attrsV; rw [if_neg (by rw [HN.out]; exact hbig), HF.out, if_pos h0]
      subst h0
      go_wp2_with fail
      go_ret2
      exact AttrsPostL.yes HE.out HR3.out HO3.out HK3.out
    · have hne : (F == 0) = false := by simpa using h0
      have hne2 : (F != 0) = true := by simpa using h0
      have HE : Hid (attrsV l = ([], F)) := by show _ = _; unfold attrsV; rw [if_neg (by rw [HN.out]; exact hbig), HF.out, if_neg h0]
      clear h0
      go_wp2_with fail
      go_ret2
      exact AttrsPostL.no HE.out HK3.out

theorem lAttrs_any (v : Value) (l : List AttrD) (w : World) (hx : Rds attrR w v l) (hb : l.length * 48 ≤ 140737488355328) : Calls Tryd.prog 25 #[v] w (AttrsPost w l) :=
  (lAttrs_own v l w hx hb).mono fun e w' ⟨x, h1, h2, _, h4⟩ => ⟨x, h1, h2, h4⟩

end Go.Proofs.YthnfoiaahiopdaaDoor

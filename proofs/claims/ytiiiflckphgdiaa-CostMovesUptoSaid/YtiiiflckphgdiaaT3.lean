/- The way up, depths. -/
import Derived.Test.YtiiiflckphgdiaaT2
import Derived.Lib.MinMax
set_option linter.unusedVariables false
set_option linter.unusedSimpArgs false
namespace Go.Proofs.Ytiiiflckphgdiaa
open Go.RowKit Tr

def sliceLen : Value → Nat | .slice _ n _ => n | _ => 0
theorem own_lenT {w : World} {base : Nat} {e : TypeId} {size : Nat} {v : Value} {n : Nat} {xs : List Value} (h : w.ownsRow base e size v n xs) : ∃ A c, v = .slice A n c ∧ sliceLen v = n := by
  rcases h.2 with ⟨rfl, rfl⟩ | ⟨g, cap, cur, rfl, _⟩
  · exact ⟨none, 0, rfl, rfl⟩
  · exact ⟨_, cap, rfl, rfl⟩
theorem infoInt : (Try.prog.info? 3).map (fun i => (i.zero, i.size, i.bytes)) = some (some (.int .i64 0), 1, 8) := by kernel_rfl

def riseG (P : List Int) (i : Int) : List Int := if inB P.length i then rise P i else []

theorem riseG_next {P : List Int} (h : Tree P) {i cur : Int} {k : Nat} (hc : (riseG P i)[k]? = some cur) :
    inB P.length cur ∧ ((par P cur = -1 ∧ (riseG P i).length = k + 1) ∨ (inB P.length (par P cur) ∧ (riseG P i)[k + 1]? = some (par P cur))) := by
  unfold riseG at hc ⊢
  split at hc
  · rename_i hi
    rw [if_pos hi]
    obtain ⟨h1, h2⟩ := rise_drop h k i cur hi hc
    refine ⟨h1, ?_⟩
    have hk : k < (rise P i).length := (List.getElem?_eq_some_iff.1 hc).1
    by_cases hp : par P cur < 0
    · left
      refine ⟨par_neg h h1 hp, ?_⟩
      have h3 := congrArg List.length h2
      rw [rise_root h hp, List.length_drop] at h3
      simp at h3
      omega
    · right
      refine ⟨par_in h h1 hp, ?_⟩
      rw [rise_step h h1 hp] at h2
      have h3 := congrArg (fun l => l[1]?) h2
      simp only [List.getElem?_drop, List.getElem?_cons_succ] at h3
      rw [rise_head h (par_in h h1 hp)] at h3
      exact h3
  · simp at hc
theorem riseG_le {P : List Int} (h : Tree P) (i : Int) : (riseG P i).length ≤ 16 := by
  unfold riseG
  split
  · rename_i hi
    rw [rise_len h hi]
    have := depth_lt h hi
    have := h.le
    omega
  · simp

def RisePost (w : World) (xs : List Int) (e : Ending) (w' : World) : Prop :=
  ∃ v, e = .returned v ∧ w'.ownsRow w.heap.size 3 1 v xs.length (xs.map (.int .i64)) ∧ Kept [] w w'

set_option maxRecDepth 100000 in
set_option maxHeartbeats 2000000 in
theorem rise_any (b : Nat) (P : List Int) (i : Int) (w : World) (h : TreeAt w b P) (hT : Tree P) :
    Calls Try.prog 108 #[.pointer (some ⟨b, 0, none⟩), .int .i64 i] w (RisePost w (riseG P i)) := by
  obtain ⟨i0, hi, hz0, hz1, hz2⟩ := info_parts infoInt
  have HNX : Hid (∀ (cur : Int) (k : Nat), (riseG P i)[k]? = some cur → inB P.length cur ∧ ((par P cur = -1 ∧ (riseG P i).length = k + 1) ∨ (inB P.length (par P cur) ∧ (riseG P i)[k + 1]? = some (par P cur)))) := fun cur k => riseG_next hT
  have hle := riseG_le hT i
  have h0 : (0 < (riseG P i).length ∧ (riseG P i)[0]? = some i) ∨ ((riseG P i).length = 0 ∧ ¬ inB P.length i) := by
    unfold riseG
    by_cases hi : inB P.length i
    · left; rw [if_pos hi]; exact ⟨by rw [rise_len hT hi]; omega, rise_head hT hi⟩
    · right; rw [if_neg hi]; exact ⟨rfl, hi⟩
  have H0 := Lib.hid h0
  clear h0
  obtain ⟨R, hR⟩ : ∃ R, riseG P i = R := ⟨_, rfl⟩
  rw [hR] at HNX H0 hle ⊢
  clear hR
  have hP16 := h.1
  go_enter Try.func108, Try.ntmps108
  go_wp2_with fail
  go_loopw [1, 5] (fun p v wr => ∃ (k : Nat) (cur : Int), k ≤ R.length ∧ p = .int .i64 cur ∧ wr.ownsRow w.heap.size 3 1 v k ((R.take k).map (.int .i64)) ∧ Kept [] w wr ∧ ((k < R.length ∧ R[k]? = some cur) ∨ (k = R.length ∧ ¬ inB P.length cur))) (fun _ v _ => R.length - sliceLen v)
  case atStart =>
    refine ⟨0, i, Nat.zero_le _, rfl, World.ownsRow_nil _ _ _ _, Kept.refl _ _, ?_⟩
    rcases H0.out with ⟨h1, h2⟩ | ⟨h1, h2⟩
    · exact .inl ⟨h1, h2⟩
    · exact .inr ⟨h1.symm, h2⟩
  case round =>
    obtain ⟨k, cur, hk, rfl, hown, hKr, hcase⟩ := hrel
    have hTr := RawAt.keep h hKr
    rcases hcase with ⟨hlt, hcur⟩ | ⟨rfl, hni⟩
    · obtain ⟨hin, hnx⟩ := HNX.out cur k hcur
      obtain ⟨A, c, rfl, hsl⟩ := own_lenT hown
      clear hsl
      have hin' := hin
      unfold inB at hin'
      obtain ⟨q, rfl⟩ := Int.eq_ofNat_of_zero_le hin'.1
      have hpar := TreeAt.par (w := wr) hTr q (by omega)
      have hb1 : (decide ((0:Int) ≤ (q:Int)) && decide ((q:Int) < (P.length:Int))) = true := by simp; omega
      have HB := Lib.hid hb1
      have hq16 : q < 16 := by omega
      have hqP : q < P.length := by omega
      have HIN := Lib.hid hin
      have HIN' := Lib.hid hin'
      have HCUR := Lib.hid hcur
      have HNXT := Lib.hid hnx
      clear hb1 hin hin' hcur hnx
      have hgl : ∀ x, (Value.slice A k c).ownBlock = some x → x < wr.heap.size := fun x hx => (hown.lt x hx).2
      have HGL := Lib.hid hgl
      have hgb : ∀ x, (Value.slice A k c).ownBlock = some x → w.heap.size ≤ x := fun x hx => (hown.lt x hx).1
      have HGB := Lib.hid hgb
      clear hgl hgb
      have hsz := hKr.size
      have HOWN := Lib.hid hown
      clear hown
      have hlenk : (R.take k).length = k := by simp; omega
      have HLK := Lib.hid hlenk
      clear hlenk
      clear hpar
      go_wp2_with (first | (go_at_call 107; refine (is_some b P.length _ q _ hTr).mono ?_; rintro e w' ⟨rfl, rfl⟩; rw [HB.out]) | (at_builtin; refine wpList_append_own _ rfl _ _ 47 rfl w.heap.size 3 i0 (.int .i64 0) 1 8 Try.underlying47 hi hz0 hz1 hz2 rfl (by decide) _ k ((R.take k).map (.int .i64)) rfl (HOWN.out.alloc _) ⟨wr.heap.size, 0, none⟩ 1 1 [.int .i64 q] rfl rfl (cell_one_new _ _ _) (by simp [Value.oneCell']) (by unfold maxLen; omega) (by omega) (by simp; omega) ?_))
      intro v' w1 hown1 hgrow1 _
      have hK1 : Kept [] w w1 := (hKr.alloc _).grown hgrow1 (fun x hx => .inr (HGB.out x hx))
      have hTr1 := RawAt.keep h hK1
      have hpar1 := TreeAt.par (w := w1) hTr1 q (by omega)
      obtain ⟨nx, hnx⟩ : ∃ nx, par P q = nx := ⟨_, rfl⟩
      rw [hnx] at hpar1
      have HNX2 := Lib.hid hnx
      clear hnx
      have HOWN1 := Lib.hid hown1
      clear hown1 hgrow1
      go_wp2_with fail
      go_roundw
      case rel =>
        have hlk : k < R.length := hlt
        refine ⟨k + 1, nx, by omega, rfl, ?_, hK1, ?_⟩
        · have h1 := HOWN1.out
          have h2 : R.take (k + 1) = R.take k ++ [(q : Int)] := by
            rw [List.take_succ_eq_append_getElem hlk]
            have := HCUR.out
            rw [List.getElem?_eq_getElem hlk] at this
            injection this with this
            rw [this]
          rw [h2, List.map_append, List.map_take]
          exact h1
        · rcases HNXT.out with ⟨h1, h2⟩ | ⟨h1, h2⟩
          · right
            rw [HNX2.out] at h1
            refine ⟨h2.symm, ?_⟩
            rw [h1]; unfold inB; omega
          · left
            rw [HNX2.out] at h1 h2
            exact ⟨(List.getElem?_eq_some_iff.1 h2).1, h2⟩
      case measure => obtain ⟨_, _, rfl, h1⟩ := own_lenT HOWN1.out; simp [sliceLen]; omega
    · have hb1 : (decide ((0:Int) ≤ cur) && decide (cur < (P.length:Int))) = false := by
        unfold inB at hni
        cases h1 : decide ((0:Int) ≤ cur) with
        | false => rfl
        | true => simp at h1 ⊢; omega
      have HB := Lib.hid hb1
      clear hb1 hni
      have HOWN := Lib.hid hown
      clear hown
      go_wp2_with (go_at_call 107; refine (is_some b P.length _ cur _ hTr).mono ?_; rintro e w' ⟨rfl, rfl⟩; rw [HB.out])
      go_ret
      refine ⟨_, rfl, ?_, hKr⟩
      have := HOWN.out
      rwa [List.take_length] at this

def depthG (P : List Int) (i : Int) : Int := if inB P.length i then depth P i else 0
theorem depthG_len {P : List Int} (h : Tree P) (i : Int) : depthG P i = max 0 (((riseG P i).length : Int) - 1) := by
  unfold depthG riseG
  split
  · rename_i hi
    rw [rise_len h hi]
    omega
  · rfl

end Go.Proofs.Ytiiiflckphgdiaa

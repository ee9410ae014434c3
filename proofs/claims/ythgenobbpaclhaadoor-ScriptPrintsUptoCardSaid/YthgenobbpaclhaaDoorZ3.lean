/- Scripts, the program's: words of numbers, of texts, of lists of numbers. -/
import Derived.Test.YthgenobbpaclhaaDoorZ1
import Derived.Test.YthgenobbpaclhaaDoorRd
import Derived.Test.YthgenobbpaclhaaDoorX6
import Derived.Test.YthgenobbpaclhaaDoorV12
import Derived.Test.YthgenobbpaclhaaDoorKq
import Derived.Deep.DeepCutAuto
set_option linter.unusedVariables false
set_option linter.unusedSimpArgs false
set_option linter.unnecessarySimpa false
namespace Go.Proofs.YthgenobbpaclhaaDoor
open Go.RowKit Go.Shelf
attribute [local go_sem] Oper.semAt_some

theorem own_keep {w w' : World} {base : Nat} {e : TypeId} {size : Nat} {v : Value} {n : Nat} {xs : List Value} (h : w.ownsRow base e size v n xs) (hk : Kept [] w w') : w'.ownsRow base e size v n xs := by
  refine ⟨h.1, ?_⟩
  rcases h.2 with h0 | ⟨g, cap, cur, rfl, h1, h2, h3⟩
  · exact .inl h0
  · exact .inr ⟨g, cap, cur, rfl, h1, by rw [hk.block g (Array.getElem?_eq_some_iff.1 h2).1 (by simp)]; exact h2, h3⟩
theorem infoStr5 : (Tryd.prog.info? 9).map (fun i => (i.zero, i.size, i.bytes)) = some (some (.string { data := #[] }), 1, 16) := by kernel_rfl

/-- A row of texts of the call's own. -/
def cW (ws : List ByteArray) : List Value := ws.map Value.string
def OwnS (w : World) (base : Nat) (v : Value) (ws : List ByteArray) : Prop := w.ownsRow base 9 1 v ws.length (cW ws)
theorem OwnS.keep {w w' : World} {base : Nat} {v : Value} {ws : List ByteArray} (h : OwnS w base v ws) (hk : Kept [] w w') : OwnS w' base v ws := own_keep h hk
theorem OwnS.le {w : World} {b b' : Nat} {v : Value} {ws : List ByteArray} (h : OwnS w b v ws) (hb : b' ≤ b) : OwnS w b' v ws := rowBase h hb
theorem OwnS.lit (w : World) (base : Nat) (ws : List ByteArray) (hb : base ≤ w.heap.size) (h0 : 0 < ws.length) (hm : ws.length ≤ maxLen) : OwnS (w.alloc (.cells (cW ws).toArray 9)) base (.slice (some ⟨w.heap.size, 0, none⟩) ws.length ws.length) ws := by
  have h := own_new w base 9 (cW ws) hb (by unfold cW; rw [List.length_map]; exact hm) (by unfold cW; rw [List.length_map]; exact h0)
  unfold OwnS
  have e : (cW ws).length = ws.length := by unfold cW; rw [List.length_map]
  rw [e] at h
  exact h
theorem OwnS.len {w : World} {base : Nat} {v : Value} {ws : List ByteArray} (h : OwnS w base v ws) : ∃ A c, v = .slice A ws.length c := own_len h

set_option maxRecDepth 100000 in
theorem num_any (n : Int) (hn : I64 n) (w : World) (ht : TabVar w) : Calls Tryd.prog 22 #[.int .i64 n] w fun e w' => e = .returned (.string (numT n)) ∧ Kept [] w w' := by
  have HT := Lib.hid ht
  clear ht
  go_enter Tryd.func22, Tryd.ntmps22
  go_wp2_with fail
  refine (Tryd.strconv_FormatInt_10 n hn.1 hn.2 _ HT.out).mono ?_
  rintro e w1 ⟨rfl, k, os, hw⟩
  have HK1 : Hid (Kept [] w w1) := by show Kept [] w w1; rw [hw]; exact ((Kept.refl [] w).drewN k).trans (kept_grow _ os)
  clear hw
  go_wp2_with fail
  go_ret
  exact ⟨rfl, HK1.out⟩
set_option maxRecDepth 100000 in
theorem num64_any (n : Int) (hn : I64 n) (w : World) (ht : TabVar w) : Calls Tryd.prog 46 #[.int .i64 n] w fun e w' => e = .returned (.string (numT n)) ∧ Kept [] w w' := by
  have HT := Lib.hid ht
  clear ht
  go_enter Tryd.func46, Tryd.ntmps46
  go_wp2_with fail
  refine (Tryd.strconv_FormatInt_10 n hn.1 hn.2 _ HT.out).mono ?_
  rintro e w1 ⟨rfl, k, os, hw⟩
  have HK1 : Hid (Kept [] w w1) := by show Kept [] w w1; rw [hw]; exact ((Kept.refl [] w).drewN k).trans (kept_grow _ os)
  clear hw
  go_wp2_with fail
  go_ret
  exact ⟨rfl, HK1.out⟩
theorem textV_two (s : ByteArray) (n : Int) : textV (2, n, s) = quoT s := by unfold textV; rw [if_neg (by show ¬ (2 : Int) = 1; decide), if_pos rfl]; rfl
theorem textV_one (s : ByteArray) (n : Int) : textV (1, n, s) = numT n := by unfold textV; rw [if_pos rfl]; rfl
set_option maxRecDepth 100000 in
theorem stext_any (s : ByteArray) (hs : s.size ≤ 1048576) (w : World) (ht : TabVar w) : Calls Tryd.prog 45 #[.string s] w fun e w' => e = .returned (.string (quoT s)) ∧ Kept [] w w' := by
  have h := text_any 2 0 s ⟨by show (-9223372036854775808 : Int) ≤ 0; decide, by show (0 : Int) ≤ 9223372036854775807; decide, by show 4 * s.size + 2 ≤ _; omega⟩ w ht
  rw [textV_two] at h
  have HT := Lib.hid h
  clear ht h
  go_enter Tryd.func45, Tryd.ntmps45
  go_wp2_with fail
  refine HT.out.mono ?_
  rintro e w1 ⟨rfl, hk⟩
  have HK1 := Lib.hid hk
  clear hk
  go_wp2_with fail
  go_ret
  exact ⟨rfl, HK1.out⟩

def WordsPost (w : World) (ws : List ByteArray) (e : Ending) (w' : World) : Prop := ∃ v, e = .returned v ∧ OwnS w' w.heap.size v ws ∧ Kept [] w w'
set_option maxRecDepth 100000 in
set_option maxHeartbeats 2000000 in
theorem list_any (v : Value) (l : List Int) (w : World) (hx : RdI w .i64 v l) (hl : l.length ≤ 1048576) (hi : ∀ n ∈ l, I64 n) (ht : TabVar w) : Calls Tryd.prog 23 #[v] w (WordsPost w (listW l)) := by
  obtain ⟨i0, hi0, hz0, hz1, hz2⟩ := info_parts infoStr5
  have HX := Lib.hid hx
  obtain ⟨A, c, rfl, hm, _⟩ := hx
  have HNU : Hid (∀ n W, I64 n → Kept [] w W → Calls Tryd.prog 22 #[.int .i64 n] W fun e w' => e = .returned (.string (numT n)) ∧ Kept [] W w') := fun n W hn hk => num_any n hn W (ht.keep hk)
  have HI := Lib.hid hi
  obtain ⟨n, hn⟩ : ∃ n, l.length = n := ⟨_, rfl⟩
  rw [hn] at hl HX hm ⊢
  have HN := Lib.hid hn
  have HL : Hid (listW l = numT n :: l.map numT) := by show _ = _; unfold listW; rw [hn]
  rw [HL.out]
  clear ht hi hn
  go_enter Tryd.func23, Tryd.ntmps23
  go_wp2_with fail
  refine (HNU.out n _ ⟨by omega, by omega⟩ (Kept.refl _ _)).mono ?_
  rintro e w1 ⟨rfl, hk1⟩
  have HK1 := Lib.hid (hk1.alloc (.cells #[.string (numT n)] 9))
  have HO1 := Lib.hid (OwnS.lit w1 w.heap.size [numT n] hk1.size (by simp) (by simp [maxLen]))
  clear hk1
  go_wp2_with fail
  go_loopw [3, 12] (fun vv ii wr => ∃ (k : Nat), k ≤ n ∧ ii = .int .i64 k ∧ OwnS wr w.heap.size vv (numT n :: (l.take k).map numT) ∧ Kept [] w wr) (fun _ ii _ => n - (intOf ii).toNat)
  case atStart => exact ⟨0, by omega, rfl, HO1.out, HK1.out⟩
  case round =>
    obtain ⟨k, hk, rfl, hown, hK⟩ := hrel
    have HK := Lib.hid hK
    obtain ⟨AA, cc, rfl⟩ := hown.len
    have hlen : (numT n :: (l.take k).map numT).length = k + 1 := by rw [List.length_cons, List.length_map, List.length_take, HN.out]; omega
    rw [hlen]
    have HOWN : Hid (wr.ownsRow w.heap.size 9 1 (.slice AA (k + 1) cc) (k + 1) (cW (numT n :: (l.take k).map numT))) := by
      have := hown
      unfold OwnS at this
      rw [hlen] at this
      exact this
    by_cases hlt : k < n
    · obtain ⟨x, hxg⟩ : ∃ x, l[k]? = some x := ⟨_, List.getElem?_eq_getElem (by rw [HN.out]; exact hlt)⟩
      have hxi : I64 x := HI.out x (List.mem_of_getElem? hxg)
      have HXI := Lib.hid hxi
      obtain ⟨A', c', he, _, hE⟩ := HX.out.keep hK
      obtain ⟨b, off, rfl, hc⟩ := hE (by rintro rfl; simp at hxg)
      injection he with he1 he2 he3
      subst he1 he3
      have hcx := hc k x hxg
      have htk : (l.take (k + 1)).map numT = (l.take k).map numT ++ [numT x] := by
        obtain ⟨g1, g2⟩ := List.getElem?_eq_some_iff.1 hxg
        rw [List.take_succ_eq_append_getElem g1, g2, List.map_append]
        rfl
      have HTK := Lib.hid htk
      clear hown hlen hxi hE hc hxg htk hK he2
      go_wp2_with fail
      refine (HNU.out x _ HXI.out HK.out).mono ?_
      rintro e w2 ⟨rfl, hk2⟩
      have HK2 := Lib.hid (HK.out.trans hk2)
      have HO2 := Lib.hid (own_keep HOWN.out hk2)
      have hsz2 := HK2.out.size
      clear hk2
      go_wp2_with (at_builtin; refine wpList_append_own_at _ rfl _ _ 62 rfl w.heap.size 9 i0 (.string { data := #[] }) 1 16 Tryd.underlying62 hi0 hz0 hz1 hz2 rfl (by decide) _ (k + 1) _ rfl (World.ownsRow.alloc HO2.out _) ⟨w2.heap.size, 0, none⟩ 1 1 [.string (numT x)] rfl rfl (cell_one_new _ _ _) (by simp [Value.oneCell']) (by unfold maxLen; omega) (by omega) (by simp; omega) ?_)
      intro v' w5 hown5 hgrow5 _ hat5
      have HK5 : Hid (Kept [] w w5) := (HK2.out.alloc _).grown hgrow5 (fun x hx => .inr (HO2.out.lt _ hx).1)
      have HO5 : Hid (OwnS w5 w.heap.size v' (numT n :: (l.take (k + 1)).map numT)) := by
        show World.ownsRow _ _ _ _ _ _ _
        rw [HTK.out]
        have e : (numT n :: ((l.take k).map numT ++ [numT x])).length = k + 1 + 1 := by simp [HN.out]; omega
        rw [e]
        unfold cW at hown5 ⊢
        rw [← List.cons_append, List.map_append, List.map_take]
        exact hown5
      clear hown5 hgrow5 hat5
      go_wp2_with fail
      go_roundw
      case rel => exact ⟨k + 1, by omega, by go_num, HO5.out, HK5.out⟩
      case measure => simp [intOf]; omega
    · have hin : k = n := by omega
      have HF : Hid (OwnS wr w.heap.size (.slice AA (k + 1) cc) (numT n :: l.map numT)) := by
        show OwnS _ _ _ _
        have := hown
        rw [hlen, hin, List.take_of_length_le (by rw [HN.out]; exact Nat.le_refl _)] at this
        rw [hin]
        exact this
      clear hown hlen hK
      go_wp2_with fail
      go_ret
      exact ⟨_, rfl, HF.out, HK.out⟩

end Go.Proofs.YthgenobbpaclhaaDoor

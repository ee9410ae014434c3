/- Scripts, the document's: numbers, texts, lists of numbers, kinds' words. -/
import Derived.Test.YthgenobbpaclhaaDoorZ12
import Derived.Test.YthgenobbpaclhaaDoorD4
import Derived.Test.YthgenobbpaclhaaDoorKq
set_option linter.unusedVariables false
set_option linter.unusedSimpArgs false
set_option linter.unnecessarySimpa false
namespace Go.Proofs.YthgenobbpaclhaaDoor
open Go.RowKit Go.Shelf
attribute [local go_sem] Oper.semAt_some

set_option maxRecDepth 100000 in
theorem rnum_any (n : Int) (hn : I64 n) (w : World) (ht : TabVar w) : Calls Tryd.prog 42 #[.int .i64 n] w fun e w' => e = .returned (.string (numT n)) ∧ Kept [] w w' := by
  have HT := Lib.hid ht
  clear ht
  go_enter Tryd.func42, Tryd.ntmps42
  go_wp2_with fail
  refine (Tryd.strconv_FormatInt_10 n hn.1 hn.2 _ HT.out).mono ?_
  rintro e w1 ⟨rfl, k, os, hw⟩
  have HK1 : Hid (Kept [] w w1) := by show Kept [] w w1; rw [hw]; exact ((Kept.refl [] w).drewN k).trans (kept_grow _ os)
  clear hw
  go_wp2_with fail
  go_ret
  exact ⟨rfl, HK1.out⟩
set_option maxRecDepth 100000 in
theorem ritoa_any (n : Int) (hn : I64 n) (w : World) (ht : TabVar w) : Calls Tryd.prog 25 #[.int .i64 n] w fun e w' => e = .returned (.string (numT n)) ∧ Kept [] w w' := by
  have HN := Lib.hid (rnum_any n hn w ht)
  clear ht
  go_enter Tryd.func25, Tryd.ntmps25
  go_wp2_with fail
  refine HN.out.mono ?_
  rintro e w1 ⟨rfl, hk⟩
  have HK1 := Lib.hid hk
  clear hk
  go_wp2_with fail
  go_ret
  exact ⟨rfl, HK1.out⟩
set_option maxRecDepth 100000 in
theorem rquoted_any (s : ByteArray) (hs : s.size ≤ 1048576) (w : World) : Calls Tryd.prog 40 #[.string s] w fun e w' => e = .returned (.string (quoT s)) ∧ Kept [] w w' := by
  have h := rtext_any 2 0 s ⟨by show (-9223372036854775808 : Int) ≤ 0; decide, by show (0 : Int) ≤ 9223372036854775807; decide, by show 4 * s.size + 2 ≤ _; omega⟩ w
  rw [textV_two] at h
  have HT := Lib.hid h
  clear h
  go_enter Tryd.func40, Tryd.ntmps40
  go_wp2_with fail
  refine HT.out.mono ?_
  rintro e w1 ⟨rfl, hk⟩
  have HK1 := Lib.hid hk
  clear hk
  go_wp2_with fail
  go_ret
  exact ⟨rfl, HK1.out⟩

theorem ba_ext {a b : ByteArray} (h : a.data.toList = b.data.toList) : a = b := by
  cases a; cases b
  simp at h
  rw [h]
theorem joinT_list (ws : List ByteArray) : (joinT ws).data.toList = Lib.join (ws.map (·.data.toList)) [32] := rfl
theorem joinT_snoc (t : ByteArray) (ts : List ByteArray) (u : ByteArray) : joinT (t :: ts) ++ ({ data := #[32] } ++ u) = joinT (t :: (ts ++ [u])) := by
  apply ba_ext
  rw [joinT_list, List.map_cons, Lib.join_cons, List.map_append, List.map_cons, List.map_nil]
  rw [Joins.data_append, Joins.data_append, joinT_list, List.map_cons, Lib.join_cons]
  unfold Lib.joinTail
  simp
theorem joinT_app (t : ByteArray) (ts : List ByteArray) (u : ByteArray) (us : List ByteArray) : joinT (t :: ts) ++ ({ data := #[32] } ++ joinT (u :: us)) = joinT (t :: (ts ++ u :: us)) := by
  apply ba_ext
  rw [joinT_list, List.map_cons, Lib.join_cons, List.map_append, List.map_cons]
  rw [Joins.data_append, Joins.data_append, joinT_list, List.map_cons, Lib.join_cons, joinT_list, List.map_cons, Lib.join_cons]
  unfold Lib.joinTail
  simp
theorem joinT_one (t : ByteArray) : joinT [t] = t := by
  apply ba_ext
  rw [joinT_list, List.map_cons, List.map_nil, Lib.join_one]
def intsT (l : List Int) : ByteArray := joinT (listW l)
theorem intsT_size {l : List Int} (hl : l.length ≤ 1048576) (hi : ∀ n ∈ l, I64 n) : (intsT l).size ≤ 320000000 := by
  have h := joinT_size (listW l) 300 (fun u hu => by
    unfold listW at hu
    rcases List.mem_cons.1 hu with rfl | hu
    · exact num_size ⟨by omega, by omega⟩
    · obtain ⟨n, hm, rfl⟩ := List.mem_map.1 hu; exact num_size (hi n hm))
  rw [listW_len] at h
  unfold intsT
  omega
set_option maxRecDepth 100000 in
set_option maxHeartbeats 2000000 in
theorem rints_any (v : Value) (l : List Int) (w : World) (hx : RdI w .i64 v l) (hl : l.length ≤ 1048576) (hi : ∀ n ∈ l, I64 n) (ht : TabVar w) : Calls Tryd.prog 26 #[v] w fun e w' => e = .returned (.string (intsT l)) ∧ Kept [] w w' := by
  have HX := Lib.hid hx
  obtain ⟨A, c, rfl, hm, _⟩ := hx
  have HNU : Hid (∀ n W, I64 n → Kept [] w W → Calls Tryd.prog 25 #[.int .i64 n] W fun e w' => e = .returned (.string (numT n)) ∧ Kept [] W w') := fun n W hn hk => ritoa_any n hn W (ht.keep hk)
  have HI := Lib.hid hi
  obtain ⟨n, hn⟩ : ∃ n, l.length = n := ⟨_, rfl⟩
  rw [hn] at hl HX hm ⊢
  have HN := Lib.hid hn
  have HF : Hid (intsT l = joinT (numT n :: l.map numT)) := by show _ = _; unfold intsT listW; rw [hn]
  have HNI : Hid (I64 (n : Int)) := ⟨by omega, by omega⟩
  rw [HF.out]
  clear ht hi hn
  go_enter Tryd.func26, Tryd.ntmps26
  go_wp2_with fail
  refine (HNU.out n _ HNI.out (Kept.refl _ _)).mono ?_
  rintro e w1 ⟨rfl, hk1⟩
  have HK1 := Lib.hid hk1
  clear hk1
  go_wp2_with fail
  go_loopw [3, 4] (fun oo ii wr => ∃ (k : Nat), k ≤ n ∧ ii = .int .i64 k ∧ oo = .string (joinT (numT n :: (l.take k).map numT)) ∧ Kept [] w wr) (fun _ ii _ => n - (intOf ii).toNat)
  case atStart => exact ⟨0, by omega, rfl, by rw [List.take_zero, List.map_nil, joinT_one], HK1.out⟩
  case round =>
    obtain ⟨k, hk, rfl, rfl, hK⟩ := hrel
    have HK := Lib.hid hK
    obtain ⟨O, hO⟩ : ∃ O, joinT (numT n :: (l.take k).map numT) = O := ⟨_, rfl⟩
    have HO := Lib.hid hO
    have hos : O.size ≤ 320000000 := by
      have h := joinT_size (numT n :: (l.take k).map numT) 300 (fun u hu => by
        rcases List.mem_cons.1 hu with rfl | hu
        · exact num_size HNI.out
        · obtain ⟨z, hz, rfl⟩ := List.mem_map.1 hu; exact num_size (HI.out z (List.mem_of_mem_take hz)))
      rw [hO, List.length_cons, List.length_map, List.length_take, HN.out] at h
      omega
    rw [hO]
    clear hO
    by_cases hlt : k < n
    · obtain ⟨x, hxg⟩ : ∃ x, l[k]? = some x := ⟨_, List.getElem?_eq_getElem (by rw [HN.out]; exact hlt)⟩
      have hxi : I64 x := HI.out x (List.mem_of_getElem? hxg)
      have HXI := Lib.hid hxi
      have hxs := num_size hxi
      obtain ⟨A', c', he, _, hE⟩ := HX.out.keep hK
      obtain ⟨b, off, rfl, hc⟩ := hE (by rintro rfl; simp at hxg)
      injection he with he1 he2 he3
      subst he1 he3
      have hcx := hc k x hxg
      have htk : (l.take (k + 1)).map numT = (l.take k).map numT ++ [numT x] := by
        obtain ⟨g1, g2⟩ := List.getElem?_eq_some_iff.1 hxg
        rw [List.take_succ_eq_append_getElem g1, g2, List.map_append]
        rfl
      have HTK := Lib.hid htk
      clear hxi hE hc hxg htk hK he2
      go_wp2_with fail
      refine (HNU.out x _ HXI.out HK.out).mono ?_
      rintro e w2 ⟨rfl, hk2⟩
      have HK2 := Lib.hid (HK.out.trans hk2)
      clear hk2
      go_wp2_with fail
      go_roundw
      case rel => exact ⟨k + 1, by omega, by go_num, by rw [HTK.out, ← joinT_snoc, HO.out], HK2.out⟩
      case measure => simp [intOf]; omega
    · have hin : k = n := by omega
      have HE : Hid (O = joinT (numT n :: l.map numT)) := by show _ = _; rw [← HO.out, hin, List.take_of_length_le (by rw [HN.out]; exact Nat.le_refl _)]
      clear hK
      go_wp2_with fail
      go_ret
      exact ⟨by rw [HE.out] <;> rfl, HK.out⟩
set_option maxRecDepth 100000 in
set_option maxHeartbeats 2000000 in
theorem rword_any (k : Int) (w : World) : Calls Tryd.prog 38 #[.int .i64 k] w fun e w' => e = .returned (.string (wordK k)) ∧ Kept [] w w' := by
  by_cases h1 : k < 1
  · have d1 : decide (k < 1) = true := decide_eq_true h1
    have HE : Hid (wordK k = eB) := by show _ = _; unfold wordK; repeat (first | rfl | (rw [if_neg (by omega)]))
    rw [HE.out]
    clear h1
    go_enter Tryd.func38, Tryd.ntmps38
    go_wp2_with fail
    go_ret
    exact ⟨rfl, (Kept.refl [] w).alloc _⟩
  · by_cases h2 : 13 ≤ k
    · have d1 : decide (k < 1) = false := decide_eq_false h1
      have d2 : decide (13 ≤ k) = true := decide_eq_true h2
      have HE : Hid (wordK k = eB) := by show _ = _; unfold wordK; repeat (first | rfl | (rw [if_neg (by omega)]))
      rw [HE.out]
      clear h1 h2
      go_enter Tryd.func38, Tryd.ntmps38
      go_wp2_with fail
      go_ret
      exact ⟨rfl, (Kept.refl [] w).alloc _⟩
    · rcases kinds (k := k) (by omega) (by omega) with rfl | rfl | rfl | rfl | rfl | rfl | rfl | rfl | rfl | rfl | rfl | rfl
      all_goals clear h1 h2
      all_goals (go_enter Tryd.func38, Tryd.ntmps38)
      all_goals (go_wp2_with fail)
      all_goals go_ret
      all_goals exact ⟨rfl, (Kept.refl [] w).alloc _⟩

end Go.Proofs.YthgenobbpaclhaaDoor

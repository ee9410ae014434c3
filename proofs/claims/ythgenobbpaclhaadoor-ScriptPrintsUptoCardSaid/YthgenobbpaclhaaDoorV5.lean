/- A text in quotes: the program's. -/
import Derived.Test.YthgenobbpaclhaaDoorRows
import Derived.WalkKit
import Derived.WalkSpells
import Derived.WalkLawsBesides
import Derived.Deep.QuietTactic
import Derived.BigQuiet
import Derived.Lib.Hide
import Derived.Lib.ConvBytes
import Derived.Deep.Slices
import Derived.ProofKit
import Derived.SizedLaws
import Derived.Test.YthgenobbpaclhaaDoorShelf
import Derived.Laws.BytesArg
import Derived.Laws.BitsLemmas
import Derived.Deep.RegionHeld3
import Derived.Deep.AppendLies
import Derived.Maps.AppendAt
import Derived.Test.YthgenobbpaclhaaDoorN7
import Derived.Test.YthgenobbpaclhaaDoorV4
set_option linter.unusedVariables false
set_option linter.unusedSimpArgs false
set_option linter.unnecessarySimpa false
namespace Go.Proofs.YthgenobbpaclhaaDoor
open Go.RowKit Go.Shelf
attribute [local go_sem] Oper.semAt_some

def bcap (W : World) (s : ByteArray) : Nat := grownCap W s.size 0 5
def bwor (W : World) (s : ByteArray) : World := Lib.bytesWorld W 5 s
theorem conv_bytes (s : ByteArray) {n : Nat} (hn : s.size = n) (W : World) : (convert 9 44 (.string s)).run Tryd.prog W = .ok (.slice (some ⟨W.heap.size, 0, none⟩) n (bcap W s)) (bwor W s) := by
  rw [← hn]
  exact Lib.run_convert_string_bytes (u := .string) W 9 44 5 s (by kernel_rfl) (by kernel_rfl) (by kernel_rfl)
theorem bwor_size (W : World) (s : ByteArray) : (bwor W s).heap.size = W.heap.size + 1 := Lib.bytesWorld_size W _ s
theorem bwor_kept (W : World) (s : ByteArray) : Kept [] W (bwor W s) := kept_bytes W _ s
theorem bwor_cell (W : World) (s : ByteArray) (k : Nat) (h : k < s.size) : (bwor W s).cell? ⟨W.heap.size, k, none⟩ = some (.int .u8 (byt s k)) := Lib.bytesWorld_cell W 5 s k h
theorem ownsRow_of_kept {S : List Nat} {w w' : World} {base : Nat} {e : TypeId} {size : Nat} {v : Value} {n : Nat} {xs : List Value} (h : w.ownsRow base e size v n xs) (hk : Kept S w w') (hs : ∀ b, v.ownBlock = some b → b ∉ S) : w'.ownsRow base e size v n xs := by
  refine ⟨h.1, ?_⟩
  rcases h.2 with h0 | ⟨g, cap, cur, rfl, h1, h2, h3⟩
  · exact .inl h0
  · exact .inr ⟨g, cap, cur, rfl, h1, by rw [hk.block g (Array.getElem?_eq_some_iff.1 h2).1 (hs g rfl)]; exact h2, h3⟩
theorem strRet {a b : ByteArray} (h : a = b) : Ending.returned (.string a) = .returned (.string b) := by rw [h]

/-- The row of the call's own: its first block, or one of those behind the bytes. -/
def OwnAt (B : Nat) (v : Value) : Prop := ∀ x, v.ownBlock = some x → x = B ∨ B + 2 ≤ x
theorem OwnAt.first (B n c : Nat) : OwnAt B (.slice (some ⟨B, 0, none⟩) n c) := fun x hx => by
  left
  simpa [Value.ownBlock] using hx.symm
theorem OwnAt.next {B : Nat} {v v' : Value} {H : Nat} (h : OwnAt B v) (hat : v'.ownBlock = v.ownBlock ∨ v'.ownBlock = some H) (hH : B + 2 ≤ H) : OwnAt B v' := fun x hx => by
  rcases hat with e | e
  · rw [e] at hx; exact h x hx
  · rw [e] at hx; injection hx with hx; omega

theorem OwnAt.lies {B : Nat} {v : Value} {g H n c : Nat} (h : OwnAt B v) (hat : v.ownBlock = some g ∨ g = H) (hH : B + 2 ≤ H) : OwnAt B (.slice (some ⟨g, 0, none⟩) n c) := fun x hx => by
  have e : g = x := by simpa [Value.ownBlock] using hx
  subst e
  rcases hat with e | e
  · exact h _ e
  · omega

set_option maxRecDepth 100000 in
set_option maxHeartbeats 8000000 in
theorem text_str (k n0 : Int) (s : ByteArray) (hk2 : k = 2) (hs : 4 * s.size + 2 ≤ 140737488355328) (w : World) :
    Calls Tryd.prog 64 #[.agg #[.int .i64 k, .int .i64 n0, .string s]] w fun e w' => e = .returned (.string (strOfNums (quoteI s))) ∧ Kept [] w w' := by
  subst hk2
  obtain ⟨i0, hi0, hz0, hz1, hz2⟩ := info_parts infoU8
  obtain ⟨n, hn⟩ : ∃ n, s.size = n := ⟨_, rfl⟩
  have cv := conv_bytes s hn
  have HN := Lib.hid hn
  obtain ⟨G, hG⟩ : ∃ G, escGo s n 0 = G := ⟨_, rfl⟩
  have HGL : Hid (G.length ≤ 4 * n) := by show _ ≤ _; rw [← hG]; exact escGo_le s n 0
  have HR : Hid (quoteI s = 34 :: (G ++ [34])) := by show _ = _; rw [← hG, ← hn]; rfl
  have HG := Lib.hid hG
  rw [hn] at hs
  obtain ⟨W1, hW1⟩ : ∃ W1, (w.alloc (.cells #[.int .i64 2, .int .i64 n0, .string s] 59)).alloc (.cells #[.int .u8 34] 5) = W1 := ⟨_, rfl⟩
  have HK0 : Hid (Kept [] w W1) := by show Kept [] w W1; rw [← hW1]; exact ((Kept.refl [] w).alloc _).alloc _
  have HS1 : Hid (W1.heap.size = w.heap.size + 1 + 1) := by show _ = _; rw [← hW1]; simp
  have HO0 : Hid (W1.ownsRow (w.heap.size + 1) 5 1 (.slice (some ⟨w.heap.size + 1, 0, none⟩) 1 1) 1 (cB [34])) := by
    have h := own_new (w.alloc (.cells #[.int .i64 2, .int .i64 n0, .string s] 59)) (w.heap.size + 1) 5 (cB [34]) (by simp) (by simp [cB, maxLen]) (by simp [cB])
    show W1.ownsRow _ _ _ _ _ _
    rw [← hW1]
    simpa [cB] using h
  have HB : Hid (∀ j, j < n → (bwor W1 s).cell? ⟨W1.heap.size, j, none⟩ = some (.int .u8 (byt s j))) := fun j hj => bwor_cell W1 s j (by rw [HN.out]; exact hj)
  have HKW := Lib.hid (bwor_kept W1 s)
  have HSW := Lib.hid (bwor_size W1 s)
  have HCV : Hid ((convert 9 44 (.string s)).run Tryd.prog W1 = .ok (.slice (some ⟨w.heap.size + 1 + 1, 0, none⟩) n (bcap W1 s)) (bwor W1 s)) := by
    have h := cv W1
    rw [HS1.out] at h
    exact h
  have cw := HCV.out
  rw [← hW1] at cw
  have HW1 := Lib.hid hW1
  clear hn hG hW1 cv
  go_enter Tryd.func64, Tryd.ntmps64
  go_wp2_with fail
  go_loopw [3, 20] (fun o ii wr => ∃ (j : Nat) (L : List Int), j ≤ n ∧ ii = .int .i64 j ∧ L ++ escGo s (n - j) j = 34 :: G ∧ wr.ownsRow (w.heap.size + 1) 5 1 o L.length (cB L) ∧ OwnAt (w.heap.size + 1) o ∧ Kept [w.heap.size + 1] (bwor W1 s) wr) (fun _ ii _ => n - (intOf ii).toNat)
  case atStart =>
    refine ⟨0, [34], by omega, rfl, by rw [Nat.sub_zero, HG.out]; rfl, ?_, OwnAt.first _ _ _, ?_⟩
    · rw [HW1.out]
      exact ownsRow_of_kept HO0.out HKW.out (by simp)
    · rw [HW1.out]; exact Kept.refl _ _
  case round =>
    obtain ⟨j, L, hj, rfl, hg, hown, hat, hK⟩ := hrel
    have HGO := Lib.hid hg
    obtain ⟨AA, cc, rfl⟩ := own_len hown
    have HOWN := Lib.hid hown
    have HAT := Lib.hid hat
    have HK := Lib.hid hK
    have hsz := hK.size
    rw [HSW.out, HS1.out] at hsz
    by_cases hlt : j < n
    · have hcell : wr.cell? ⟨w.heap.size + 1 + 1, j, none⟩ = some (.int .u8 (byt s j)) := by
        have h := hK.cell (by simp [HS1.out]) (HB.out j hlt)
        rw [HS1.out] at h
        exact h
      have HD := Lib.hid (escGo_at s n j hlt)
      have hcb := byt_bd s j
      obtain ⟨c, hc⟩ : ∃ c, byt s j = c := ⟨_, rfl⟩
      rw [hc] at hcell hcb HD
      have hll : L.length + (escI c).length ≤ 4 * n + 1 := by
        have h1 := congrArg List.length (HGO.out.symm)
        rw [HD.out, List.length_append, List.length_append, List.length_cons] at h1
        have := HGL.out
        omega
      have HLL := Lib.hid hll
      obtain ⟨ML, hML⟩ : ∃ ML, L.length = ML := ⟨_, rfl⟩
      rw [hML] at HOWN HAT hll
      rw [hML]
      have HML := Lib.hid hML
      clear hg hown hat hK hc hML
      by_cases h1 : c = 34 ∨ c = 92
      · have HE : Hid (escI c = [92, c]) := by show _ = _; unfold escI; rw [if_pos h1]
        have hl2 : ML + 2 ≤ 4 * n + 1 := by rw [HE.out] at hll; simpa using hll
        have HC1 : Hid (c = 34 ∨ c = 92) := h1
        have HARM : Hid (∀ (x : World), wr = x → True) := fun _ _ => trivial
        clear hll
        by_cases h34 : c = 34
        · have b1 : (c == 34) = true := by rw [h34]; rfl
          clear h1 h34
          go_wp2_with (at_builtin; refine wpList_append_own_at _ rfl _ _ 44 rfl (w.heap.size + 1) 5 i0 (.int .u8 0) 1 1 Tryd.underlying44 hi0 hz0 hz1 hz2 rfl (by decide) _ ML (cB L) rfl (World.ownsRow.alloc HOWN.out _) ⟨wr.heap.size, 0, none⟩ 2 2 [.int .u8 92, .int .u8 c] rfl rfl (cell_two_new _ _ _ _) (by simp [Value.oneCell']) (by unfold maxLen; omega) (by omega) (by simp; omega) ?_)
          intro v' w5 hown5 hgrow5 _ hat5
          have HK5 : Hid (Kept [w.heap.size + 1] (bwor W1 s) w5) := (HK.out.alloc _).grown hgrow5 (fun x hx => by have := HAT.out x hx; rw [HSW.out, HS1.out]; simp; omega)
          have HOWN5 := Lib.hid hown5
          have HAT5 : Hid (OwnAt (w.heap.size + 1) v') := HAT.out.next hat5 (by simp; omega)
          clear hown5 hgrow5 hat5
          go_wp2_with fail
          go_roundw
          case rel =>
            refine ⟨j + 1, L ++ [92, c], by omega, by go_num, ?_, ?_, HAT5.out, HK5.out⟩
            · rw [← HGO.out, HD.out, HE.out]; simp
            · rw [cB_app, List.length_append, HML.out]; exact HOWN5.out
          case measure => simp [intOf]; omega
        · have b1 : (c == 34) = false := by rw [beq_eq_false_iff_ne]; exact h34
          have b2 : (c == 92) = true := by rw [beq_iff_eq]; omega
          clear h1 h34
          go_wp2_with (at_builtin; refine wpList_append_own_at _ rfl _ _ 44 rfl (w.heap.size + 1) 5 i0 (.int .u8 0) 1 1 Tryd.underlying44 hi0 hz0 hz1 hz2 rfl (by decide) _ ML (cB L) rfl (World.ownsRow.alloc HOWN.out _) ⟨wr.heap.size, 0, none⟩ 2 2 [.int .u8 92, .int .u8 c] rfl rfl (cell_two_new _ _ _ _) (by simp [Value.oneCell']) (by unfold maxLen; omega) (by omega) (by simp; omega) ?_)
          intro v' w5 hown5 hgrow5 _ hat5
          have HK5 : Hid (Kept [w.heap.size + 1] (bwor W1 s) w5) := (HK.out.alloc _).grown hgrow5 (fun x hx => by have := HAT.out x hx; rw [HSW.out, HS1.out]; simp; omega)
          have HOWN5 := Lib.hid hown5
          have HAT5 : Hid (OwnAt (w.heap.size + 1) v') := HAT.out.next hat5 (by simp; omega)
          clear hown5 hgrow5 hat5
          go_wp2_with fail
          go_roundw
          case rel =>
            refine ⟨j + 1, L ++ [92, c], by omega, by go_num, ?_, ?_, HAT5.out, HK5.out⟩
            · rw [← HGO.out, HD.out, HE.out]; simp
            · rw [cB_app, List.length_append, HML.out]; exact HOWN5.out
          case measure => simp [intOf]; omega
      · have b1 : (c == 34) = false := by rw [beq_eq_false_iff_ne]; omega
        have b2 : (c == 92) = false := by rw [beq_eq_false_iff_ne]; omega
        by_cases h2 : c < 32 ∨ 126 < c
        · have HE : Hid (escI c = [92, 120, hexI (c / 16), hexI (c % 16)]) := by show _ = _; unfold escI; rw [if_neg h1, if_pos h2]
          have hl2 : ML + 4 ≤ 4 * n + 1 := by rw [HE.out] at hll; simpa using hll
          have hx1 : ∀ W : World, (Instr.index 9 (.string { data := #[48, 49, 50, 51, 52, 53, 54, 55, 56, 57, 97, 98, 99, 100, 101, 102] }) (.int .u8 (c / 16))).run Tryd.prog W = .ok (.int .u8 (hexI (c / 16))) W := fun W => hex_at (c / 16) (by omega) (by omega) W
          have hx2 : ∀ W : World, (Instr.index 9 (.string { data := #[48, 49, 50, 51, 52, 53, 54, 55, 56, 57, 97, 98, 99, 100, 101, 102] }) (.int .u8 (c % 16))).run Tryd.prog W = .ok (.int .u8 (hexI (c % 16))) W := fun W => hex_at (c % 16) (by omega) (by omega) W
          have ea : Go.bits .and .u8 c 15 = c % 16 := u8_and15 c hcb.1 hcb.2
          clear hll h1
          by_cases h3 : c < 32
          · have d1 : decide (c < 32) = true := decide_eq_true h3
            clear h2 h3
            go_wp2_with fail
            go_region_held3 (fun _ => True) (trivial) ((refine step_append_lies _ (by rfl) _ _ 44 (by rfl) (w.heap.size + 1) 5 i0 (.int .u8 0) 1 1 Tryd.underlying44 hi0 hz0 hz1 hz2 (by rfl) (by decide) (.slice AA ML cc) ML (cB L) (by rfl) (ownsRow_of_kept HOWN.out (by first | exact (Kept.refl [] wr).drew.alloc _ | exact ((Kept.refl [] wr).alloc _).drew | exact ((Kept.refl [] wr).drewN _).alloc _ | exact (Kept.refl [] wr).alloc _) (by simp)) ⟨wr.heap.size, 0, none⟩ 4 4 [.int .u8 92, .int .u8 120, .int .u8 (hexI (c / 16)), .int .u8 (hexI (c % 16))] (by rfl) (by rfl) (cell_four_new _ _ _ _ _ _) (by simp [Value.oneCell']) (by decide) (by unfold maxLen; omega) (by omega) (by simp; omega) (wr.heap.size + 1) (by simp) ?_; intro g cap w5 hown5 hgrow5 hat5 hlt5))
            all_goals
              have HK5 : Hid (Kept [w.heap.size + 1] (bwor W1 s) w5) := Kept.grown (by first | exact HK.out.drew.alloc _ | exact (HK.out.alloc _).drew | exact (HK.out.drewN _).alloc _ | exact HK.out.alloc _) hgrow5 (fun x hx => by have := HAT.out x hx; rw [HSW.out, HS1.out]; simp; omega)
              have HOWN5 := Lib.hid hown5
              have HAT5 := Lib.hid (HAT.out.lies (n := ML + 4) (c := cap) hat5 (by omega))
              clear hown5 hgrow5 hat5 hlt5 hx1 hx2 ea
              go_wp2_with fail
              go_roundw
              case rel =>
                refine ⟨j + 1, L ++ [92, 120, hexI (c / 16), hexI (c % 16)], by omega, by go_num, ?_, ?_, ?_, HK5.out⟩
                · rw [← HGO.out, HD.out, HE.out]; simp
                · rw [cB_app, List.length_append, HML.out]; exact HOWN5.out
                · exact HAT5.out
              case measure => simp [intOf]; omega
          · have d1 : decide (c < 32) = false := decide_eq_false h3
            have d2 : decide (126 < c) = true := decide_eq_true (by omega)
            clear h2 h3
            go_wp2_with fail
            go_region_held3 (fun _ => True) (trivial) ((refine step_append_lies _ (by rfl) _ _ 44 (by rfl) (w.heap.size + 1) 5 i0 (.int .u8 0) 1 1 Tryd.underlying44 hi0 hz0 hz1 hz2 (by rfl) (by decide) (.slice AA ML cc) ML (cB L) (by rfl) (ownsRow_of_kept HOWN.out (by first | exact (Kept.refl [] wr).drew.alloc _ | exact ((Kept.refl [] wr).alloc _).drew | exact ((Kept.refl [] wr).drewN _).alloc _ | exact (Kept.refl [] wr).alloc _) (by simp)) ⟨wr.heap.size, 0, none⟩ 4 4 [.int .u8 92, .int .u8 120, .int .u8 (hexI (c / 16)), .int .u8 (hexI (c % 16))] (by rfl) (by rfl) (cell_four_new _ _ _ _ _ _) (by simp [Value.oneCell']) (by decide) (by unfold maxLen; omega) (by omega) (by simp; omega) (wr.heap.size + 1) (by simp) ?_; intro g cap w5 hown5 hgrow5 hat5 hlt5))
            all_goals
              have HK5 : Hid (Kept [w.heap.size + 1] (bwor W1 s) w5) := Kept.grown (by first | exact HK.out.drew.alloc _ | exact (HK.out.alloc _).drew | exact (HK.out.drewN _).alloc _ | exact HK.out.alloc _) hgrow5 (fun x hx => by have := HAT.out x hx; rw [HSW.out, HS1.out]; simp; omega)
              have HOWN5 := Lib.hid hown5
              have HAT5 := Lib.hid (HAT.out.lies (n := ML + 4) (c := cap) hat5 (by omega))
              clear hown5 hgrow5 hat5 hlt5 hx1 hx2 ea
              go_wp2_with fail
              go_roundw
              case rel =>
                refine ⟨j + 1, L ++ [92, 120, hexI (c / 16), hexI (c % 16)], by omega, by go_num, ?_, ?_, ?_, HK5.out⟩
                · rw [← HGO.out, HD.out, HE.out]; simp
                · rw [cB_app, List.length_append, HML.out]; exact HOWN5.out
                · exact HAT5.out
              case measure => simp [intOf]; omega
        · have d1 : decide (c < 32) = false := decide_eq_false (by omega)
          have d2 : decide (126 < c) = false := decide_eq_false (by omega)
          have HE : Hid (escI c = [c]) := by show _ = _; unfold escI; rw [if_neg h1, if_neg h2]
          have hl2 : ML + 1 ≤ 4 * n + 1 := by rw [HE.out] at hll; simpa using hll
          clear hll h1 h2
          go_wp2_with (at_builtin; refine wpList_append_own_at _ rfl _ _ 44 rfl (w.heap.size + 1) 5 i0 (.int .u8 0) 1 1 Tryd.underlying44 hi0 hz0 hz1 hz2 rfl (by decide) _ ML (cB L) rfl (World.ownsRow.alloc HOWN.out _) ⟨wr.heap.size, 0, none⟩ 1 1 [.int .u8 c] rfl rfl (cell_one_new _ _ _) (by simp [Value.oneCell']) (by unfold maxLen; omega) (by omega) (by simp; omega) ?_)
          intro v' w5 hown5 hgrow5 _ hat5
          have HK5 : Hid (Kept [w.heap.size + 1] (bwor W1 s) w5) := (HK.out.alloc _).grown hgrow5 (fun x hx => by have := HAT.out x hx; rw [HSW.out, HS1.out]; simp; omega)
          have HOWN5 := Lib.hid hown5
          have HAT5 : Hid (OwnAt (w.heap.size + 1) v') := HAT.out.next hat5 (by simp; omega)
          clear hown5 hgrow5 hat5
          go_wp2_with fail
          go_roundw
          case rel =>
            refine ⟨j + 1, L ++ [c], by omega, by go_num, ?_, ?_, HAT5.out, HK5.out⟩
            · rw [← HGO.out, HD.out, HE.out]; simp
            · rw [cB_app, List.length_append, HML.out]; exact HOWN5.out
          case measure => simp [intOf]; omega
    · have HL : Hid (L = 34 :: G) := by
        show _ = _
        have h := HGO.out
        rw [show n - j = 0 by omega] at h
        simpa [escGo] using h
      have hl2 : L.length + 1 ≤ 4 * n + 2 := by have := HGL.out; rw [HL.out, List.length_cons]; omega
      obtain ⟨ML, hML⟩ : ∃ ML, L.length = ML := ⟨_, rfl⟩
      rw [hML] at HOWN HAT hl2
      rw [hML]
      have HML := Lib.hid hML
      clear hg hown hat hK hML
      go_wp2_with (at_builtin; refine wpList_append_own_at _ rfl _ _ 44 rfl (w.heap.size + 1) 5 i0 (.int .u8 0) 1 1 Tryd.underlying44 hi0 hz0 hz1 hz2 rfl (by decide) _ ML (cB L) rfl (World.ownsRow.alloc HOWN.out _) ⟨wr.heap.size, 0, none⟩ 1 1 [.int .u8 34] rfl rfl (cell_one_new _ _ _) (by simp [Value.oneCell']) (by unfold maxLen; omega) (by omega) (by simp; omega) ?_)
      intro v' w5 hown5 hgrow5 _ hat5
      have HK5 : Hid (Kept [w.heap.size + 1] (bwor W1 s) w5) := (HK.out.alloc _).grown hgrow5 (fun x hx => by have := HAT.out x hx; rw [HSW.out, HS1.out]; simp; omega)
      have hown6 : w5.ownsRow (w.heap.size + 1) 5 1 v' (L ++ [34]).length (cB (L ++ [34])) := by
        rw [cB_app, List.length_append, HML.out]; exact hown5
      have hcs := own_str hown6
      clear hown5 hgrow5 hat5 hown6
      go_wp2_with fail
      go_ret
      refine ⟨strRet ?_, ?_⟩
      · rw [HR.out, HL.out]; rfl
      · exact Kept.after (HK0.out.trans HKW.out) HK5.out (by simp)

end Go.Proofs.YthgenobbpaclhaaDoor

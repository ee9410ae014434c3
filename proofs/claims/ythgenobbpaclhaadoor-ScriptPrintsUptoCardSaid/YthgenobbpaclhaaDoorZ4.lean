/- Scripts, the program's: attributes' words. -/
import Derived.Test.YthgenobbpaclhaaDoorZ3
import Derived.Test.YthgenobbpaclhaaDoorX8
import Derived.Deep.AppendLies
set_option linter.unusedVariables false
set_option linter.unusedSimpArgs false
set_option linter.unnecessarySimpa false
namespace Go.Proofs.YthgenobbpaclhaaDoor
open Go.RowKit Go.Shelf
attribute [local go_sem] Oper.semAt_some

/-- An attribute with room for its words. -/
def AttrSm (a : AttrD) : Prop := a.1.size ≤ 1048576 ∧ a.2.2.2.size ≤ 1048576 ∧ I64 a.2.2.1
theorem AttrSm.fits {k n : Int} {nm s : ByteArray} (h : AttrSm (nm, k, n, s)) : Fits (k, n, s) := by
  obtain ⟨h1, h2, h3, h4⟩ := h
  exact ⟨h3, h4, by show 4 * s.size + 2 ≤ _; dsimp only at h2; omega⟩
def AttrsWPost (w : World) (l : List AttrD) (e : Ending) (w' : World) : Prop := ∃ v, e = .returned (.tuple #[v, .bool (attrsOk l)]) ∧ (attrsOk l = true → OwnS w' w.heap.size v (attrsW l)) ∧ Kept [] w w'
theorem AttrsWPost.no {w w' : World} {l : List AttrD} {k : Nat} {a : AttrD} (hg : l[k]? = some a) (h : attrOk a = false) (hk : Kept [] w w') : AttrsWPost w l (.returned (.tuple #[.slice none 0 0, .bool false])) w' := by
  have e : attrsOk l = false := by
    unfold attrsOk
    rw [List.all_eq_false]
    exact ⟨a, List.mem_of_getElem? hg, by rw [h]; decide⟩
  exact ⟨_, by rw [e], (fun h => by rw [e] at h; cases h), hk⟩
theorem attrOk_parts {k n : Int} {nm s : ByteArray} : attrOk (nm, k, n, s) = (decide (chkV (k, n, s) = 0) && decide (nm.size ≤ 64)) := by
  unfold attrOk chkV
  cases okV (k, n, s) <;> simp
def nW (n : Nat) (l : List AttrD) : List ByteArray := numT n :: l.flatMap attrW
theorem nW_len (n : Nat) (l : List AttrD) : (nW n l).length = 2 * l.length + 1 := by
  unfold nW
  rw [List.length_cons]
  congr 1
  induction l with
  | nil => rfl
  | cons a l ih => rw [List.flatMap_cons, List.length_append, ih]; simp [attrW]; omega

theorem F4.cell {w w' : World} {row : Option Nat} {B : Nat} {x0 x1 x2 x3 : Value} (hg : w.grownBy w' row) (h : w.cell? ⟨B, 0, none⟩ = some x0 ∧ w.cell? ⟨B, 1, none⟩ = some x1 ∧ w.cell? ⟨B, 2, none⟩ = some x2 ∧ w.cell? ⟨B, 3, none⟩ = some x3) (hn : some B ≠ row) :
    w'.cell? ⟨B, 0, none⟩ = some x0 ∧ w'.cell? ⟨B, 1, none⟩ = some x1 ∧ w'.cell? ⟨B, 2, none⟩ = some x2 ∧ w'.cell? ⟨B, 3, none⟩ = some x3 := ⟨hg.cell h.1 hn, hg.cell h.2.1 hn, hg.cell h.2.2.1 hn, hg.cell h.2.2.2 hn⟩
set_option maxRecDepth 100000 in
set_option maxHeartbeats 4000000 in
theorem attrs_any (v : Value) (l : List AttrD) (w : World) (hx : Rds attrR w v l) (hl : l.length ≤ 1048576) (hi : ∀ a ∈ l, AttrSm a) (ht : TabVar w) : Calls Tryd.prog 47 #[v] w (AttrsWPost w l) := by
  obtain ⟨i0, hi0, hz0, hz1, hz2⟩ := info_parts infoStr5
  have HX := Lib.hid hx
  obtain ⟨A, c, rfl, hm⟩ := hx.form
  have HNU : Hid (∀ n W, I64 n → Kept [] w W → Calls Tryd.prog 22 #[.int .i64 n] W fun e w' => e = .returned (.string (numT n)) ∧ Kept [] W w') := fun n W hn hk => num_any n hn W (ht.keep hk)
  have HTX : Hid (∀ s W, s.size ≤ 1048576 → Kept [] w W → Calls Tryd.prog 45 #[.string s] W fun e w' => e = .returned (.string (quoT s)) ∧ Kept [] W w') := fun s W hn hk => stext_any s hn W (ht.keep hk)
  have HVT : Hid (∀ k n s W, Fits (k, n, s) → Kept [] w W → Calls Tryd.prog 64 #[.agg #[.int .i64 k, .int .i64 n, .string s]] W fun e w' => e = .returned (.string (textV (k, n, s))) ∧ Kept [] W w') := fun k n s W hf hk => text_any k n s hf W (ht.keep hk)
  have HI := Lib.hid hi
  obtain ⟨n, hn⟩ : ∃ n, l.length = n := ⟨_, rfl⟩
  rw [hn] at hl HX hm ⊢
  have HN := Lib.hid hn
  clear ht hi hn hx
  go_enter Tryd.func47, Tryd.ntmps47
  go_wp2_with fail
  refine (HNU.out n _ ⟨by omega, by omega⟩ (Kept.refl _ _)).mono ?_
  rintro e w1 ⟨rfl, hk1⟩
  have HK1 := Lib.hid (hk1.alloc (.cells #[.string (numT n)] 9))
  have HO1 := Lib.hid (OwnS.lit w1 w.heap.size [numT n] hk1.size (by simp) (by simp [maxLen]))
  clear hk1
  go_wp2_with fail
  go_loopw [4, 13] (fun vv ii wr => ∃ (k : Nat), k ≤ n ∧ ii = .int .i64 k ∧ OwnS wr w.heap.size vv (nW n (l.take k)) ∧ (∀ a ∈ l.take k, attrOk a = true) ∧ Kept [] w wr) (fun _ ii _ => n - (intOf ii).toNat)
  case atStart => exact ⟨0, by omega, rfl, HO1.out, by simp, HK1.out⟩
  case round =>
    obtain ⟨k, hk, rfl, hown, hok, hK⟩ := hrel
    have HK := Lib.hid hK
    have HOK := Lib.hid hok
    obtain ⟨AA, cc, rfl⟩ := hown.len
    have hlen : (nW n (l.take k)).length = 2 * k + 1 := by rw [nW_len, List.length_take, HN.out]; omega
    rw [hlen]
    have HOWN : Hid (wr.ownsRow w.heap.size 9 1 (.slice AA (2 * k + 1) cc) (2 * k + 1) (cW (nW n (l.take k)))) := by
      have := hown
      unfold OwnS at this
      rw [hlen] at this
      exact this
    by_cases hlt : k < n
    · obtain ⟨b, off, c', x, cs, he, hxi, hE, hc⟩ := (Rds.keep HX.out hK).at (k := k) (by rw [HN.out]; exact hlt)
      injection he with he1 he2 he3
      subst he1 he3
      obtain ⟨rfl, hs1, hs2⟩ := attrR_cells hE
      have hsm := HI.out x (List.mem_of_getElem? hxi)
      have HG := Lib.hid hxi
      have htk : l.take (k + 1) = l.take k ++ [x] := by
        obtain ⟨g1, g2⟩ := List.getElem?_eq_some_iff.1 hxi
        rw [List.take_succ_eq_append_getElem g1, g2]
      have HTK := Lib.hid htk
      obtain ⟨nm, k0, nn, s⟩ := x
      have hfit := hsm.fits
      have HFIT := Lib.hid hfit
      have e0 := hc 0 (by decide)
      have e1 := hc 1 (by decide)
      have e2 := hc 2 (by decide)
      have e3 := hc 3 (by decide)
      simp [attrC, show attrR.sz = 4 from rfl] at e0 e1 e2 e3
      have HNM : Hid (nm.size ≤ 1048576) := hsm.1
      have hnm := len_at nm rfl
      have HCK : Hid (∀ W, Calls Tryd.prog 65 #[.agg #[.int .i64 k0, .int .i64 nn, .string s]] W fun e w' => e = .returned (.int .i64 (chkV (k0, nn, s))) ∧ Kept [] W w') := fun W => check_any k0 nn s hs2 W
      have HKB := Lib.hid (HK.out.alloc (.cells #[.string nm, .int .i64 k0, .int .i64 nn, .string s] 61))
      have HBB := Lib.hid (Blk.new wr #[.string nm, .int .i64 k0, .int .i64 nn, .string s] 61)
      have HOB := Lib.hid (World.ownsRow.alloc HOWN.out (.cells #[.string nm, .int .i64 k0, .int .i64 nn, .string s] 61))
      have HP := Lib.hid (attrOk_parts (k := k0) (n := nn) (nm := nm) (s := s))
      clear hown hlen hE hc hxi htk hK he2 hsm hfit hs1 hs2 hok
      go_wp2_with fail
      refine (HCK.out _).mono ?_
      rintro e w2 ⟨rfl, hk2⟩
      have HK2 := Lib.hid (HKB.out.trans hk2)
      have HB2 := Lib.hid (HBB.out.kept hk2 (by simp))
      have HO2 := Lib.hid (own_keep HOB.out hk2)
      clear hk2 e0 e1 e2 e3
      have a0 := HB2.out.cell 0
      have a1 := HB2.out.cell 1
      have a2 := HB2.out.cell 2
      have a3 := HB2.out.cell 3
      simp at a0 a1 a2 a3
      obtain ⟨q, hq⟩ : ∃ q, chkV (k0, nn, s) = q := ⟨_, rfl⟩
      have HQ := Lib.hid hq
      rw [hq]
      clear hq
      by_cases hq0 : q = 0
      · have b0 : (q != 0) = false := by simpa using hq0
        by_cases hlong : 64 < nm.size
        · have d0 : decide ((64 : Int) < (nm.size : Int)) = true := decide_eq_true (by omega)
          have HBAD : Hid (attrOk (nm, k0, nn, s) = false) := by show _ = _; rw [HP.out, HQ.out]; simp; omega
          clear hq0 hlong
          go_wp2_with fail
          go_ret2
          exact AttrsWPost.no HG.out HBAD.out HK2.out
        · have d0 : decide ((64 : Int) < (nm.size : Int)) = false := decide_eq_false (by omega)
          have HGOOD : Hid (attrOk (nm, k0, nn, s) = true) := by show _ = _; rw [HP.out, HQ.out, hq0]; simp; omega
          clear hq0 hlong
          have hsz2 := HK2.out.size
          have hmx' : Tryd.prog.follows .mixedOrders = true := by kernel_rfl
          have HF : Hid (∀ W', Kept [] w2 W' → W'.cell? ⟨wr.heap.size, 0, none⟩ = some (.string nm) ∧ W'.cell? ⟨wr.heap.size, 1, none⟩ = some (.int .i64 k0) ∧ W'.cell? ⟨wr.heap.size, 2, none⟩ = some (.int .i64 nn) ∧ W'.cell? ⟨wr.heap.size, 3, none⟩ = some (.string s)) := fun W' hk => by
            have h := HB2.out.kept hk (by simp)
            exact ⟨h.cell 0, h.cell 1, h.cell 2, h.cell 3⟩
          have HC2 : Hid (∀ W', Kept [] w2 W' → Kept [] w W') := fun W' hk => HK2.out.trans hk
          go_upto_region 7 with fail
          go_region_held3 (fun w' => w'.cell? ⟨wr.heap.size, 0, none⟩ = some (.string nm) ∧ w'.cell? ⟨wr.heap.size, 1, none⟩ = some (.int .i64 k0) ∧ w'.cell? ⟨wr.heap.size, 2, none⟩ = some (.int .i64 nn) ∧ w'.cell? ⟨wr.heap.size, 3, none⟩ = some (.string s)) (first | exact ⟨a0, a1, a2, a3⟩ | exact HF.out _ (Kept.refl _ _).drew | exact HF.out _ HKa.out | exact HF.out _ HKb.out | exact HF.out _ (HKb.out.alloc _) | exact HF6.out) (first | (go_at_call 45; refine (HTX.out _ _ HNM.out (HC2.out _ (Kept.refl _ _).drew)).mono ?_; rintro e wa ⟨rfl, hka⟩; have HKa : Hid (Kept [] w2 wa) := ((Kept.refl [] w2).drew).trans hka; clear hka) | (go_at_call 64; refine (HVT.out _ _ _ _ HFIT.out (HC2.out _ HKa.out)).mono ?_; rintro e wb ⟨rfl, hkb⟩; have HKb : Hid (Kept [] w2 wb) := HKa.out.trans hkb; clear hkb) | (refine step_append_lies _ (by rfl) _ _ 62 (by rfl) w.heap.size 9 i0 (.string { data := #[] }) 1 16 Tryd.underlying62 hi0 hz0 hz1 hz2 (by rfl) (by decide) (.slice AA (2 * k + 1) cc) (2 * k + 1) _ (by rfl) (World.ownsRow.alloc (own_keep HO2.out HKb.out) _) ⟨_, 0, none⟩ 2 2 [.string (quoT nm), .string (textV (k0, nn, s))] (by rfl) (by rfl) (cell_two_new _ _ _ _) (by simp [Value.oneCell']) (by decide) (by unfold maxLen; omega) (by omega) (by have := HKb.out.size; simp; omega) _ rfl ?_; intro g2 cap2 w6 hown6 hgrow6 hat6 hlt6; have HK6 : Hid (Kept [] w w6) := (Kept.grown ((HC2.out _ HKb.out).alloc _) hgrow6 (fun x hx => .inr (HO2.out.lt _ hx).1)); have HF6 := Lib.hid (F4.cell hgrow6 (HF.out _ (HKb.out.alloc _)) (fun e => absurd (HOWN.out.lt _ e.symm).2 (Nat.lt_irrefl _)))))
          go_wp2_with fail
          go_roundw
          case rel =>
            refine ⟨k + 1, by omega, by go_num, ?_, ?_, HK6.out⟩
            · show World.ownsRow _ _ _ _ _ _ _
              have e : (nW n (l.take (k + 1))).length = 2 * k + 1 + 2 := by rw [nW_len, List.length_take, HN.out]; omega
              have e2 : cW (nW n (l.take (k + 1))) = cW (nW n (l.take k)) ++ [.string (quoT nm), .string (textV (k0, nn, s))] := by
                rw [HTK.out]
                unfold nW cW
                rw [List.flatMap_append, ← List.cons_append, List.map_append]
                rfl
              rw [e, e2]
              exact hown6
            · rw [HTK.out]
              intro y hy
              rcases List.mem_append.1 hy with hy | hy
              · exact HOK.out y hy
              · rw [List.mem_singleton] at hy; subst hy; exact HGOOD.out
          case measure => simp [intOf]; omega
      · have b0 : (q != 0) = true := by simpa using hq0
        have HBAD : Hid (attrOk (nm, k0, nn, s) = false) := by show _ = _; rw [HP.out, HQ.out]; simp [hq0]
        clear hq0
        go_wp2_with fail
        go_ret2
        exact AttrsWPost.no HG.out HBAD.out HK2.out
    · have hin : k = n := by omega
      have hall : attrsOk l = true := by
        unfold attrsOk
        rw [List.all_eq_true]
        have := hok
        rwa [hin, List.take_of_length_le (by rw [HN.out]; exact Nat.le_refl _)] at this
      have HF : Hid (OwnS wr w.heap.size (.slice AA (2 * k + 1) cc) (attrsW l)) := by
        show OwnS _ _ _ _
        have := hown
        rw [hlen, hin, List.take_of_length_le (by rw [HN.out]; exact Nat.le_refl _)] at this
        rw [hin]
        unfold attrsW
        rw [HN.out]
        exact this
      have HALL := Lib.hid hall
      clear hown hlen hK hok hall
      go_wp2_with fail
      go_ret2
      exact ⟨_, by rw [HALL.out] <;> rfl, fun _ => HF.out, HK.out⟩

end Go.Proofs.YthgenobbpaclhaaDoor

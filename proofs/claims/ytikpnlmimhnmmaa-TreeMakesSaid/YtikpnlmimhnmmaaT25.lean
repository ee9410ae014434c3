/- The reference's New. -/
import Derived.Test.YtikpnlmimhnmmaaT24
set_option linter.unusedVariables false
set_option linter.unusedSimpArgs false
set_option linter.unnecessarySimpa false
namespace Go.Proofs.Ytikpnlmimhnmmaa
open Go.RowKit Tr

/-- What ref.New answers: the same error; a tree of its own memory. -/
def RNewPost (w : World) (P : List Int) (e : Ending) (w' : World) : Prop :=
  Kept [] w w' ∧ ((treeErr P ≠ 0 ∧ e = .returned (.tuple #[.pointer none, .int .i64 (treeErr P)])) ∨
    (treeErr P = 0 ∧ ∃ r v, e = .returned (.tuple #[.pointer (some ⟨r, 0, none⟩), .int .i64 0]) ∧ RT w' r v P))

def RNewPost2 (w : World) (P : List Int) (e : Ending) (w' : World) : Prop :=
  Kept [] w w' ∧ ((treeErr P ≠ 0 ∧ e = .returned (.tuple #[.pointer none, .int .i64 (treeErr P)])) ∨
    (treeErr P = 0 ∧ ∃ r v, e = .returned (.tuple #[.pointer (some ⟨r, 0, none⟩), .int .i64 0]) ∧ RT w' r v P ∧ w.heap.size ≤ r ∧ (∀ z, v.ownBlock = some z → w.heap.size ≤ z)))

set_option maxRecDepth 100000 in
set_option maxHeartbeats 4000000 in
theorem rnew_new (v : Value) (P : List Int) (w : World) (hx : RdI w .i64 v P) :
    Calls Try.prog 21 #[v] w (RNewPost2 w P) := by
  have HX0 := Lib.hid hx
  obtain ⟨i0, hi0, hz0, hz1, hz2⟩ := info_parts infoInt
  obtain ⟨A, c, rfl, hmx, hx⟩ := hx
  unfold maxLen at hmx
  by_cases c0 : P.length < 1 ∨ 16 < P.length
  · have e : treeErr P = 1 := by unfold treeErr; rw [if_neg (by omega)]
    have HE := Lib.hid e
    clear e
    rcases c0 with c1 | c1
    · have c1' : (P.length : Int) < 1 := by omega
      go_enter Try.func21, Try.ntmps21
      go_wp2
      go_ret2
      exact ⟨Kept.refl _ _, .inl ⟨by rw [HE.out]; decide, by rw [HE.out]; rfl⟩⟩
    · have c1' : ¬ (P.length : Int) < 1 := by omega
      have c2' : (16 : Int) < P.length := by omega
      go_enter Try.func21, Try.ntmps21
      go_wp2
      go_ret2
      exact ⟨Kept.refl _ _, .inl ⟨by rw [HE.out]; decide, by rw [HE.out]; rfl⟩⟩
  · obtain ⟨b, off, rfl, hc⟩ := hx (by intro e; subst e; simp at c0)
    obtain ⟨n, hn⟩ : ∃ n, n = P.length := ⟨_, rfl⟩
    have hn1 : 1 ≤ n := by omega
    have hn2 : n ≤ 16 := by omega
    rw [← hn] at hmx HX0 ⊢
    have HN := Lib.hid hn
    have HC := Lib.hid hc
    clear hn hc hx c0
    have hb1 : decide ((n : Int) < 1) = false := by simp; omega
    have hb2 : decide ((16 : Int) < (n : Int)) = false := by simp; omega
    have HB : Hid (restOk P = false → treeErr P = 170) := fun h => bad170 (by have := HN.out; omega) (by have := HN.out; omega) h
    go_enter Try.func21, Try.ntmps21
    go_wp2_with fail
    go_loopw [4, 5] (fun r i wr => ∃ (k : Nat), k ≤ n ∧ i = .int .i64 k ∧ r = .int .i64 ((P.take k).count (-1) : Nat) ∧ (P.take k).all (rngB n) = true ∧ w = wr) (fun _ i _ => n - (intOf i).toNat)
    case atStart => exact ⟨0, Nat.zero_le _, rfl, rfl, rfl, rfl⟩
    case round =>
      obtain ⟨k, hk, rfl, rfl, hall, rfl⟩ := hrel
      have HA := Lib.hid hall
      clear hall
      by_cases hlt : k < n
      · have hl : k < P.length := by have := HN.out; omega
        have hck := (HC.out k _ (List.getElem?_eq_getElem hl))
        obtain ⟨x, hxk⟩ : ∃ x, P[k] = x := ⟨_, rfl⟩
        rw [hxk] at hck
        have HX := Lib.hid hxk
        clear hxk
        have hcl : (P.take k).count (-1) ≤ k := Nat.le_trans List.count_le_length (by simp; omega)
        have hbad : Hid (rngB n x = false → restOk P = false) := fun h => by
          unfold restOk
          have : P.all (rngB P.length) = false := by
            rw [List.all_eq_false]
            exact ⟨x, by rw [← HX.out]; exact List.getElem_mem hl, by rw [← HN.out, h]; simp⟩
          rw [this]; simp
        by_cases x3 : x = -1
        · have HCT : Hid ((P.take (k + 1)).count (-1) = (P.take k).count (-1) + 1) := by
            show _ = _
            rw [List.take_succ_eq_append_getElem hl, List.count_append, HX.out, x3]; simp
          have HT : Hid ((P.take (k + 1)).all (rngB n) = true) := by
            show _ = _
            rw [List.take_succ_eq_append_getElem hl, List.all_append, HA.out, HX.out, x3]; unfold rngB; simp; omega
          have hxb : (x == -1) = true := by simp [x3]
          have HX3 := Lib.hid x3
          clear x3
          go_wp2_with fail
          go_roundw
          case rel => exact ⟨k + 1, by omega, by go_num, by rw [HCT.out]; go_num, HT.out, trivial⟩
          case measure => simp [intOf]; omega
        · have hxb : (x == -1) = false := by simp [x3]
          by_cases x1 : x < 0
          · go_wp2_with fail
            go_ret2
            have e := HB.out (hbad.out (by unfold rngB; simp; omega))
            exact ⟨Kept.refl _ _, .inl ⟨by rw [e]; decide, by rw [e]; rfl⟩⟩
          · by_cases x2 : (n : Int) ≤ x
            · go_wp2_with fail
              go_ret2
              have e := HB.out (hbad.out (by unfold rngB; simp; omega))
              exact ⟨Kept.refl _ _, .inl ⟨by rw [e]; decide, by rw [e]; rfl⟩⟩
            · have HT : Hid ((P.take (k + 1)).all (rngB n) = true) := by
                show _ = _
                rw [List.take_succ_eq_append_getElem hl, List.all_append, HA.out, HX.out]; unfold rngB; simp; omega
              have HCT : Hid ((P.take (k + 1)).count (-1) = (P.take k).count (-1)) := by
                show _ = _
                rw [List.take_succ_eq_append_getElem hl, List.count_append, HX.out]
                have : List.count (-1) [x] = 0 := by rw [List.count_eq_zero]; simp; omega
                omega
              go_wp2_with fail
              go_roundw
              case rel => exact ⟨k + 1, by omega, by go_num, by rw [HCT.out], HT.out, trivial⟩
              case measure => simp [intOf]; omega
      · have hkn : k = n := by omega
        subst hkn
        have hlen : P.take k = P := List.take_of_length_le (by have := HN.out; omega)
        have HL := Lib.hid hlen
        clear hlen
        rw [HL.out]
        have HALL : Hid (P.all (rngB P.length) = true) := by have := HA.out; rw [HL.out] at this; rw [← HN.out]; exact this
        have HRN := Lib.hid (rng_of HALL.out)
        by_cases r1 : P.count (-1) = 1
        · have hrb : (((P.count (-1) : Nat) : Int) != 1) = false := by rw [r1]; rfl
          have HR1 := Lib.hid r1
          clear r1
          go_wp2_with fail
          go_loopw [6] (fun i w2 => ∃ j : Nat, j ≤ k ∧ i = .int .i64 j ∧ (∀ q : Nat, q < j → (climbs P P.length q).isSome = true) ∧ Kept [] w w2) (fun i _ => k - (intOf i).toNat)
          case atStart => exact ⟨0, Nat.zero_le _, rfl, fun q hq => absurd hq (by omega), Kept.refl _ _⟩
          case round =>
            obtain ⟨j, hj, rfl, hq, hK⟩ := hrel
            have HQ := Lib.hid hq
            clear hq
            have rx := RdI.keep HX0.out hK
            rw [HN.out] at rx
            by_cases hjt : j < k
            · have hin : inB P.length (j : Int) := by unfold inB; have := HN.out; omega
              have hcp := climbs_plus HRN.out hin
              have HCP := Lib.hid hcp
              have UP := up_any _ P j wr rx (by have := HN.out; omega) HRN.out hin
              rw [← HN.out] at UP
              have HUP := Lib.hid UP
              clear hcp UP rx
              go_wp2_with fail
              refine HUP.out.mono ?_
              rintro e w3 ⟨hk3, ⟨h1, rfl⟩ | ⟨h1, v3, rfl, -⟩⟩
              · have H1 := Lib.hid h1
                clear h1
                go_wp2_with fail
                go_ret2
                have h2 : restOk P = false := by
                  unfold restOk climbOk
                  have : ((List.range P.length).all fun i => (climbs P P.length i).isSome) = false := by
                    rw [List.all_eq_false]
                    refine ⟨j, List.mem_range.2 (by have := HN.out; omega), ?_⟩
                    have := H1.out
                    rw [HCP.out] at this
                    rw [this]; simp
                  rw [this]; simp
                have e := HB.out h2
                exact ⟨hK.trans hk3, .inl ⟨by rw [e]; decide, by rw [e]; rfl⟩⟩
              · have H1 := Lib.hid h1
                clear h1
                go_wp2_with fail
                go_roundw
                case rel => exact ⟨j + 1, by omega, by go_num, fun q hq => by
                  rcases Nat.lt_succ_iff_lt_or_eq.1 hq with h | rfl
                  · exact HQ.out q h
                  · have := H1.out; rw [HCP.out] at this; exact this, hK.trans hk3⟩
                case measure => simp [intOf]; omega
            · have h1 : restOk P = true := by
                unfold restOk climbOk
                rw [HALL.out, HR1.out]
                simp only [beq_self_eq_true, Bool.and_true, Bool.true_and, List.all_eq_true, List.mem_range]
                intro q hq
                exact HQ.out q (by have := HN.out; omega)
              have e := good0 (by have := HN.out; omega) (by have := HN.out; omega) h1
              have HE := Lib.hid e
              clear h1 e
              have hln : (P.map (Value.int .i64)).length = k * 1 := by rw [List.length_map, ← HN.out, Nat.mul_one]
              have hca : ∀ j u, (P.map (Value.int .i64))[j]? = some u → wr.cell? ((⟨b, off, none⟩ : Addr).add j) = some u := by
                intro j u hu
                rw [List.getElem?_map] at hu
                obtain ⟨z, hz, rfl⟩ := Option.map_eq_some_iff.1 hu
                have ha : (⟨b, off, none⟩ : Addr).add j = ⟨b, off + j, none⟩ := by unfold Addr.add; split <;> simp_all
                rw [ha]
                exact hK.cell (by simp) (HC.out j z hz)
              have HLN := Lib.hid hln
              have HCA := Lib.hid hca
              have hsz := hK.size
              clear hln hca rx
              go_wp2_with (at_builtin; refine wpList_append_own _ rfl _ _ 22 rfl w.heap.size 3 i0 (.int .i64 0) 1 8 Try.underlying22 hi0 hz0 hz1 hz2 rfl (by decide) _ 0 [] rfl (World.ownsRow_nil _ _ _ _) ⟨b, off, none⟩ k c (P.map (.int .i64)) rfl HLN.out HCA.out (by intro u hu; obtain ⟨z, _, rfl⟩ := List.mem_map.1 hu; rfl) (by unfold maxLen; omega) (by omega) hsz ?_)
              intro v' w4 hown4 hgrow4 _
              have hown4 : w4.ownsRow w.heap.size 3 1 v' k (P.map (Value.int .i64)) := by simpa using hown4
              have hK4 : Kept [] w w4 := hK.grown hgrow4 (fun x hx => by simp [Value.ownBlock] at hx)
              obtain ⟨g', cap', rfl, hg4, _⟩ := hown4.form (by omega)
              have HOWN4 := Lib.hid hown4
              clear hown4 hgrow4
              go_wp2_with fail
              go_ret2
              refine ⟨hK4.alloc _, .inr ⟨HE.out, w4.heap.size, .slice (some ⟨g', 0, none⟩) k cap', rfl, ⟨?_, ?_⟩, hK4.size, fun z hz => by simp [Value.ownBlock] at hz; omega⟩⟩
              · exact (Blk.new w4 _ _).cell 0
              · exact RdI.keep (RdI.of_own HOWN4.out).1 ((Kept.refl [] w4).alloc _)
        · have hrb : (((P.count (-1) : Nat) : Int) != 1) = true := by simp; omega
          have HR1 := Lib.hid r1
          clear r1
          go_wp2_with fail
          go_ret2
          have h1 : restOk P = false := by
            unfold restOk
            have : (P.count (-1) == 1) = false := by simp; exact HR1.out
            rw [this]; simp
          have e := HB.out h1
          exact ⟨Kept.refl _ _, .inl ⟨by rw [e]; decide, by rw [e]; rfl⟩⟩

theorem rnew_any (v : Value) (P : List Int) (w : World) (hx : RdI w .i64 v P) :
    Calls Try.prog 21 #[v] w (RNewPost w P) :=
  (rnew_new v P w hx).mono fun e w' ⟨h1, h2⟩ => ⟨h1, h2.imp id fun ⟨h3, r, v, h4, h5, _⟩ => ⟨h3, r, v, h4, h5⟩⟩

end Go.Proofs.Ytikpnlmimhnmmaa

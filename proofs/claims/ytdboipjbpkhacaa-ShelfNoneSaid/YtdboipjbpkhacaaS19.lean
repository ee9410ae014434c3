/- does, whatever it does; same. -/
import Derived.Test.YtdboipjbpkhacaaS18
import Derived.Test.YtdboipjbpkhacaaS9
set_option linter.unusedVariables false
set_option linter.unusedSimpArgs false
set_option linter.unnecessarySimpa false
namespace Go.Proofs.Ytdboipjbpkhacaa
open Go.RowKit Go.Shelf

set_option maxRecDepth 100000 in
set_option maxHeartbeats 2000000 in
theorem does_any (F G : List Nat) (sb rb : Nat) (m : Int) (L : List Th) (d x1 x2 : Int) (xt : ByteArray) (at' : Int) (w : World) (hs : Sh w F sb m L) (hr : RSh w G rb m L) (hd : ∀ z ∈ F, z ∉ G) :
    Calls Try.prog 14 #[.pointer (some ⟨sb, 0, none⟩), .pointer (some ⟨rb, 0, none⟩), .agg #[.int .i64 d, .int .i64 x1, .int .i64 x2, .string xt, .int .i64 at']] w (DoesPost w F G sb rb m (doL m L (d, (x1, x2), xt, at'))) := by
  unfold doL
  dsimp only
  by_cases h0 : d = 0
  · rw [if_pos h0]; exact does_put F G sb rb m L d x1 x2 xt at' w hs hr hd h0
  rw [if_neg h0]
  by_cases h1 : d = 1
  · rw [if_pos h1]; exact does_clear F G sb rb m L d x1 x2 xt at' w hs hr hd h1
  rw [if_neg h1]
  by_cases h2 : d = 2
  · rw [if_pos h2]; exact does_drop F G sb rb m L d x1 x2 xt at' w hs hr hd h2
  rw [if_neg h2]
  have b0 : (d == 0) = false := by simpa using h0
  have b1 : (d == 1) = false := by simpa using h1
  have b2 : (d == 2) = false := by simpa using h2
  have hk0 := (Kept.refl [] w).alloc (.cells #[.int .i64 d, .int .i64 x1, .int .i64 x2, .string xt, .int .i64 at'] 31)
  have HD := Lib.hid (show DoesPost w F G sb rb m L (.returned (.bool true)) (w.alloc (.cells #[.int .i64 d, .int .i64 x1, .int .i64 x2, .string xt, .int .i64 at'] 31)) from
    ⟨rfl, hk0.nil, F, G, hs.keep hk0, hr.keep hk0, fun z hz => .inl hz, fun z hz => .inl hz, hd⟩)
  clear hs hr hd hk0 h0 h1 h2
  go_enter Try.func14, Try.ntmps14
  go_wp2_with fail
  go_ret
  exact HD.out

set_option maxRecDepth 100000 in
set_option maxHeartbeats 8000000 in
theorem same_any (F G : List Nat) (sb rb : Nat) (m : Int) (L : List Th) (at' stop : Int) (w : World) (hs : Sh w F sb m L) (hr : RSh w G rb m L) :
    Calls Try.prog 15 #[.pointer (some ⟨sb, 0, none⟩), .pointer (some ⟨rb, 0, none⟩), .int .i64 at', .int .i64 stop] w fun e w' => e = .returned (.bool true) ∧ Kept [] w w' := by
  have O1 := Lib.hid (oldest_any F sb m L w hs)
  have O2 := Lib.hid (fun (W : World) (k : Kept [] w W) => roldest_any G rb m L W (hr.keep k))
  have HS := Lib.hid hs
  have HR := Lib.hid hr
  unfold OldPost at O1 O2
  obtain ⟨ob, hob⟩ : ∃ x, oldB L = x := ⟨_, rfl⟩
  obtain ⟨ot, hot⟩ : ∃ x, decide (0 < L.length) = x := ⟨_, rfl⟩
  rw [hob, hot] at O1 O2
  have hl : L.length ≤ 16384 := hs.2.2.1
  obtain ⟨hm0, hm1, _, lv, hb, ho, _, _⟩ := hr
  have c0 := hb.cell 0
  have c1 := hb.cell 1
  simp at c0 c1
  have hrd := (RdT.of_own ho hl).1
  obtain ⟨AA, cc, rfl⟩ := own_len ho
  obtain ⟨n, hn⟩ : ∃ n, L.length = n := ⟨_, rfl⟩
  have HLEN := Lib.hid (fun (W : World) (k : Kept [] w W) => len_any F sb m L W (hs.keep k))
  rw [hn] at c0 hrd HLEN hl
  have HRD := Lib.hid hrd
  have q1 : ((n : Int) == (n : Int)) = true := by simp
  have q2 : (m == m) = true := by simp
  have q3 : (ob == ob) = true := by simp
  have q4 : (ot == ot) = true := by simp
  clear hs hb ho hob hot hn hrd
  go_enter Try.func15, Try.ntmps15
  go_wp2_with fail
  refine O1.out.mono ?_
  rintro e w1 ⟨rfl, hk1⟩
  go_wp2_with fail
  refine (O2.out _ hk1).mono ?_
  rintro e w2 ⟨rfl, hk2⟩
  have hK2 := hk1.trans hk2
  have r0 := hK2.cell (by simp) c0
  have r1 := hK2.cell (by simp) c1
  have HK2 := Lib.hid hK2
  have c0' := c0
  have c1' := c1
  clear hk1 hk2 hK2 c0 c1
  go_wp2_with fail
  go_region_held3 (fun w' => w'.cell? ⟨rb, 0, none⟩ = some (.slice AA n cc) ∧ w'.cell? ⟨rb, 1, none⟩ = some (.int .i64 m)) (first | exact ⟨r0, r1⟩ | exact hSA | exact hST | exact hSE | exact hSR | exact hSO | exact hSB | exact hSQ | exact hSP) (first
    | (go_at_call 18; refine (HLEN.out _ (by first | exact HK2.out | exact HK2.out.drew | exact HK2.out.drewN _)).mono ?_; rintro e w' ⟨rfl, rfl⟩)
    | (go_at_call 19; refine (most_any F sb m L _ (HS.out.keep (by first | exact HK2.out | exact HK2.out.drew | exact HK2.out.drewN _))).mono ?_; rintro e w' ⟨rfl, rfl⟩)
    | (go_at_call 11; refine (all_any F sb m L _ (HS.out.keep (by first | exact HK2.out | exact HK2.out.drew | exact HK2.out.drewN _))).mono ?_; rintro e wA ⟨vA, rfl, hitA, hkA⟩; have kA := (by first | fail | exact HK2.out.trans hkA | exact HK2.out.drew.trans hkA | exact (HK2.out.drewN _).trans hkA : Kept [] w wA); have hSA := (show wA.cell? ⟨rb, 0, none⟩ = some (.slice AA n cc) ∧ wA.cell? ⟨rb, 1, none⟩ = some (.int .i64 m) from ⟨kA.cell (by simp) c0', kA.cell (by simp) c1'⟩))
    | (go_at_call 12; refine (tells_any vA _ L stop _ hitA (HRD.out.keep kA)).mono ?_; rintro e wT ⟨rfl, hkT⟩; have kT := (by first | exact kA.trans hkT | exact HK2.out.trans hkT | exact HK2.out.drew.trans hkT | exact (HK2.out.drewN _).trans hkT : Kept [] w wT); have hST := (show wT.cell? ⟨rb, 0, none⟩ = some (.slice AA n cc) ∧ wT.cell? ⟨rb, 1, none⟩ = some (.int .i64 m) from ⟨kT.cell (by simp) c0', kT.cell (by simp) c1'⟩))
    | (go_at_call 21; refine (ending_any _ L at' _ ((HS.out.keep (by first | exact kR | exact kT)).src)).mono ?_; rintro e wE ⟨vE, rfl, hitE, hkE⟩; have kE := (by first | exact kR.trans hkE | exact kT.trans hkE | exact HK2.out.trans hkE | exact HK2.out.drew.trans hkE | exact (HK2.out.drewN _).trans hkE : Kept [] w wE); have hSE := (show wE.cell? ⟨rb, 0, none⟩ = some (.slice AA n cc) ∧ wE.cell? ⟨rb, 1, none⟩ = some (.int .i64 m) from ⟨kE.cell (by simp) c0', kE.cell (by simp) c1'⟩))
    | (go_at_call 38; refine (rending_any G rb m L at' _ (HR.out.keep (by first | exact kE | exact kT))).mono ?_; rintro e wR ⟨vR, rfl, hrdR, hkR⟩; have kR := (by first | exact kE.trans hkR | exact kT.trans hkR | exact HK2.out.trans hkR | exact HK2.out.drew.trans hkR | exact (HK2.out.drewN _).trans hkR : Kept [] w wR); have hSR := (show wR.cell? ⟨rb, 0, none⟩ = some (.slice AA n cc) ∧ wR.cell? ⟨rb, 1, none⟩ = some (.int .i64 m) from ⟨kR.cell (by simp) c0', kR.cell (by simp) c1'⟩))
    | (go_at_call_of 20 vE; refine (told_any vE vR (textsOf (endsBelow at') L) stop _ (hitE.keep (by first | exact hkR | exact Kept.refl _ _)) (hrdR.keep (by first | exact hkE | exact Kept.refl _ _))).mono ?_; rintro e wO ⟨rfl, hkO⟩; have kO := (by first | exact kR.trans hkO | exact kE.trans hkO | exact HK2.out.trans hkO | exact HK2.out.drew.trans hkO | exact (HK2.out.drewN _).trans hkO : Kept [] w wO); have hSO := (show wO.cell? ⟨rb, 0, none⟩ = some (.slice AA n cc) ∧ wO.cell? ⟨rb, 1, none⟩ = some (.int .i64 m) from ⟨kO.cell (by simp) c0', kO.cell (by simp) c1'⟩))
    | (go_at_call 22; refine (beginning_any _ L at' _ ((HS.out.keep (by first | exact kQ | exact kO)).src)).mono ?_; rintro e wB ⟨vB, rfl, hitB, hkB⟩; have kB := (by first | exact kQ.trans hkB | exact kO.trans hkB | exact HK2.out.trans hkB | exact HK2.out.drew.trans hkB | exact (HK2.out.drewN _).trans hkB : Kept [] w wB); have hSB := (show wB.cell? ⟨rb, 0, none⟩ = some (.slice AA n cc) ∧ wB.cell? ⟨rb, 1, none⟩ = some (.int .i64 m) from ⟨kB.cell (by simp) c0', kB.cell (by simp) c1'⟩))
    | (go_at_call 39; refine (rbeginning_any G rb m L at' _ (HR.out.keep (by first | exact kB | exact kO))).mono ?_; rintro e wQ ⟨vQ, rfl, hrdQ, hkQ⟩; have kQ := (by first | exact kB.trans hkQ | exact kO.trans hkQ | exact HK2.out.trans hkQ | exact HK2.out.drew.trans hkQ | exact (HK2.out.drewN _).trans hkQ : Kept [] w wQ); have hSQ := (show wQ.cell? ⟨rb, 0, none⟩ = some (.slice AA n cc) ∧ wQ.cell? ⟨rb, 1, none⟩ = some (.int .i64 m) from ⟨kQ.cell (by simp) c0', kQ.cell (by simp) c1'⟩))
    | (go_at_call_of 20 vB; refine (told_any vB vQ (textsOf (beginsAbove at') L) stop _ (hitB.keep (by first | exact hkQ | exact Kept.refl _ _)) (hrdQ.keep (by first | exact hkB | exact Kept.refl _ _))).mono ?_; rintro e wP ⟨rfl, hkP⟩; have kP := (by first | exact kQ.trans hkP | exact kB.trans hkP | exact HK2.out.trans hkP | exact HK2.out.drew.trans hkP | exact (HK2.out.drewN _).trans hkP : Kept [] w wP); have hSP := (show wP.cell? ⟨rb, 0, none⟩ = some (.slice AA n cc) ∧ wP.cell? ⟨rb, 1, none⟩ = some (.int .i64 m) from ⟨kP.cell (by simp) c0', kP.cell (by simp) c1'⟩)))
  all_goals
    go_wp2_with fail
    go_ret
    exact ⟨rfl, kP⟩

end Go.Proofs.Ytdboipjbpkhacaa

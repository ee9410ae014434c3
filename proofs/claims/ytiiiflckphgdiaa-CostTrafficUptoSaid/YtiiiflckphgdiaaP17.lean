/- Rates that are the same for all: the program's Even. -/
import Derived.Test.YtiiiflckphgdiaaP16
set_option linter.unusedVariables false
set_option linter.unusedSimpArgs false
set_option linter.unnecessarySimpa false
namespace Go.Proofs.Ytiiiflckphgdiaa
open Go.RowKit Go.Shelf
attribute [local go_sem] Oper.semAt_some

def evenE (x : PlanD) (s : Int) : Int := if planV x then (if s < 1 ∨ 12 < s then 1 else 0) else 150
def evenV (x : PlanD) (s : Int) : RatesD := if evenE x s = 0 then (Ks s.toNat, Ks x.1.length, Ks x.1.length) else ([], [], [])
def EvenPost (w : World) (ec : Int) (r : RatesD) : Ending → World → Prop := fun e w' => ∃ a b c, e = .returned (.tuple #[.agg #[a, b, c], .int .i64 ec]) ∧ RdI w' .i64 a r.1 ∧ RdI w' .i64 b r.2.1 ∧ RdI w' .i64 c r.2.2 ∧ Kept [] w w'
theorem RdI.nil (w : World) : RdI w .i64 (.slice none 0 0) [] := ⟨none, 0, rfl, Nat.zero_le _, fun h => absurd rfl h⟩

theorem res_ct {P : Program} {fn : Func} {p u : Tmp} {ty : TypeId} (h : fn.results = #[.cell p ty, .tmp u]) (tmps : Array Value) (w : World) (g : Nat) (t : TypeId) (cs : Array Value) (d : TypeDesc)
    (hp : tmps.getD p undef = .pointer (some ⟨g, 0, none⟩)) (hg : w.heap[g]? = some (.cells cs t (0, 0)))
    (hu : P.underlying ty = some d) (hd : (match d with | .struct _ | .array _ _ => true | _ => false) = true) (hi : (P.info? ty).map (·.size) = some cs.size) :
    (results fn tmps).run P w = .ok (.tuple #[.agg cs, tmps.getD u undef]) w := by
  have hp' : tmps[p]?.getD undef = .pointer (some ⟨g, 0, none⟩) := by simpa using hp
  simp [results, h, hp', asAddr, run_loadVar_row w g t ty cs (0, 0) d hg hu hd hi]
theorem res_c {P : Program} {fn : Func} {p : Tmp} {ty : TypeId} (h : fn.results = #[.cell p ty]) (tmps : Array Value) (w : World) (g : Nat) (t : TypeId) (cs : Array Value) (d : TypeDesc)
    (hp : tmps.getD p undef = .pointer (some ⟨g, 0, none⟩)) (hg : w.heap[g]? = some (.cells cs t (0, 0)))
    (hu : P.underlying ty = some d) (hd : (match d with | .struct _ | .array _ _ => true | _ => false) = true) (hi : (P.info? ty).map (·.size) = some cs.size) :
    (results fn tmps).run P w = .ok (.agg cs) w := by
  have hp' : tmps[p]?.getD undef = .pointer (some ⟨g, 0, none⟩) := by simpa using hp
  simp [results, h, hp', asAddr, run_loadVar_row w g t ty cs (0, 0) d hg hu hd hi]
/-- A block whose three cells are set. -/
theorem Blk.set3 {w : World} {b : Nat} {x y z : Value} {t : TypeId} (h : Blk w b #[x, y, z] t) (a c d : Value) : Blk (((w.setCell ⟨b, 0, none⟩ a).setCell ⟨b, 1, none⟩ c).setCell ⟨b, 2, none⟩ d) b #[a, c, d] t := by
  have := ((h.set 0 a).set 1 c).set 2 d
  simpa using this
theorem Kept.set3 {S : List Nat} {w0 w : World} {b : Nat} (h : Kept S w0 w) (hb : b ∈ S ∨ w0.heap.size ≤ b) (a c d : Value) : Kept S w0 (((w.setCell ⟨b, 0, none⟩ a).setCell ⟨b, 1, none⟩ c).setCell ⟨b, 2, none⟩ d) :=
  ((h.setCell hb a).setCell hb c).setCell hb d

set_option maxRecDepth 100000 in
set_option maxHeartbeats 4000000 in
theorem even_any (ov fv : Value) (x : PlanD) (s : Int) (w : World) (ho : Rds opR w ov x.1) (hf : Rds intsR w fv x.2) (hF : fromLen x.2 ≤ 1048576) :
    Calls Try.prog 18 #[.agg #[ov, fv], .int .i64 s] w (EvenPost w (evenE x s) (evenV x s)) := by
  have HPC := Lib.hid (fun (W : World) (hk : Kept [] w W) => plancheck_any ov fv x W (ho.keep hk) (hf.keep hk) hF)
  obtain ⟨A, c, rfl, hmA⟩ := ho.form
  obtain ⟨B, d, rfl, hmB⟩ := hf.form
  obtain ⟨E, hE⟩ : ∃ E, evenE x s = E := ⟨_, rfl⟩
  obtain ⟨R, hR⟩ : ∃ R, evenV x s = R := ⟨_, rfl⟩
  rw [hE, hR]
  rw [evenV, hE] at hR
  obtain ⟨n, hn⟩ : ∃ n, x.1.length = n := ⟨_, rfl⟩
  obtain ⟨m, hm⟩ : ∃ m, x.2.length = m := ⟨_, rfl⟩
  obtain ⟨g, hg⟩ : ∃ g, planV x = g := ⟨_, rfl⟩
  have hpl : g = true → 2 ≤ n ∧ n ≤ 32 := fun h => by
    have := plan_place (hg.trans h)
    rw [hn] at this
    exact ⟨this.1, this.2.1⟩
  unfold evenE at hE
  rw [hg] at hE HPC
  rw [hn] at hR hmA HPC ⊢
  rw [hm] at hmB HPC ⊢
  have HR := Lib.hid hR
  have HE := Lib.hid hE
  clear hF ho hf hn hm hg hE hR
  have HK0 := Lib.hid (((Kept.refl [] w).alloc (.cells #[.slice A n c, .slice B m d] 30)).alloc (.cells #[.slice none 0 0, .slice none 0 0, .slice none 0 0] 32))
  have HB0 : Hid (Blk ((w.alloc (.cells #[.slice A n c, .slice B m d] 30)).alloc (.cells #[.slice none 0 0, .slice none 0 0, .slice none 0 0] 32)) w.heap.size #[.slice A n c, .slice B m d] 30) := (Blk.new w _ _).alloc _
  have HB1 : Hid (Blk ((w.alloc (.cells #[.slice A n c, .slice B m d] 30)).alloc (.cells #[.slice none 0 0, .slice none 0 0, .slice none 0 0] 32)) (w.heap.size + 1) #[.slice none 0 0, .slice none 0 0, .slice none 0 0] 32) := by
    have := Blk.new (w.alloc (.cells #[.slice A n c, .slice B m d] 30)) #[.slice none 0 0, .slice none 0 0, .slice none 0 0] 32
    rwa [show (w.alloc (.cells #[.slice A n c, .slice B m d] 30)).heap.size = w.heap.size + 1 by simp] at this
  go_enter Try.func18, Try.ntmps18
  go_wp2_with fail
  refine (HPC.out _ HK0.out).mono ?_
  rintro e w1 ⟨rfl, hk1⟩
  have HK1 := Lib.hid (HK0.out.trans hk1)
  have p0 := (HB0.out.kept hk1 (by simp)).cell 0
  have s0 := (HB1.out.kept hk1 (by simp)).cell 0
  have s1 := (HB1.out.kept hk1 (by simp)).cell 1
  have s2 := (HB1.out.kept hk1 (by simp)).cell 2
  have f0 := (HB1.out.kept hk1 (by simp)).free 0
  have f1 := (HB1.out.kept hk1 (by simp)).free 1
  have f2 := (HB1.out.kept hk1 (by simp)).free 2
  have HBR := Lib.hid (HB1.out.kept hk1 (by simp))
  simp at p0 s0 s1 s2
  clear hk1
  cases g with
  | false =>
    rw [show errPlan false = 150 from rfl]
    have hE : Hid (E = 150) := HE.out.symm
    go_wp2_with fail
    refine bodyPost_ret (res_ct rfl _ _ (w.heap.size + 1) 32 #[.slice none 0 0, .slice none 0 0, .slice none 0 0] _ rfl (HBR.out.set3 _ _ _) Try.underlying32 rfl (by kernel_rfl)) rfl ?_
    have hR0 := HR.out
    rw [hE.out] at hR0
    subst hR0
    rw [hE.out]
    exact ⟨_, _, _, rfl, RdI.nil _, RdI.nil _, RdI.nil _, HK1.out.set3 (.inr (by omega)) _ _ _⟩
  | true =>
    rw [show errPlan true = 0 from rfl]
    obtain ⟨hn2, hn32⟩ := hpl rfl
    by_cases h1 : s < 1
    · have hE : Hid (E = 1) := by show _ = _; rw [← HE.out, if_pos rfl, if_pos (.inl h1)]
      go_wp2_with fail
      refine bodyPost_ret (res_ct rfl _ _ (w.heap.size + 1) 32 #[.slice none 0 0, .slice none 0 0, .slice none 0 0] _ rfl (HBR.out.set3 _ _ _) Try.underlying32 rfl (by kernel_rfl)) rfl ?_
      have hR0 := HR.out
      rw [hE.out] at hR0
      subst hR0
      rw [hE.out]
      exact ⟨_, _, _, rfl, RdI.nil _, RdI.nil _, RdI.nil _, HK1.out.set3 (.inr (by omega)) _ _ _⟩
    · by_cases h2 : 12 < s
      · have hE : Hid (E = 1) := by show _ = _; rw [← HE.out, if_pos rfl, if_pos (.inr h2)]
        go_wp2_with fail
        refine bodyPost_ret (res_ct rfl _ _ (w.heap.size + 1) 32 #[.slice none 0 0, .slice none 0 0, .slice none 0 0] _ rfl (HBR.out.set3 _ _ _) Try.underlying32 rfl (by kernel_rfl)) rfl ?_
        have hR0 := HR.out
        rw [hE.out] at hR0
        subst hR0
        rw [hE.out]
        exact ⟨_, _, _, rfl, RdI.nil _, RdI.nil _, RdI.nil _, HK1.out.set3 (.inr (by omega)) _ _ _⟩
      · obtain ⟨q, rfl⟩ : ∃ q : Nat, s = q := ⟨s.toNat, by omega⟩
        have hE : Hid (E = 0) := by show _ = _; rw [← HE.out, if_pos rfl, if_neg (by omega)]
        have hR0 := HR.out
        rw [hE.out, if_pos rfl, Int.toNat_natCast] at hR0
        subst hR0
        have HREP : Hid (∀ (k : Nat), 1 ≤ k → k ≤ 32 → ∀ (W : World) (b : Nat), b = W.heap.size → Calls Try.prog 42 #[.slice (some ⟨b, 0, none⟩) 1 1, .int .i64 k] (W.alloc (.cells #[.int .i64 1024] 2)) (IntsPost (W.alloc (.cells #[.int .i64 1024] 2)) (Ks k))) := fun k h1 h2 W b hb => by
          subst hb
          exact repeat_any _ k _ h1 h2 ((Blk.new W #[.int .i64 1024] 2).cell 0) (by simp)
        go_wp2_with fail
        refine (HREP.out q (by omega) (by omega) _ _ rfl).mono ?_
        rintro e w2 ⟨v1, rfl, o1, k1⟩
        obtain ⟨A1, c1, rfl⟩ := own_len o1
        have HR1 := Lib.hid (RdI.of_own o1).1
        have HG1 : Hid (∀ b, (Value.slice A1 _ c1).ownBlock = some b → w1.heap.size ≤ b) := fun b hb => by have := (o1.lt b hb).1; simp at this; omega
        have HK2 : Hid (Kept [] w1 w2) := ((Kept.refl [] w1).alloc _).trans k1
        clear o1 k1
        go_wp2_with fail
        refine (HREP.out n (by omega) (by omega) _ _ rfl).mono ?_
        rintro e w3 ⟨v2, rfl, o2, k2⟩
        obtain ⟨A2, c2, rfl⟩ := own_len o2
        have HR2 := Lib.hid (RdI.of_own o2).1
        have HG2 : Hid (∀ b, (Value.slice A2 _ c2).ownBlock = some b → w2.heap.size ≤ b) := fun b hb => by have := (o2.lt b hb).1; simp at this; omega
        have HK3 : Hid (Kept [] w2 w3) := ((Kept.refl [] w2).alloc _).trans k2
        clear o2 k2
        go_wp2_with fail
        refine (HREP.out n (by omega) (by omega) _ _ rfl).mono ?_
        rintro e w4 ⟨v3, rfl, o3, k3⟩
        obtain ⟨A3, c3, rfl⟩ := own_len o3
        have HR3 := Lib.hid (RdI.of_own o3).1
        have HG3 : Hid (∀ b, (Value.slice A3 _ c3).ownBlock = some b → w3.heap.size ≤ b) := fun b hb => by have := (o3.lt b hb).1; simp at this; omega
        have HK4 : Hid (Kept [] w3 w4) := ((Kept.refl [] w3).alloc _).trans k3
        clear o3 k3
        have HK14 : Hid (Kept [] w1 w4) := (HK2.out.trans HK3.out).trans HK4.out
        have HBR4 := Lib.hid (HBR.out.kept HK14.out (by simp))
        have g0 := HBR4.out.cell 0
        have g1 := HBR4.out.cell 1
        have g2 := HBR4.out.cell 2
        have d0 := HBR4.out.free 0
        have d1 := HBR4.out.free 1
        have d2 := HBR4.out.free 2
        simp at g0 g1 g2
        have HBS := Lib.hid (Kept.set3 (S := [w.heap.size + 1]) (b := w.heap.size + 1) ((Kept.refl [] w4).nil (S := [w.heap.size + 1])) (.inl (by simp)))
        go_wp2_with fail
        refine bodyPost_ret (res_ct rfl _ _ (w.heap.size + 1) 32 _ _ rfl (HBR4.out.set3 _ _ _) Try.underlying32 rfl (by kernel_rfl)) rfl ?_
        rw [hE.out]
        have hlt4 : w.heap.size + 1 < w4.heap.size := HBR4.out.lt
        refine ⟨_, _, _, rfl, ?_, ?_, ?_, (HK1.out.trans HK14.out).set3 (.inr (by omega)) _ _ _⟩
        · refine RdI.kept ((HR1.out.keep HK3.out).keep HK4.out) (HBS.out _ _ _) (fun b hb hm => ?_)
          have h5 := HG1.out b hb
          have h6 := HBR.out.lt
          simp at hm
          omega
        · refine RdI.kept (HR2.out.keep HK4.out) (HBS.out _ _ _) (fun b hb hm => ?_)
          have h5 := HG2.out b hb
          have h6 := HBR.out.lt
          have h7 := HK2.out.size
          simp at hm
          omega
        · refine RdI.kept HR3.out (HBS.out _ _ _) (fun b hb hm => ?_)
          have h5 := HG3.out b hb
          have h6 := HBR.out.lt
          have h7 := (HK2.out.trans HK3.out).size
          simp at hm
          omega

end Go.Proofs.Ytiiiflckphgdiaa

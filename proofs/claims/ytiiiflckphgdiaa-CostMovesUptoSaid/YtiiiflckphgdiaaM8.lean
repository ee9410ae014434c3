/- Which inputs an operator feeds: the program's Uses, of a plan that may be. -/
import Derived.Test.YtiiiflckphgdiaaM6
set_option linter.unusedVariables false
set_option linter.unusedSimpArgs false
set_option linter.unnecessarySimpa false
namespace Go.Proofs.Ytiiiflckphgdiaa
open Go.RowKit Go.Shelf Tr
attribute [local go_sem] Oper.semAt_some

set_option maxRecDepth 100000 in
set_option maxHeartbeats 2000000 in
theorem is_plan (ov fv : Value) (x : PlanD) (k : Nat) (w : World) (ho : Rds opR w ov x.1) (hf : Rds intsR w fv x.2) (hF : fromLen x.2 ≤ 1048576) (hk : k < x.1.length) (hp : planV x = true) :
    Calls Try.prog 73 #[.agg #[ov, fv], .int .i64 k] w fun e w' => e = .returned (.bool true) ∧ Kept [] w w' := by
  have HPC := Lib.hid (fun (W : World) (hk : Kept [] w W) => plancheck_any ov fv x W (ho.keep hk) (hf.keep hk) hF)
  rw [hp] at HPC
  obtain ⟨A, c, rfl, hmA⟩ := ho.form
  obtain ⟨B, d, rfl, hmB⟩ := hf.form
  obtain ⟨n, hn⟩ : ∃ n, x.1.length = n := ⟨_, rfl⟩
  obtain ⟨m, hm⟩ : ∃ m, x.2.length = m := ⟨_, rfl⟩
  rw [hn] at HPC hk ⊢
  rw [hm] at HPC ⊢
  clear hn hm ho hf hp hF hmA hmB
  have HK0 := Lib.hid ((Kept.refl [] w).alloc (.cells #[.slice A n c, .slice B m d] 30))
  have hk0 : (0 : Int) ≤ (k : Int) := by omega
  have hkn : (k : Int) < (n : Int) := by omega
  go_enter Try.func73, Try.ntmps73
  go_wp2_with fail
  refine (HPC.out _ HK0.out).mono ?_
  rintro e w1 ⟨rfl, k1⟩
  rw [show errPlan true = 0 from rfl]
  have HK1 := Lib.hid (HK0.out.trans k1)
  clear k1
  go_wp2_with fail
  go_ret
  exact ⟨rfl, HK1.out⟩

set_option maxRecDepth 100000 in
set_option maxHeartbeats 2000000 in
theorem plan_uses (ov fv : Value) (x : PlanD) (k : Nat) (w : World) (ho : Rds opR w ov x.1) (hf : Rds intsR w fv x.2) (hF : fromLen x.2 ≤ 1048576) (hk : k < x.1.length) (hp : planV x = true) :
    Calls Try.prog 54 #[.agg #[ov, fv], .int .i64 k] w (UsesPost w (usesGo k 0 x.2)) := by
  have HIS := Lib.hid (fun (W : World) (hk' : Kept [] w W) => is_plan ov fv x k W (ho.keep hk') (hf.keep hk') hF hk hp)
  have HU := Lib.hid (fun (W : World) (hk' : Kept [] w W) => uses_any ov fv x.2 k W (hf.keep hk') hF)
  obtain ⟨A, c, rfl, hmA⟩ := ho.form
  obtain ⟨B, d, rfl, hmB⟩ := hf.form
  obtain ⟨L, hL⟩ : ∃ L, usesGo k 0 x.2 = L := ⟨_, rfl⟩
  rw [hL] at HU ⊢
  obtain ⟨n, hn⟩ : ∃ n, x.1.length = n := ⟨_, rfl⟩
  obtain ⟨m, hm⟩ : ∃ m, x.2.length = m := ⟨_, rfl⟩
  rw [hn] at HIS HU ⊢
  rw [hm] at HIS HU ⊢
  clear hn hm ho hf hp hF hmA hmB hk hL
  have HK0 := Lib.hid ((Kept.refl [] w).alloc (.cells #[.slice A n c, .slice B m d] 30))
  have HB0 := Lib.hid (Blk.new w #[.slice A n c, .slice B m d] 30)
  have hsz : (w.alloc (.cells #[.slice A n c, .slice B m d] 30)).heap.size = w.heap.size + 1 := by simp
  have HSZ := Lib.hid hsz
  clear hsz
  go_enter Try.func54, Try.ntmps54
  go_wp2_with fail
  refine (HIS.out _ HK0.out).mono ?_
  rintro e w1 ⟨rfl, k1⟩
  have HK1 := Lib.hid (HK0.out.trans k1)
  have HS1 : Hid (w.heap.size ≤ w1.heap.size) := HK1.out.size
  have c0 := (HB0.out.kept k1 (by simp)).cell 0
  have c1 := (HB0.out.kept k1 (by simp)).cell 1
  simp at c0 c1
  clear k1
  go_wp2_with fail
  refine (HU.out _ HK1.out).mono ?_
  rintro e w2 ⟨v, rfl, o2, k2⟩
  have HO := Lib.hid o2
  have HK2 := Lib.hid (HK1.out.trans k2)
  clear o2 k2
  go_wp2_with fail
  go_ret
  exact ⟨_, rfl, rowBase HO.out HS1.out, HK2.out⟩

end Go.Proofs.Ytiiiflckphgdiaa

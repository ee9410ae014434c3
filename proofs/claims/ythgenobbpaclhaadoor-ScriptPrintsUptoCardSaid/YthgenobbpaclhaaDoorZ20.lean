/- Scripts, the document's: a step with the fields that its line has alone (printed by gen_z20.py). -/
import Derived.Test.YthgenobbpaclhaaDoorZ7
import Derived.Test.YthgenobbpaclhaaDoorKq
import Derived.Laws.Rows
set_option linter.unusedVariables false
set_option linter.unusedSimpArgs false
set_option linter.unnecessarySimpa false
namespace Go.Proofs.YthgenobbpaclhaaDoor
open Go.RowKit Go.Shelf
attribute [local go_sem] Oper.semAt_some

theorem blk_mid (w : World) (o : Obj) (cs : Array Value) (t : TypeId) (o2 : Obj) : Blk (((w.alloc o).alloc (.cells cs t)).alloc o2) (w.heap.size + 1) cs t := by
  have := (Blk.new (w.alloc o) cs t).alloc o2
  rwa [show (w.alloc o).heap.size = w.heap.size + 1 from by simp] at this
def bareP (k : Int) (pv : Value) : Value := if k = 1 then pv else .slice none 0 0
def bareA (k : Int) (av : Value) : Value := if k = 2 then av else .slice none 0 0
def BarePost (w : World) (x : StepD) (pv av : Value) (e : Ending) (w' : World) : Prop := e = .returned (.agg (stepC (bareS x) (bareP x.kind pv) (bareA x.kind av))) ∧ StepV w (bareS x) (bareP x.kind pv) (bareA x.kind av) ∧ Kept [] w w'
set_option maxRecDepth 100000 in
set_option maxHeartbeats 4000000 in
theorem bare_1 (x : StepD) (pv av : Value) (w : World) (hx : StepV w x pv av) (hk : x.kind = 1) : Calls Tryd.prog 39 #[.agg (stepC x pv av)] w (BarePost w x pv av) := by
  have HX := Lib.hid hx
  obtain ⟨PA, pc, rfl, _⟩ := hx.1
  obtain ⟨AA, ac, rfl, _⟩ := hx.2.form
  obtain ⟨kind, text, place, source, time, type, attrs, pattern, op, dest, broker, number, at_, wth⟩ := x
  dsimp only at hk HX
  subst hk
  clear hx
  dsimp only [stepC]
  go_enter Tryd.func39, Tryd.ntmps39
  go_upto_region 4 with fail
  go_big_region
  go_wp2_with fail
  refine bodyPost_ret (v := .agg (stepC (bareS ⟨1, text, place, source, time, type, attrs, pattern, op, dest, broker, number, at_, wth⟩) (.slice PA place.length pc) (.slice none 0 0))) (results_cell_row (p := 2) (by kernel_rfl) _ _ (w.heap.size + 1) 40 (stepC (bareS ⟨1, text, place, source, time, type, attrs, pattern, op, dest, broker, number, at_, wth⟩) (.slice PA place.length pc) (.slice none 0 0)) (0, 0) _ (by kernel_rfl) (blk_mid _ _ _ _ _) Tryd.underlying40 rfl (by kernel_rfl)) rfl ⟨rfl, ⟨HX.out.1, rdsA_nil _⟩, ((((Kept.refl [] w).alloc _).alloc _).alloc _).drew⟩
set_option maxRecDepth 100000 in
set_option maxHeartbeats 4000000 in
theorem bare_2 (x : StepD) (pv av : Value) (w : World) (hx : StepV w x pv av) (hk : x.kind = 2) : Calls Tryd.prog 39 #[.agg (stepC x pv av)] w (BarePost w x pv av) := by
  have HX := Lib.hid hx
  obtain ⟨PA, pc, rfl, _⟩ := hx.1
  obtain ⟨AA, ac, rfl, _⟩ := hx.2.form
  obtain ⟨kind, text, place, source, time, type, attrs, pattern, op, dest, broker, number, at_, wth⟩ := x
  dsimp only at hk HX
  subst hk
  clear hx
  dsimp only [stepC]
  go_enter Tryd.func39, Tryd.ntmps39
  go_upto_region 6 with fail
  go_big_region
  go_wp2_with fail
  refine bodyPost_ret (v := .agg (stepC (bareS ⟨2, text, place, source, time, type, attrs, pattern, op, dest, broker, number, at_, wth⟩) (.slice none 0 0) (.slice AA attrs.length ac))) (results_cell_row (p := 2) (by kernel_rfl) _ _ (w.heap.size + 1) 40 (stepC (bareS ⟨2, text, place, source, time, type, attrs, pattern, op, dest, broker, number, at_, wth⟩) (.slice none 0 0) (.slice AA attrs.length ac)) (0, 0) _ (by kernel_rfl) (blk_mid _ _ _ _ _) Tryd.underlying40 rfl (by kernel_rfl)) rfl ⟨rfl, ⟨rdI_nil _, HX.out.2⟩, ((((Kept.refl [] w).alloc _).alloc _).alloc _).drew⟩
set_option maxRecDepth 100000 in
set_option maxHeartbeats 4000000 in
theorem bare_3 (x : StepD) (pv av : Value) (w : World) (hx : StepV w x pv av) (hk : x.kind = 3) : Calls Tryd.prog 39 #[.agg (stepC x pv av)] w (BarePost w x pv av) := by
  have HX := Lib.hid hx
  obtain ⟨PA, pc, rfl, _⟩ := hx.1
  obtain ⟨AA, ac, rfl, _⟩ := hx.2.form
  obtain ⟨kind, text, place, source, time, type, attrs, pattern, op, dest, broker, number, at_, wth⟩ := x
  dsimp only at hk HX
  subst hk
  clear hx
  dsimp only [stepC]
  go_enter Tryd.func39, Tryd.ntmps39
  go_wp2_with fail
  refine bodyPost_ret (v := .agg (stepC (bareS ⟨3, text, place, source, time, type, attrs, pattern, op, dest, broker, number, at_, wth⟩) (.slice none 0 0) (.slice none 0 0))) (results_cell_row (p := 2) (by kernel_rfl) _ _ (w.heap.size + 1) 40 (stepC (bareS ⟨3, text, place, source, time, type, attrs, pattern, op, dest, broker, number, at_, wth⟩) (.slice none 0 0) (.slice none 0 0)) (0, 0) _ (by kernel_rfl) (blk_mid _ _ _ _ _) Tryd.underlying40 rfl (by kernel_rfl)) rfl ⟨rfl, ⟨rdI_nil _, rdsA_nil _⟩, (((Kept.refl [] w).alloc _).alloc _).alloc _⟩
set_option maxRecDepth 100000 in
set_option maxHeartbeats 4000000 in
theorem bare_4 (x : StepD) (pv av : Value) (w : World) (hx : StepV w x pv av) (hk : x.kind = 4) : Calls Tryd.prog 39 #[.agg (stepC x pv av)] w (BarePost w x pv av) := by
  have HX := Lib.hid hx
  obtain ⟨PA, pc, rfl, _⟩ := hx.1
  obtain ⟨AA, ac, rfl, _⟩ := hx.2.form
  obtain ⟨kind, text, place, source, time, type, attrs, pattern, op, dest, broker, number, at_, wth⟩ := x
  dsimp only at hk HX
  subst hk
  clear hx
  dsimp only [stepC]
  go_enter Tryd.func39, Tryd.ntmps39
  go_upto_region 10 with fail
  go_big_region
  go_wp2_with fail
  refine bodyPost_ret (v := .agg (stepC (bareS ⟨4, text, place, source, time, type, attrs, pattern, op, dest, broker, number, at_, wth⟩) (.slice none 0 0) (.slice none 0 0))) (results_cell_row (p := 2) (by kernel_rfl) _ _ (w.heap.size + 1) 40 (stepC (bareS ⟨4, text, place, source, time, type, attrs, pattern, op, dest, broker, number, at_, wth⟩) (.slice none 0 0) (.slice none 0 0)) (0, 0) _ (by kernel_rfl) (blk_mid _ _ _ _ _) Tryd.underlying40 rfl (by kernel_rfl)) rfl ⟨rfl, ⟨rdI_nil _, rdsA_nil _⟩, ((((Kept.refl [] w).alloc _).alloc _).alloc _).drew⟩
set_option maxRecDepth 100000 in
set_option maxHeartbeats 4000000 in
theorem bare_5 (x : StepD) (pv av : Value) (w : World) (hx : StepV w x pv av) (hk : x.kind = 5) : Calls Tryd.prog 39 #[.agg (stepC x pv av)] w (BarePost w x pv av) := by
  have HX := Lib.hid hx
  obtain ⟨PA, pc, rfl, _⟩ := hx.1
  obtain ⟨AA, ac, rfl, _⟩ := hx.2.form
  obtain ⟨kind, text, place, source, time, type, attrs, pattern, op, dest, broker, number, at_, wth⟩ := x
  dsimp only at hk HX
  subst hk
  clear hx
  dsimp only [stepC]
  go_enter Tryd.func39, Tryd.ntmps39
  go_wp2_with fail
  refine bodyPost_ret (v := .agg (stepC (bareS ⟨5, text, place, source, time, type, attrs, pattern, op, dest, broker, number, at_, wth⟩) (.slice none 0 0) (.slice none 0 0))) (results_cell_row (p := 2) (by kernel_rfl) _ _ (w.heap.size + 1) 40 (stepC (bareS ⟨5, text, place, source, time, type, attrs, pattern, op, dest, broker, number, at_, wth⟩) (.slice none 0 0) (.slice none 0 0)) (0, 0) _ (by kernel_rfl) (blk_mid _ _ _ _ _) Tryd.underlying40 rfl (by kernel_rfl)) rfl ⟨rfl, ⟨rdI_nil _, rdsA_nil _⟩, (((Kept.refl [] w).alloc _).alloc _).alloc _⟩
set_option maxRecDepth 100000 in
set_option maxHeartbeats 4000000 in
theorem bare_6 (x : StepD) (pv av : Value) (w : World) (hx : StepV w x pv av) (hk : x.kind = 6) : Calls Tryd.prog 39 #[.agg (stepC x pv av)] w (BarePost w x pv av) := by
  have HX := Lib.hid hx
  obtain ⟨PA, pc, rfl, _⟩ := hx.1
  obtain ⟨AA, ac, rfl, _⟩ := hx.2.form
  obtain ⟨kind, text, place, source, time, type, attrs, pattern, op, dest, broker, number, at_, wth⟩ := x
  dsimp only at hk HX
  subst hk
  clear hx
  dsimp only [stepC]
  go_enter Tryd.func39, Tryd.ntmps39
  go_wp2_with fail
  refine bodyPost_ret (v := .agg (stepC (bareS ⟨6, text, place, source, time, type, attrs, pattern, op, dest, broker, number, at_, wth⟩) (.slice none 0 0) (.slice none 0 0))) (results_cell_row (p := 2) (by kernel_rfl) _ _ (w.heap.size + 1) 40 (stepC (bareS ⟨6, text, place, source, time, type, attrs, pattern, op, dest, broker, number, at_, wth⟩) (.slice none 0 0) (.slice none 0 0)) (0, 0) _ (by kernel_rfl) (blk_mid _ _ _ _ _) Tryd.underlying40 rfl (by kernel_rfl)) rfl ⟨rfl, ⟨rdI_nil _, rdsA_nil _⟩, (((Kept.refl [] w).alloc _).alloc _).alloc _⟩
set_option maxRecDepth 100000 in
set_option maxHeartbeats 4000000 in
theorem bare_7 (x : StepD) (pv av : Value) (w : World) (hx : StepV w x pv av) (hk : x.kind = 7) : Calls Tryd.prog 39 #[.agg (stepC x pv av)] w (BarePost w x pv av) := by
  have HX := Lib.hid hx
  obtain ⟨PA, pc, rfl, _⟩ := hx.1
  obtain ⟨AA, ac, rfl, _⟩ := hx.2.form
  obtain ⟨kind, text, place, source, time, type, attrs, pattern, op, dest, broker, number, at_, wth⟩ := x
  dsimp only at hk HX
  subst hk
  clear hx
  dsimp only [stepC]
  go_enter Tryd.func39, Tryd.ntmps39
  go_wp2_with fail
  refine bodyPost_ret (v := .agg (stepC (bareS ⟨7, text, place, source, time, type, attrs, pattern, op, dest, broker, number, at_, wth⟩) (.slice none 0 0) (.slice none 0 0))) (results_cell_row (p := 2) (by kernel_rfl) _ _ (w.heap.size + 1) 40 (stepC (bareS ⟨7, text, place, source, time, type, attrs, pattern, op, dest, broker, number, at_, wth⟩) (.slice none 0 0) (.slice none 0 0)) (0, 0) _ (by kernel_rfl) (blk_mid _ _ _ _ _) Tryd.underlying40 rfl (by kernel_rfl)) rfl ⟨rfl, ⟨rdI_nil _, rdsA_nil _⟩, (((Kept.refl [] w).alloc _).alloc _).alloc _⟩
set_option maxRecDepth 100000 in
set_option maxHeartbeats 4000000 in
theorem bare_8 (x : StepD) (pv av : Value) (w : World) (hx : StepV w x pv av) (hk : x.kind = 8) : Calls Tryd.prog 39 #[.agg (stepC x pv av)] w (BarePost w x pv av) := by
  have HX := Lib.hid hx
  obtain ⟨PA, pc, rfl, _⟩ := hx.1
  obtain ⟨AA, ac, rfl, _⟩ := hx.2.form
  obtain ⟨kind, text, place, source, time, type, attrs, pattern, op, dest, broker, number, at_, wth⟩ := x
  dsimp only at hk HX
  subst hk
  clear hx
  dsimp only [stepC]
  go_enter Tryd.func39, Tryd.ntmps39
  go_wp2_with fail
  refine bodyPost_ret (v := .agg (stepC (bareS ⟨8, text, place, source, time, type, attrs, pattern, op, dest, broker, number, at_, wth⟩) (.slice none 0 0) (.slice none 0 0))) (results_cell_row (p := 2) (by kernel_rfl) _ _ (w.heap.size + 1) 40 (stepC (bareS ⟨8, text, place, source, time, type, attrs, pattern, op, dest, broker, number, at_, wth⟩) (.slice none 0 0) (.slice none 0 0)) (0, 0) _ (by kernel_rfl) (blk_mid _ _ _ _ _) Tryd.underlying40 rfl (by kernel_rfl)) rfl ⟨rfl, ⟨rdI_nil _, rdsA_nil _⟩, (((Kept.refl [] w).alloc _).alloc _).alloc _⟩
set_option maxRecDepth 100000 in
set_option maxHeartbeats 4000000 in
theorem bare_9 (x : StepD) (pv av : Value) (w : World) (hx : StepV w x pv av) (hk : x.kind = 9) : Calls Tryd.prog 39 #[.agg (stepC x pv av)] w (BarePost w x pv av) := by
  have HX := Lib.hid hx
  obtain ⟨PA, pc, rfl, _⟩ := hx.1
  obtain ⟨AA, ac, rfl, _⟩ := hx.2.form
  obtain ⟨kind, text, place, source, time, type, attrs, pattern, op, dest, broker, number, at_, wth⟩ := x
  dsimp only at hk HX
  subst hk
  clear hx
  dsimp only [stepC]
  go_enter Tryd.func39, Tryd.ntmps39
  go_wp2_with fail
  refine bodyPost_ret (v := .agg (stepC (bareS ⟨9, text, place, source, time, type, attrs, pattern, op, dest, broker, number, at_, wth⟩) (.slice none 0 0) (.slice none 0 0))) (results_cell_row (p := 2) (by kernel_rfl) _ _ (w.heap.size + 1) 40 (stepC (bareS ⟨9, text, place, source, time, type, attrs, pattern, op, dest, broker, number, at_, wth⟩) (.slice none 0 0) (.slice none 0 0)) (0, 0) _ (by kernel_rfl) (blk_mid _ _ _ _ _) Tryd.underlying40 rfl (by kernel_rfl)) rfl ⟨rfl, ⟨rdI_nil _, rdsA_nil _⟩, (((Kept.refl [] w).alloc _).alloc _).alloc _⟩
set_option maxRecDepth 100000 in
set_option maxHeartbeats 4000000 in
theorem bare_10 (x : StepD) (pv av : Value) (w : World) (hx : StepV w x pv av) (hk : x.kind = 10) : Calls Tryd.prog 39 #[.agg (stepC x pv av)] w (BarePost w x pv av) := by
  have HX := Lib.hid hx
  obtain ⟨PA, pc, rfl, _⟩ := hx.1
  obtain ⟨AA, ac, rfl, _⟩ := hx.2.form
  obtain ⟨kind, text, place, source, time, type, attrs, pattern, op, dest, broker, number, at_, wth⟩ := x
  dsimp only at hk HX
  subst hk
  clear hx
  dsimp only [stepC]
  go_enter Tryd.func39, Tryd.ntmps39
  go_upto_region 18 with fail
  go_big_region
  go_wp2_with fail
  refine bodyPost_ret (v := .agg (stepC (bareS ⟨10, text, place, source, time, type, attrs, pattern, op, dest, broker, number, at_, wth⟩) (.slice none 0 0) (.slice none 0 0))) (results_cell_row (p := 2) (by kernel_rfl) _ _ (w.heap.size + 1) 40 (stepC (bareS ⟨10, text, place, source, time, type, attrs, pattern, op, dest, broker, number, at_, wth⟩) (.slice none 0 0) (.slice none 0 0)) (0, 0) _ (by kernel_rfl) (blk_mid _ _ _ _ _) Tryd.underlying40 rfl (by kernel_rfl)) rfl ⟨rfl, ⟨rdI_nil _, rdsA_nil _⟩, ((((Kept.refl [] w).alloc _).alloc _).alloc _).drew⟩
set_option maxRecDepth 100000 in
set_option maxHeartbeats 4000000 in
theorem bare_11 (x : StepD) (pv av : Value) (w : World) (hx : StepV w x pv av) (hk : x.kind = 11) : Calls Tryd.prog 39 #[.agg (stepC x pv av)] w (BarePost w x pv av) := by
  have HX := Lib.hid hx
  obtain ⟨PA, pc, rfl, _⟩ := hx.1
  obtain ⟨AA, ac, rfl, _⟩ := hx.2.form
  obtain ⟨kind, text, place, source, time, type, attrs, pattern, op, dest, broker, number, at_, wth⟩ := x
  dsimp only at hk HX
  subst hk
  clear hx
  dsimp only [stepC]
  go_enter Tryd.func39, Tryd.ntmps39
  go_wp2_with fail
  refine bodyPost_ret (v := .agg (stepC (bareS ⟨11, text, place, source, time, type, attrs, pattern, op, dest, broker, number, at_, wth⟩) (.slice none 0 0) (.slice none 0 0))) (results_cell_row (p := 2) (by kernel_rfl) _ _ (w.heap.size + 1) 40 (stepC (bareS ⟨11, text, place, source, time, type, attrs, pattern, op, dest, broker, number, at_, wth⟩) (.slice none 0 0) (.slice none 0 0)) (0, 0) _ (by kernel_rfl) (blk_mid _ _ _ _ _) Tryd.underlying40 rfl (by kernel_rfl)) rfl ⟨rfl, ⟨rdI_nil _, rdsA_nil _⟩, (((Kept.refl [] w).alloc _).alloc _).alloc _⟩
set_option maxRecDepth 100000 in
set_option maxHeartbeats 4000000 in
theorem bare_12 (x : StepD) (pv av : Value) (w : World) (hx : StepV w x pv av) (hk : x.kind = 12) : Calls Tryd.prog 39 #[.agg (stepC x pv av)] w (BarePost w x pv av) := by
  have HX := Lib.hid hx
  obtain ⟨PA, pc, rfl, _⟩ := hx.1
  obtain ⟨AA, ac, rfl, _⟩ := hx.2.form
  obtain ⟨kind, text, place, source, time, type, attrs, pattern, op, dest, broker, number, at_, wth⟩ := x
  dsimp only at hk HX
  subst hk
  clear hx
  dsimp only [stepC]
  go_enter Tryd.func39, Tryd.ntmps39
  go_wp2_with fail
  refine bodyPost_ret (v := .agg (stepC (bareS ⟨12, text, place, source, time, type, attrs, pattern, op, dest, broker, number, at_, wth⟩) (.slice none 0 0) (.slice none 0 0))) (results_cell_row (p := 2) (by kernel_rfl) _ _ (w.heap.size + 1) 40 (stepC (bareS ⟨12, text, place, source, time, type, attrs, pattern, op, dest, broker, number, at_, wth⟩) (.slice none 0 0) (.slice none 0 0)) (0, 0) _ (by kernel_rfl) (blk_mid _ _ _ _ _) Tryd.underlying40 rfl (by kernel_rfl)) rfl ⟨rfl, ⟨rdI_nil _, rdsA_nil _⟩, (((Kept.refl [] w).alloc _).alloc _).alloc _⟩
theorem bare_any (x : StepD) (pv av : Value) (w : World) (hx : StepV w x pv av) (h1 : 1 ≤ x.kind) (h2 : x.kind ≤ 12) : Calls Tryd.prog 39 #[.agg (stepC x pv av)] w (BarePost w x pv av) := by
  rcases kinds h1 h2 with h | h | h | h | h | h | h | h | h | h | h | h
  · exact bare_1 x pv av w hx h
  · exact bare_2 x pv av w hx h
  · exact bare_3 x pv av w hx h
  · exact bare_4 x pv av w hx h
  · exact bare_5 x pv av w hx h
  · exact bare_6 x pv av w hx h
  · exact bare_7 x pv av w hx h
  · exact bare_8 x pv av w hx h
  · exact bare_9 x pv av w hx h
  · exact bare_10 x pv av w hx h
  · exact bare_11 x pv av w hx h
  · exact bare_12 x pv av w hx h

end Go.Proofs.YthgenobbpaclhaaDoor

/- Scripts, the program's: the words of each field (printed by gen_z5.py). -/
import Derived.Test.YthgenobbpaclhaaDoorZ4
set_option linter.unusedVariables false
set_option linter.unusedSimpArgs false
set_option linter.unnecessarySimpa false
namespace Go.Proofs.YthgenobbpaclhaaDoor
open Go.RowKit Go.Shelf
attribute [local go_sem] Oper.semAt_some

def stepC (x : StepD) (pv av : Value) : Array Value := #[.int .i64 x.kind, .string x.text, pv, .int .i64 x.source, .int .i64 x.time, .string x.type, av, .int .i64 x.pattern, .int .i64 x.op, .int .i64 x.dest, .int .i64 x.broker, .int .i64 x.number, .int .i64 x.at_, .int .u8 x.wth]
/-- The rows of a step read so. -/
def StepV (w : World) (x : StepD) (pv av : Value) : Prop := RdI w .i64 pv x.place ∧ Rds attrR w av x.attrs
theorem StepV.keep {w w' : World} {x : StepD} {pv av : Value} (h : StepV w x pv av) (hk : Kept [] w w') : StepV w' x pv av := ⟨h.1.keep hk, h.2.keep hk⟩
/-- A step with room for its words. -/
structure StepSm (x : StepD) : Prop where
  kind : I64 x.kind
  text : x.text.size ≤ 1048576
  plen : x.place.length ≤ 1048576
  place : ∀ n ∈ x.place, I64 n
  source : I64 x.source
  time : I64 x.time
  type : x.type.size ≤ 1048576
  alen : x.attrs.length ≤ 1048576
  attrs : ∀ a ∈ x.attrs, AttrSm a
  pattern : I64 x.pattern
  op : I64 x.op
  dest : I64 x.dest
  broker : I64 x.broker
  number : I64 x.number
  at_ : I64 x.at_
  wth : 0 ≤ x.wth ∧ x.wth ≤ 255
theorem rdI_nil (w : World) : RdI w .i64 (.slice none 0 0) [] := ⟨none, 0, rfl, Nat.zero_le _, fun h => absurd rfl h⟩
theorem rdsA_nil (w : World) : Rds attrR w (.slice none 0 0) [] := ⟨none, 0, rfl, Nat.le_refl _, Nat.zero_le _, fun _ => ⟨rfl, rfl⟩, fun hn => absurd rfl hn⟩
theorem Blk.step {w : World} {B : Nat} {x : StepD} {pv av : Value} {t : TypeId} (h : Blk w B (stepC x pv av) t) : w.cell? ⟨B, 0, none⟩ = some (.int .i64 x.kind) ∧ w.cell? ⟨B, 1, none⟩ = some (.string x.text) ∧ w.cell? ⟨B, 2, none⟩ = some pv ∧ w.cell? ⟨B, 3, none⟩ = some (.int .i64 x.source) ∧
    w.cell? ⟨B, 4, none⟩ = some (.int .i64 x.time) ∧ w.cell? ⟨B, 5, none⟩ = some (.string x.type) ∧ w.cell? ⟨B, 6, none⟩ = some av ∧ w.cell? ⟨B, 7, none⟩ = some (.int .i64 x.pattern) ∧ w.cell? ⟨B, 8, none⟩ = some (.int .i64 x.op) ∧ w.cell? ⟨B, 9, none⟩ = some (.int .i64 x.dest) ∧
    w.cell? ⟨B, 10, none⟩ = some (.int .i64 x.broker) ∧ w.cell? ⟨B, 11, none⟩ = some (.int .i64 x.number) ∧ w.cell? ⟨B, 12, none⟩ = some (.int .i64 x.at_) ∧ w.cell? ⟨B, 13, none⟩ = some (.int .u8 x.wth) :=
  ⟨h.cell 0, h.cell 1, h.cell 2, h.cell 3, h.cell 4, h.cell 5, h.cell 6, h.cell 7, h.cell 8, h.cell 9, h.cell 10, h.cell 11, h.cell 12, h.cell 13⟩
def FieldPost (w0 w : World) (B f : Nat) (x : StepD) (e : Ending) (w' : World) : Prop := ∃ v pv av, e = .returned (.tuple #[v, .bool (fOk f x)]) ∧ (fOk f x = true → OwnS w' w.heap.size v (fW f x)) ∧ Blk w' B (stepC (fZ f x) pv av) 40 ∧ StepV w0 (fZ f x) pv av ∧ Kept [B] w w'
/-- What the words of a field are asked of. -/
structure FieldAsk (w0 w : World) (B : Nat) (x : StepD) (pv av : Value) : Prop where
  k0 : Kept [] w0 w
  base : w0.heap.size ≤ B
  blk : Blk w B (stepC x pv av) 40
  v : StepV w0 x pv av
  sm : StepSm x
  tab : TabVar w0
theorem FieldAsk.kept {w0 w W : World} {B : Nat} {x : StepD} {pv av : Value} (h : FieldAsk w0 w B x pv av) (k : Kept [B] w W) : Kept [] w0 W := Kept.after h.k0 k (by intro y hy; simp at hy; rw [hy]; exact h.base)

set_option maxRecDepth 100000 in
set_option maxHeartbeats 2000000 in
theorem words_0 (w0 w : World) (B : Nat) (x : StepD) (pv av : Value) (h : FieldAsk w0 w B x pv av) : Calls Tryd.prog 28 #[.pointer (some ⟨B, 0, none⟩), .int .i64 0] w (FieldPost w0 w B 0 x) := by
  obtain ⟨PA, pc, rfl, _⟩ := h.v.1
  obtain ⟨AA, ac, rfl, _⟩ := h.v.2.form
  obtain ⟨a0, a1, a2, a3, a4, a5, a6, a7, a8, a9, a10, a11, a12, a13⟩ := h.blk.step
  have fr := h.blk.free 1
  have hlt := h.blk.lt
  have hne : ¬ B = w.heap.size := by omega
  have hne' : ¬ w.heap.size = B := by omega
  have HA := Lib.hid h
  have HB1 : Hid (Blk ((w.setCell ⟨B, 1, none⟩ (.string { data := #[] })).alloc (.cells (stepC x (.slice PA x.place.length pc) (.slice AA x.attrs.length ac)) 40)) B (stepC (fZ 0 x) (.slice PA x.place.length pc) (.slice AA x.attrs.length ac)) 40) := by
    show Blk _ _ _ _
    have := (h.blk.set 1 (.string { data := #[] })).alloc (.cells (stepC x (.slice PA x.place.length pc) (.slice AA x.attrs.length ac)) 40)
    exact this
  have HY1 : Hid (Blk ((w.setCell ⟨B, 1, none⟩ (.string { data := #[] })).alloc (.cells (stepC x (.slice PA x.place.length pc) (.slice AA x.attrs.length ac)) 40)) w.heap.size (stepC x (.slice PA x.place.length pc) (.slice AA x.attrs.length ac)) 40) := by
    show Blk _ _ _ _
    have := Blk.new (w.setCell ⟨B, 1, none⟩ (.string { data := #[] })) (stepC x (.slice PA x.place.length pc) (.slice AA x.attrs.length ac)) 40
    rwa [show (w.setCell ⟨B, 1, none⟩ (.string { data := #[] })).heap.size = w.heap.size from by simp [World.setCell]] at this
  have HKB : Hid (Kept [B] w ((w.setCell ⟨B, 1, none⟩ (.string { data := #[] })).alloc (.cells (stepC x (.slice PA x.place.length pc) (.slice AA x.attrs.length ac)) 40))) := ((Kept.refl [B] w).setCell (.inl (by simp)) _).alloc _
  obtain ⟨W1, hW1⟩ : ∃ W1, (w.setCell ⟨B, 1, none⟩ (.string { data := #[] })).alloc (.cells (stepC x (.slice PA x.place.length pc) (.slice AA x.attrs.length ac)) 40) = W1 := ⟨_, rfl⟩
  rw [hW1] at HB1 HY1 HKB
  have HK1 := Lib.hid (HA.out.kept HKB.out)
  have HT1 := Lib.hid (HA.out.tab.keep HK1.out)
  have HW1 := Lib.hid hW1
  clear hW1 h
  have HTX : Hid (∀ W, TabVar W → Calls Tryd.prog 45 #[.string x.text] W fun e w' => e = .returned (.string (quoT x.text)) ∧ Kept [] W w') := fun W ht => stext_any x.text HA.out.sm.text W ht
  have hll := len_at x.text rfl
  have HQ : Hid (fOk 0 x = decide (x.text.size ≤ 4096)) := rfl
  have hmx' : Tryd.prog.follows .mixedOrders = true := by kernel_rfl
  have hy : W1.cell? ⟨w.heap.size, 1, none⟩ = some (.string x.text) := HY1.out.cell 1
  have HYC : Hid (∀ W', Kept [] W1 W' → W'.cell? ⟨w.heap.size, 1, none⟩ = some (.string x.text)) := fun W' hk => (HY1.out.kept hk (by simp)).cell 1
  have HD : Hid (decide ((x.text.size : Int) ≤ 4096) = decide (x.text.size ≤ 4096)) := by show _ = _; congr 1; apply propext; omega
  go_enter Tryd.func28, Tryd.ntmps28
  go_upto_region 5 with fail
  rw [show (w.setCell ⟨B, 1, none⟩ (.string { data := #[] })).alloc (.cells #[.int .i64 x.kind, .string x.text, .slice PA x.place.length pc, .int .i64 x.source, .int .i64 x.time, .string x.type, .slice AA x.attrs.length ac, .int .i64 x.pattern, .int .i64 x.op, .int .i64 x.dest, .int .i64 x.broker, .int .i64 x.number, .int .i64 x.at_, .int .u8 x.wth] 40) = W1 from HW1.out]
  clear a0 a1 a2 a3 a4 a5 a6 a7 a8 a9 a10 a11 a12 a13 fr hlt hne hne'
  go_region_held3 (fun w' => w'.cell? ⟨w.heap.size, 1, none⟩ = some (.string x.text)) (first | exact hy | exact HYC.out _ (Kept.refl _ _).drew | exact HYC.out _ HK2.out | exact HYC.out _ (HK2.out.alloc _)) ((go_at_call 45; refine (HTX.out _ (HT1.out.keep (Kept.refl _ _).drew)).mono ?_; rintro e w1 ⟨rfl, hk1⟩; have HK2 : Hid (Kept [] W1 w1) := ((Kept.refl [] W1).drew).trans hk1; clear hk1))
  have HO := Lib.hid (OwnS.lit w1 w.heap.size [quoT x.text] (Nat.le_trans HKB.out.size HK2.out.size) (by simp) (by simp [maxLen]))
  have HBF := Lib.hid ((HB1.out.kept HK2.out (by simp)).alloc (.cells #[.string (quoT x.text)] 9))
  have HKF := Lib.hid ((HKB.out.trans HK2.out.nil).alloc (.cells #[.string (quoT x.text)] 9))
  go_wp2_with fail
  go_ret2
  exact ⟨_, .slice PA x.place.length pc, .slice AA x.attrs.length ac, by rw [HQ.out, ← HD.out] <;> rfl, fun _ => HO.out, HBF.out, HA.out.v, HKF.out⟩
set_option maxRecDepth 100000 in
set_option maxHeartbeats 2000000 in
theorem words_1 (w0 w : World) (B : Nat) (x : StepD) (pv av : Value) (h : FieldAsk w0 w B x pv av) : Calls Tryd.prog 28 #[.pointer (some ⟨B, 0, none⟩), .int .i64 1] w (FieldPost w0 w B 1 x) := by
  obtain ⟨PA, pc, rfl, _⟩ := h.v.1
  obtain ⟨AA, ac, rfl, _⟩ := h.v.2.form
  obtain ⟨a0, a1, a2, a3, a4, a5, a6, a7, a8, a9, a10, a11, a12, a13⟩ := h.blk.step
  have fr := h.blk.free 2
  have hlt := h.blk.lt
  have hne : ¬ B = w.heap.size := by omega
  have hne' : ¬ w.heap.size = B := by omega
  have HA := Lib.hid h
  have HB1 : Hid (Blk ((w.setCell ⟨B, 2, none⟩ (.slice none 0 0)).alloc (.cells (stepC x (.slice PA x.place.length pc) (.slice AA x.attrs.length ac)) 40)) B (stepC (fZ 1 x) (.slice none 0 0) (.slice AA x.attrs.length ac)) 40) := by
    show Blk _ _ _ _
    have := (h.blk.set 2 (.slice none 0 0)).alloc (.cells (stepC x (.slice PA x.place.length pc) (.slice AA x.attrs.length ac)) 40)
    exact this
  have HY1 : Hid (Blk ((w.setCell ⟨B, 2, none⟩ (.slice none 0 0)).alloc (.cells (stepC x (.slice PA x.place.length pc) (.slice AA x.attrs.length ac)) 40)) w.heap.size (stepC x (.slice PA x.place.length pc) (.slice AA x.attrs.length ac)) 40) := by
    show Blk _ _ _ _
    have := Blk.new (w.setCell ⟨B, 2, none⟩ (.slice none 0 0)) (stepC x (.slice PA x.place.length pc) (.slice AA x.attrs.length ac)) 40
    rwa [show (w.setCell ⟨B, 2, none⟩ (.slice none 0 0)).heap.size = w.heap.size from by simp [World.setCell]] at this
  have HKB : Hid (Kept [B] w ((w.setCell ⟨B, 2, none⟩ (.slice none 0 0)).alloc (.cells (stepC x (.slice PA x.place.length pc) (.slice AA x.attrs.length ac)) 40))) := ((Kept.refl [B] w).setCell (.inl (by simp)) _).alloc _
  obtain ⟨W1, hW1⟩ : ∃ W1, (w.setCell ⟨B, 2, none⟩ (.slice none 0 0)).alloc (.cells (stepC x (.slice PA x.place.length pc) (.slice AA x.attrs.length ac)) 40) = W1 := ⟨_, rfl⟩
  rw [hW1] at HB1 HY1 HKB
  have HK1 := Lib.hid (HA.out.kept HKB.out)
  have HT1 := Lib.hid (HA.out.tab.keep HK1.out)
  have HW1 := Lib.hid hW1
  clear hW1 h
  have HLI : Hid (∀ W, Kept [] w0 W → TabVar W → Calls Tryd.prog 23 #[.slice PA x.place.length pc] W (WordsPost W (listW x.place))) := fun W hk ht => list_any (.slice PA x.place.length pc) x.place W (HA.out.v.1.keep hk) HA.out.sm.plen HA.out.sm.place ht
  go_enter Tryd.func28, Tryd.ntmps28
  go_wp2_with fail
  rw [show (w.setCell ⟨B, 2, none⟩ (.slice none 0 0)).alloc (.cells #[.int .i64 x.kind, .string x.text, .slice PA x.place.length pc, .int .i64 x.source, .int .i64 x.time, .string x.type, .slice AA x.attrs.length ac, .int .i64 x.pattern, .int .i64 x.op, .int .i64 x.dest, .int .i64 x.broker, .int .i64 x.number, .int .i64 x.at_, .int .u8 x.wth] 40) = W1 from HW1.out]
  refine (HLI.out _ HK1.out HT1.out).mono ?_
  rintro e w1 ⟨v, rfl, ho, hk1⟩
  have HO := Lib.hid (ho.le HKB.out.size)
  have HBF := Lib.hid (HB1.out.kept hk1 (by simp))
  have HKF := Lib.hid (HKB.out.trans hk1.nil)
  clear hk1 ho
  go_wp2_with fail
  go_ret2
  exact ⟨_, .slice none 0 0, .slice AA x.attrs.length ac, rfl, fun _ => HO.out, HBF.out, ⟨rdI_nil _, HA.out.v.2⟩, HKF.out⟩
set_option maxRecDepth 100000 in
set_option maxHeartbeats 2000000 in
theorem words_2 (w0 w : World) (B : Nat) (x : StepD) (pv av : Value) (h : FieldAsk w0 w B x pv av) : Calls Tryd.prog 28 #[.pointer (some ⟨B, 0, none⟩), .int .i64 2] w (FieldPost w0 w B 2 x) := by
  obtain ⟨PA, pc, rfl, _⟩ := h.v.1
  obtain ⟨AA, ac, rfl, _⟩ := h.v.2.form
  obtain ⟨a0, a1, a2, a3, a4, a5, a6, a7, a8, a9, a10, a11, a12, a13⟩ := h.blk.step
  have fr := h.blk.free 3
  have hlt := h.blk.lt
  have hne : ¬ B = w.heap.size := by omega
  have hne' : ¬ w.heap.size = B := by omega
  have HA := Lib.hid h
  have HB1 : Hid (Blk ((w.setCell ⟨B, 3, none⟩ (.int .i64 0)).alloc (.cells (stepC x (.slice PA x.place.length pc) (.slice AA x.attrs.length ac)) 40)) B (stepC (fZ 2 x) (.slice PA x.place.length pc) (.slice AA x.attrs.length ac)) 40) := by
    show Blk _ _ _ _
    have := (h.blk.set 3 (.int .i64 0)).alloc (.cells (stepC x (.slice PA x.place.length pc) (.slice AA x.attrs.length ac)) 40)
    exact this
  have HY1 : Hid (Blk ((w.setCell ⟨B, 3, none⟩ (.int .i64 0)).alloc (.cells (stepC x (.slice PA x.place.length pc) (.slice AA x.attrs.length ac)) 40)) w.heap.size (stepC x (.slice PA x.place.length pc) (.slice AA x.attrs.length ac)) 40) := by
    show Blk _ _ _ _
    have := Blk.new (w.setCell ⟨B, 3, none⟩ (.int .i64 0)) (stepC x (.slice PA x.place.length pc) (.slice AA x.attrs.length ac)) 40
    rwa [show (w.setCell ⟨B, 3, none⟩ (.int .i64 0)).heap.size = w.heap.size from by simp [World.setCell]] at this
  have HKB : Hid (Kept [B] w ((w.setCell ⟨B, 3, none⟩ (.int .i64 0)).alloc (.cells (stepC x (.slice PA x.place.length pc) (.slice AA x.attrs.length ac)) 40))) := ((Kept.refl [B] w).setCell (.inl (by simp)) _).alloc _
  obtain ⟨W1, hW1⟩ : ∃ W1, (w.setCell ⟨B, 3, none⟩ (.int .i64 0)).alloc (.cells (stepC x (.slice PA x.place.length pc) (.slice AA x.attrs.length ac)) 40) = W1 := ⟨_, rfl⟩
  rw [hW1] at HB1 HY1 HKB
  have HK1 := Lib.hid (HA.out.kept HKB.out)
  have HT1 := Lib.hid (HA.out.tab.keep HK1.out)
  have HW1 := Lib.hid hW1
  clear hW1 h
  have HNU : Hid (∀ W, TabVar W → Calls Tryd.prog 22 #[.int .i64 x.source] W fun e w' => e = .returned (.string (numT x.source)) ∧ Kept [] W w') := fun W ht => num_any x.source HA.out.sm.source W ht
  go_enter Tryd.func28, Tryd.ntmps28
  go_wp2_with fail
  rw [show (w.setCell ⟨B, 3, none⟩ (.int .i64 0)).alloc (.cells #[.int .i64 x.kind, .string x.text, .slice PA x.place.length pc, .int .i64 x.source, .int .i64 x.time, .string x.type, .slice AA x.attrs.length ac, .int .i64 x.pattern, .int .i64 x.op, .int .i64 x.dest, .int .i64 x.broker, .int .i64 x.number, .int .i64 x.at_, .int .u8 x.wth] 40) = W1 from HW1.out]
  refine (HNU.out _ HT1.out).mono ?_
  rintro e w1 ⟨rfl, hk1⟩
  have HO := Lib.hid (OwnS.lit w1 w.heap.size [numT x.source] (Nat.le_trans HKB.out.size hk1.size) (by simp) (by simp [maxLen]))
  have HBF := Lib.hid ((HB1.out.kept hk1 (by simp)).alloc (.cells #[.string (numT x.source)] 9))
  have HKF := Lib.hid ((HKB.out.trans hk1.nil).alloc (.cells #[.string (numT x.source)] 9))
  clear hk1
  go_wp2_with fail
  go_ret2
  exact ⟨_, .slice PA x.place.length pc, .slice AA x.attrs.length ac, rfl, fun _ => HO.out, HBF.out, HA.out.v, HKF.out⟩
set_option maxRecDepth 100000 in
set_option maxHeartbeats 2000000 in
theorem words_3 (w0 w : World) (B : Nat) (x : StepD) (pv av : Value) (h : FieldAsk w0 w B x pv av) : Calls Tryd.prog 28 #[.pointer (some ⟨B, 0, none⟩), .int .i64 3] w (FieldPost w0 w B 3 x) := by
  obtain ⟨PA, pc, rfl, _⟩ := h.v.1
  obtain ⟨AA, ac, rfl, _⟩ := h.v.2.form
  obtain ⟨a0, a1, a2, a3, a4, a5, a6, a7, a8, a9, a10, a11, a12, a13⟩ := h.blk.step
  have fr := h.blk.free 4
  have hlt := h.blk.lt
  have hne : ¬ B = w.heap.size := by omega
  have hne' : ¬ w.heap.size = B := by omega
  have HA := Lib.hid h
  have HB1 : Hid (Blk ((w.setCell ⟨B, 4, none⟩ (.int .i64 0)).alloc (.cells (stepC x (.slice PA x.place.length pc) (.slice AA x.attrs.length ac)) 40)) B (stepC (fZ 3 x) (.slice PA x.place.length pc) (.slice AA x.attrs.length ac)) 40) := by
    show Blk _ _ _ _
    have := (h.blk.set 4 (.int .i64 0)).alloc (.cells (stepC x (.slice PA x.place.length pc) (.slice AA x.attrs.length ac)) 40)
    exact this
  have HY1 : Hid (Blk ((w.setCell ⟨B, 4, none⟩ (.int .i64 0)).alloc (.cells (stepC x (.slice PA x.place.length pc) (.slice AA x.attrs.length ac)) 40)) w.heap.size (stepC x (.slice PA x.place.length pc) (.slice AA x.attrs.length ac)) 40) := by
    show Blk _ _ _ _
    have := Blk.new (w.setCell ⟨B, 4, none⟩ (.int .i64 0)) (stepC x (.slice PA x.place.length pc) (.slice AA x.attrs.length ac)) 40
    rwa [show (w.setCell ⟨B, 4, none⟩ (.int .i64 0)).heap.size = w.heap.size from by simp [World.setCell]] at this
  have HKB : Hid (Kept [B] w ((w.setCell ⟨B, 4, none⟩ (.int .i64 0)).alloc (.cells (stepC x (.slice PA x.place.length pc) (.slice AA x.attrs.length ac)) 40))) := ((Kept.refl [B] w).setCell (.inl (by simp)) _).alloc _
  obtain ⟨W1, hW1⟩ : ∃ W1, (w.setCell ⟨B, 4, none⟩ (.int .i64 0)).alloc (.cells (stepC x (.slice PA x.place.length pc) (.slice AA x.attrs.length ac)) 40) = W1 := ⟨_, rfl⟩
  rw [hW1] at HB1 HY1 HKB
  have HK1 := Lib.hid (HA.out.kept HKB.out)
  have HT1 := Lib.hid (HA.out.tab.keep HK1.out)
  have HW1 := Lib.hid hW1
  clear hW1 h
  have HNU : Hid (∀ W, TabVar W → Calls Tryd.prog 46 #[.int .i64 x.time] W fun e w' => e = .returned (.string (numT x.time)) ∧ Kept [] W w') := fun W ht => num64_any x.time HA.out.sm.time W ht
  go_enter Tryd.func28, Tryd.ntmps28
  go_wp2_with fail
  rw [show (w.setCell ⟨B, 4, none⟩ (.int .i64 0)).alloc (.cells #[.int .i64 x.kind, .string x.text, .slice PA x.place.length pc, .int .i64 x.source, .int .i64 x.time, .string x.type, .slice AA x.attrs.length ac, .int .i64 x.pattern, .int .i64 x.op, .int .i64 x.dest, .int .i64 x.broker, .int .i64 x.number, .int .i64 x.at_, .int .u8 x.wth] 40) = W1 from HW1.out]
  refine (HNU.out _ HT1.out).mono ?_
  rintro e w1 ⟨rfl, hk1⟩
  have HO := Lib.hid (OwnS.lit w1 w.heap.size [numT x.time] (Nat.le_trans HKB.out.size hk1.size) (by simp) (by simp [maxLen]))
  have HBF := Lib.hid ((HB1.out.kept hk1 (by simp)).alloc (.cells #[.string (numT x.time)] 9))
  have HKF := Lib.hid ((HKB.out.trans hk1.nil).alloc (.cells #[.string (numT x.time)] 9))
  clear hk1
  go_wp2_with fail
  go_ret2
  exact ⟨_, .slice PA x.place.length pc, .slice AA x.attrs.length ac, rfl, fun _ => HO.out, HBF.out, HA.out.v, HKF.out⟩
set_option maxRecDepth 100000 in
set_option maxHeartbeats 2000000 in
theorem words_4 (w0 w : World) (B : Nat) (x : StepD) (pv av : Value) (h : FieldAsk w0 w B x pv av) : Calls Tryd.prog 28 #[.pointer (some ⟨B, 0, none⟩), .int .i64 4] w (FieldPost w0 w B 4 x) := by
  obtain ⟨PA, pc, rfl, _⟩ := h.v.1
  obtain ⟨AA, ac, rfl, _⟩ := h.v.2.form
  obtain ⟨a0, a1, a2, a3, a4, a5, a6, a7, a8, a9, a10, a11, a12, a13⟩ := h.blk.step
  have fr := h.blk.free 5
  have hlt := h.blk.lt
  have hne : ¬ B = w.heap.size := by omega
  have hne' : ¬ w.heap.size = B := by omega
  have HA := Lib.hid h
  have HB1 : Hid (Blk ((w.setCell ⟨B, 5, none⟩ (.string { data := #[] })).alloc (.cells (stepC x (.slice PA x.place.length pc) (.slice AA x.attrs.length ac)) 40)) B (stepC (fZ 4 x) (.slice PA x.place.length pc) (.slice AA x.attrs.length ac)) 40) := by
    show Blk _ _ _ _
    have := (h.blk.set 5 (.string { data := #[] })).alloc (.cells (stepC x (.slice PA x.place.length pc) (.slice AA x.attrs.length ac)) 40)
    exact this
  have HY1 : Hid (Blk ((w.setCell ⟨B, 5, none⟩ (.string { data := #[] })).alloc (.cells (stepC x (.slice PA x.place.length pc) (.slice AA x.attrs.length ac)) 40)) w.heap.size (stepC x (.slice PA x.place.length pc) (.slice AA x.attrs.length ac)) 40) := by
    show Blk _ _ _ _
    have := Blk.new (w.setCell ⟨B, 5, none⟩ (.string { data := #[] })) (stepC x (.slice PA x.place.length pc) (.slice AA x.attrs.length ac)) 40
    rwa [show (w.setCell ⟨B, 5, none⟩ (.string { data := #[] })).heap.size = w.heap.size from by simp [World.setCell]] at this
  have HKB : Hid (Kept [B] w ((w.setCell ⟨B, 5, none⟩ (.string { data := #[] })).alloc (.cells (stepC x (.slice PA x.place.length pc) (.slice AA x.attrs.length ac)) 40))) := ((Kept.refl [B] w).setCell (.inl (by simp)) _).alloc _
  obtain ⟨W1, hW1⟩ : ∃ W1, (w.setCell ⟨B, 5, none⟩ (.string { data := #[] })).alloc (.cells (stepC x (.slice PA x.place.length pc) (.slice AA x.attrs.length ac)) 40) = W1 := ⟨_, rfl⟩
  rw [hW1] at HB1 HY1 HKB
  have HK1 := Lib.hid (HA.out.kept HKB.out)
  have HT1 := Lib.hid (HA.out.tab.keep HK1.out)
  have HW1 := Lib.hid hW1
  clear hW1 h
  have HTX : Hid (∀ W, TabVar W → Calls Tryd.prog 45 #[.string x.type] W fun e w' => e = .returned (.string (quoT x.type)) ∧ Kept [] W w') := fun W ht => stext_any x.type HA.out.sm.type W ht
  have hll := len_at x.type rfl
  have HQ : Hid (fOk 4 x = decide (x.type.size ≤ 64)) := rfl
  have hmx' : Tryd.prog.follows .mixedOrders = true := by kernel_rfl
  have hy : W1.cell? ⟨w.heap.size, 5, none⟩ = some (.string x.type) := HY1.out.cell 5
  have HYC : Hid (∀ W', Kept [] W1 W' → W'.cell? ⟨w.heap.size, 5, none⟩ = some (.string x.type)) := fun W' hk => (HY1.out.kept hk (by simp)).cell 5
  have HD : Hid (decide ((x.type.size : Int) ≤ 64) = decide (x.type.size ≤ 64)) := by show _ = _; congr 1; apply propext; omega
  go_enter Tryd.func28, Tryd.ntmps28
  go_upto_region 17 with fail
  rw [show (w.setCell ⟨B, 5, none⟩ (.string { data := #[] })).alloc (.cells #[.int .i64 x.kind, .string x.text, .slice PA x.place.length pc, .int .i64 x.source, .int .i64 x.time, .string x.type, .slice AA x.attrs.length ac, .int .i64 x.pattern, .int .i64 x.op, .int .i64 x.dest, .int .i64 x.broker, .int .i64 x.number, .int .i64 x.at_, .int .u8 x.wth] 40) = W1 from HW1.out]
  clear a0 a1 a2 a3 a4 a5 a6 a7 a8 a9 a10 a11 a12 a13 fr hlt hne hne'
  go_region_held3 (fun w' => w'.cell? ⟨w.heap.size, 5, none⟩ = some (.string x.type)) (first | exact hy | exact HYC.out _ (Kept.refl _ _).drew | exact HYC.out _ HK2.out | exact HYC.out _ (HK2.out.alloc _)) ((go_at_call 45; refine (HTX.out _ (HT1.out.keep (Kept.refl _ _).drew)).mono ?_; rintro e w1 ⟨rfl, hk1⟩; have HK2 : Hid (Kept [] W1 w1) := ((Kept.refl [] W1).drew).trans hk1; clear hk1))
  have HO := Lib.hid (OwnS.lit w1 w.heap.size [quoT x.type] (Nat.le_trans HKB.out.size HK2.out.size) (by simp) (by simp [maxLen]))
  have HBF := Lib.hid ((HB1.out.kept HK2.out (by simp)).alloc (.cells #[.string (quoT x.type)] 9))
  have HKF := Lib.hid ((HKB.out.trans HK2.out.nil).alloc (.cells #[.string (quoT x.type)] 9))
  go_wp2_with fail
  go_ret2
  exact ⟨_, .slice PA x.place.length pc, .slice AA x.attrs.length ac, by rw [HQ.out, ← HD.out] <;> rfl, fun _ => HO.out, HBF.out, HA.out.v, HKF.out⟩
set_option maxRecDepth 100000 in
set_option maxHeartbeats 2000000 in
theorem words_5 (w0 w : World) (B : Nat) (x : StepD) (pv av : Value) (h : FieldAsk w0 w B x pv av) : Calls Tryd.prog 28 #[.pointer (some ⟨B, 0, none⟩), .int .i64 5] w (FieldPost w0 w B 5 x) := by
  obtain ⟨PA, pc, rfl, _⟩ := h.v.1
  obtain ⟨AA, ac, rfl, _⟩ := h.v.2.form
  obtain ⟨a0, a1, a2, a3, a4, a5, a6, a7, a8, a9, a10, a11, a12, a13⟩ := h.blk.step
  have fr := h.blk.free 6
  have hlt := h.blk.lt
  have hne : ¬ B = w.heap.size := by omega
  have hne' : ¬ w.heap.size = B := by omega
  have HA := Lib.hid h
  have HB1 : Hid (Blk ((w.setCell ⟨B, 6, none⟩ (.slice none 0 0)).alloc (.cells (stepC x (.slice PA x.place.length pc) (.slice AA x.attrs.length ac)) 40)) B (stepC (fZ 5 x) (.slice PA x.place.length pc) (.slice none 0 0)) 40) := by
    show Blk _ _ _ _
    have := (h.blk.set 6 (.slice none 0 0)).alloc (.cells (stepC x (.slice PA x.place.length pc) (.slice AA x.attrs.length ac)) 40)
    exact this
  have HY1 : Hid (Blk ((w.setCell ⟨B, 6, none⟩ (.slice none 0 0)).alloc (.cells (stepC x (.slice PA x.place.length pc) (.slice AA x.attrs.length ac)) 40)) w.heap.size (stepC x (.slice PA x.place.length pc) (.slice AA x.attrs.length ac)) 40) := by
    show Blk _ _ _ _
    have := Blk.new (w.setCell ⟨B, 6, none⟩ (.slice none 0 0)) (stepC x (.slice PA x.place.length pc) (.slice AA x.attrs.length ac)) 40
    rwa [show (w.setCell ⟨B, 6, none⟩ (.slice none 0 0)).heap.size = w.heap.size from by simp [World.setCell]] at this
  have HKB : Hid (Kept [B] w ((w.setCell ⟨B, 6, none⟩ (.slice none 0 0)).alloc (.cells (stepC x (.slice PA x.place.length pc) (.slice AA x.attrs.length ac)) 40))) := ((Kept.refl [B] w).setCell (.inl (by simp)) _).alloc _
  obtain ⟨W1, hW1⟩ : ∃ W1, (w.setCell ⟨B, 6, none⟩ (.slice none 0 0)).alloc (.cells (stepC x (.slice PA x.place.length pc) (.slice AA x.attrs.length ac)) 40) = W1 := ⟨_, rfl⟩
  rw [hW1] at HB1 HY1 HKB
  have HK1 := Lib.hid (HA.out.kept HKB.out)
  have HT1 := Lib.hid (HA.out.tab.keep HK1.out)
  have HW1 := Lib.hid hW1
  clear hW1 h
  have HLI : Hid (∀ W, Kept [] w0 W → TabVar W → Calls Tryd.prog 47 #[.slice AA x.attrs.length ac] W (AttrsWPost W x.attrs)) := fun W hk ht => attrs_any (.slice AA x.attrs.length ac) x.attrs W (HA.out.v.2.keep hk) HA.out.sm.alen HA.out.sm.attrs ht
  go_enter Tryd.func28, Tryd.ntmps28
  go_wp2_with fail
  rw [show (w.setCell ⟨B, 6, none⟩ (.slice none 0 0)).alloc (.cells #[.int .i64 x.kind, .string x.text, .slice PA x.place.length pc, .int .i64 x.source, .int .i64 x.time, .string x.type, .slice AA x.attrs.length ac, .int .i64 x.pattern, .int .i64 x.op, .int .i64 x.dest, .int .i64 x.broker, .int .i64 x.number, .int .i64 x.at_, .int .u8 x.wth] 40) = W1 from HW1.out]
  refine (HLI.out _ HK1.out HT1.out).mono ?_
  rintro e w1 ⟨v, rfl, ho, hk1⟩
  have HO : Hid (attrsOk x.attrs = true → OwnS w1 w.heap.size v (attrsW x.attrs)) := fun hh => (ho hh).le HKB.out.size
  have HBF := Lib.hid (HB1.out.kept hk1 (by simp))
  have HKF := Lib.hid (HKB.out.trans hk1.nil)
  have HQ : Hid (fOk 5 x = attrsOk x.attrs) := rfl
  obtain ⟨q, hq⟩ : ∃ q, attrsOk x.attrs = q := ⟨_, rfl⟩
  rw [hq] at HO HQ ⊢
  clear hk1 ho hq
  go_wp2_with fail
  go_ret2
  exact ⟨_, .slice PA x.place.length pc, .slice none 0 0, by rw [HQ.out] <;> rfl, fun hh => HO.out (HQ.out.symm.trans hh), HBF.out, ⟨HA.out.v.1, rdsA_nil _⟩, HKF.out⟩
set_option maxRecDepth 100000 in
set_option maxHeartbeats 2000000 in
theorem words_6 (w0 w : World) (B : Nat) (x : StepD) (pv av : Value) (h : FieldAsk w0 w B x pv av) : Calls Tryd.prog 28 #[.pointer (some ⟨B, 0, none⟩), .int .i64 6] w (FieldPost w0 w B 6 x) := by
  obtain ⟨PA, pc, rfl, _⟩ := h.v.1
  obtain ⟨AA, ac, rfl, _⟩ := h.v.2.form
  obtain ⟨a0, a1, a2, a3, a4, a5, a6, a7, a8, a9, a10, a11, a12, a13⟩ := h.blk.step
  have fr := h.blk.free 7
  have hlt := h.blk.lt
  have hne : ¬ B = w.heap.size := by omega
  have hne' : ¬ w.heap.size = B := by omega
  have HA := Lib.hid h
  have HB1 : Hid (Blk ((w.setCell ⟨B, 7, none⟩ (.int .i64 0)).alloc (.cells (stepC x (.slice PA x.place.length pc) (.slice AA x.attrs.length ac)) 40)) B (stepC (fZ 6 x) (.slice PA x.place.length pc) (.slice AA x.attrs.length ac)) 40) := by
    show Blk _ _ _ _
    have := (h.blk.set 7 (.int .i64 0)).alloc (.cells (stepC x (.slice PA x.place.length pc) (.slice AA x.attrs.length ac)) 40)
    exact this
  have HY1 : Hid (Blk ((w.setCell ⟨B, 7, none⟩ (.int .i64 0)).alloc (.cells (stepC x (.slice PA x.place.length pc) (.slice AA x.attrs.length ac)) 40)) w.heap.size (stepC x (.slice PA x.place.length pc) (.slice AA x.attrs.length ac)) 40) := by
    show Blk _ _ _ _
    have := Blk.new (w.setCell ⟨B, 7, none⟩ (.int .i64 0)) (stepC x (.slice PA x.place.length pc) (.slice AA x.attrs.length ac)) 40
    rwa [show (w.setCell ⟨B, 7, none⟩ (.int .i64 0)).heap.size = w.heap.size from by simp [World.setCell]] at this
  have HKB : Hid (Kept [B] w ((w.setCell ⟨B, 7, none⟩ (.int .i64 0)).alloc (.cells (stepC x (.slice PA x.place.length pc) (.slice AA x.attrs.length ac)) 40))) := ((Kept.refl [B] w).setCell (.inl (by simp)) _).alloc _
  obtain ⟨W1, hW1⟩ : ∃ W1, (w.setCell ⟨B, 7, none⟩ (.int .i64 0)).alloc (.cells (stepC x (.slice PA x.place.length pc) (.slice AA x.attrs.length ac)) 40) = W1 := ⟨_, rfl⟩
  rw [hW1] at HB1 HY1 HKB
  have HK1 := Lib.hid (HA.out.kept HKB.out)
  have HT1 := Lib.hid (HA.out.tab.keep HK1.out)
  have HW1 := Lib.hid hW1
  clear hW1 h
  have HNU : Hid (∀ W, TabVar W → Calls Tryd.prog 22 #[.int .i64 x.pattern] W fun e w' => e = .returned (.string (numT x.pattern)) ∧ Kept [] W w') := fun W ht => num_any x.pattern HA.out.sm.pattern W ht
  go_enter Tryd.func28, Tryd.ntmps28
  go_wp2_with fail
  rw [show (w.setCell ⟨B, 7, none⟩ (.int .i64 0)).alloc (.cells #[.int .i64 x.kind, .string x.text, .slice PA x.place.length pc, .int .i64 x.source, .int .i64 x.time, .string x.type, .slice AA x.attrs.length ac, .int .i64 x.pattern, .int .i64 x.op, .int .i64 x.dest, .int .i64 x.broker, .int .i64 x.number, .int .i64 x.at_, .int .u8 x.wth] 40) = W1 from HW1.out]
  refine (HNU.out _ HT1.out).mono ?_
  rintro e w1 ⟨rfl, hk1⟩
  have HO := Lib.hid (OwnS.lit w1 w.heap.size [numT x.pattern] (Nat.le_trans HKB.out.size hk1.size) (by simp) (by simp [maxLen]))
  have HBF := Lib.hid ((HB1.out.kept hk1 (by simp)).alloc (.cells #[.string (numT x.pattern)] 9))
  have HKF := Lib.hid ((HKB.out.trans hk1.nil).alloc (.cells #[.string (numT x.pattern)] 9))
  clear hk1
  go_wp2_with fail
  go_ret2
  exact ⟨_, .slice PA x.place.length pc, .slice AA x.attrs.length ac, rfl, fun _ => HO.out, HBF.out, HA.out.v, HKF.out⟩
set_option maxRecDepth 100000 in
set_option maxHeartbeats 2000000 in
theorem words_7 (w0 w : World) (B : Nat) (x : StepD) (pv av : Value) (h : FieldAsk w0 w B x pv av) : Calls Tryd.prog 28 #[.pointer (some ⟨B, 0, none⟩), .int .i64 7] w (FieldPost w0 w B 7 x) := by
  obtain ⟨PA, pc, rfl, _⟩ := h.v.1
  obtain ⟨AA, ac, rfl, _⟩ := h.v.2.form
  obtain ⟨a0, a1, a2, a3, a4, a5, a6, a7, a8, a9, a10, a11, a12, a13⟩ := h.blk.step
  have fr := h.blk.free 8
  have hlt := h.blk.lt
  have hne : ¬ B = w.heap.size := by omega
  have hne' : ¬ w.heap.size = B := by omega
  have HA := Lib.hid h
  have HB1 : Hid (Blk ((w.setCell ⟨B, 8, none⟩ (.int .i64 0)).alloc (.cells (stepC x (.slice PA x.place.length pc) (.slice AA x.attrs.length ac)) 40)) B (stepC (fZ 7 x) (.slice PA x.place.length pc) (.slice AA x.attrs.length ac)) 40) := by
    show Blk _ _ _ _
    have := (h.blk.set 8 (.int .i64 0)).alloc (.cells (stepC x (.slice PA x.place.length pc) (.slice AA x.attrs.length ac)) 40)
    exact this
  have HY1 : Hid (Blk ((w.setCell ⟨B, 8, none⟩ (.int .i64 0)).alloc (.cells (stepC x (.slice PA x.place.length pc) (.slice AA x.attrs.length ac)) 40)) w.heap.size (stepC x (.slice PA x.place.length pc) (.slice AA x.attrs.length ac)) 40) := by
    show Blk _ _ _ _
    have := Blk.new (w.setCell ⟨B, 8, none⟩ (.int .i64 0)) (stepC x (.slice PA x.place.length pc) (.slice AA x.attrs.length ac)) 40
    rwa [show (w.setCell ⟨B, 8, none⟩ (.int .i64 0)).heap.size = w.heap.size from by simp [World.setCell]] at this
  have HKB : Hid (Kept [B] w ((w.setCell ⟨B, 8, none⟩ (.int .i64 0)).alloc (.cells (stepC x (.slice PA x.place.length pc) (.slice AA x.attrs.length ac)) 40))) := ((Kept.refl [B] w).setCell (.inl (by simp)) _).alloc _
  obtain ⟨W1, hW1⟩ : ∃ W1, (w.setCell ⟨B, 8, none⟩ (.int .i64 0)).alloc (.cells (stepC x (.slice PA x.place.length pc) (.slice AA x.attrs.length ac)) 40) = W1 := ⟨_, rfl⟩
  rw [hW1] at HB1 HY1 HKB
  have HK1 := Lib.hid (HA.out.kept HKB.out)
  have HT1 := Lib.hid (HA.out.tab.keep HK1.out)
  have HW1 := Lib.hid hW1
  clear hW1 h
  have HNU : Hid (∀ W, TabVar W → Calls Tryd.prog 22 #[.int .i64 x.op] W fun e w' => e = .returned (.string (numT x.op)) ∧ Kept [] W w') := fun W ht => num_any x.op HA.out.sm.op W ht
  go_enter Tryd.func28, Tryd.ntmps28
  go_wp2_with fail
  rw [show (w.setCell ⟨B, 8, none⟩ (.int .i64 0)).alloc (.cells #[.int .i64 x.kind, .string x.text, .slice PA x.place.length pc, .int .i64 x.source, .int .i64 x.time, .string x.type, .slice AA x.attrs.length ac, .int .i64 x.pattern, .int .i64 x.op, .int .i64 x.dest, .int .i64 x.broker, .int .i64 x.number, .int .i64 x.at_, .int .u8 x.wth] 40) = W1 from HW1.out]
  refine (HNU.out _ HT1.out).mono ?_
  rintro e w1 ⟨rfl, hk1⟩
  have HO := Lib.hid (OwnS.lit w1 w.heap.size [numT x.op] (Nat.le_trans HKB.out.size hk1.size) (by simp) (by simp [maxLen]))
  have HBF := Lib.hid ((HB1.out.kept hk1 (by simp)).alloc (.cells #[.string (numT x.op)] 9))
  have HKF := Lib.hid ((HKB.out.trans hk1.nil).alloc (.cells #[.string (numT x.op)] 9))
  clear hk1
  go_wp2_with fail
  go_ret2
  exact ⟨_, .slice PA x.place.length pc, .slice AA x.attrs.length ac, rfl, fun _ => HO.out, HBF.out, HA.out.v, HKF.out⟩
set_option maxRecDepth 100000 in
set_option maxHeartbeats 2000000 in
theorem words_8 (w0 w : World) (B : Nat) (x : StepD) (pv av : Value) (h : FieldAsk w0 w B x pv av) : Calls Tryd.prog 28 #[.pointer (some ⟨B, 0, none⟩), .int .i64 8] w (FieldPost w0 w B 8 x) := by
  obtain ⟨PA, pc, rfl, _⟩ := h.v.1
  obtain ⟨AA, ac, rfl, _⟩ := h.v.2.form
  obtain ⟨a0, a1, a2, a3, a4, a5, a6, a7, a8, a9, a10, a11, a12, a13⟩ := h.blk.step
  have fr := h.blk.free 9
  have hlt := h.blk.lt
  have hne : ¬ B = w.heap.size := by omega
  have hne' : ¬ w.heap.size = B := by omega
  have HA := Lib.hid h
  have HB1 : Hid (Blk ((w.setCell ⟨B, 9, none⟩ (.int .i64 0)).alloc (.cells (stepC x (.slice PA x.place.length pc) (.slice AA x.attrs.length ac)) 40)) B (stepC (fZ 8 x) (.slice PA x.place.length pc) (.slice AA x.attrs.length ac)) 40) := by
    show Blk _ _ _ _
    have := (h.blk.set 9 (.int .i64 0)).alloc (.cells (stepC x (.slice PA x.place.length pc) (.slice AA x.attrs.length ac)) 40)
    exact this
  have HY1 : Hid (Blk ((w.setCell ⟨B, 9, none⟩ (.int .i64 0)).alloc (.cells (stepC x (.slice PA x.place.length pc) (.slice AA x.attrs.length ac)) 40)) w.heap.size (stepC x (.slice PA x.place.length pc) (.slice AA x.attrs.length ac)) 40) := by
    show Blk _ _ _ _
    have := Blk.new (w.setCell ⟨B, 9, none⟩ (.int .i64 0)) (stepC x (.slice PA x.place.length pc) (.slice AA x.attrs.length ac)) 40
    rwa [show (w.setCell ⟨B, 9, none⟩ (.int .i64 0)).heap.size = w.heap.size from by simp [World.setCell]] at this
  have HKB : Hid (Kept [B] w ((w.setCell ⟨B, 9, none⟩ (.int .i64 0)).alloc (.cells (stepC x (.slice PA x.place.length pc) (.slice AA x.attrs.length ac)) 40))) := ((Kept.refl [B] w).setCell (.inl (by simp)) _).alloc _
  obtain ⟨W1, hW1⟩ : ∃ W1, (w.setCell ⟨B, 9, none⟩ (.int .i64 0)).alloc (.cells (stepC x (.slice PA x.place.length pc) (.slice AA x.attrs.length ac)) 40) = W1 := ⟨_, rfl⟩
  rw [hW1] at HB1 HY1 HKB
  have HK1 := Lib.hid (HA.out.kept HKB.out)
  have HT1 := Lib.hid (HA.out.tab.keep HK1.out)
  have HW1 := Lib.hid hW1
  clear hW1 h
  have HNU : Hid (∀ W, TabVar W → Calls Tryd.prog 22 #[.int .i64 x.dest] W fun e w' => e = .returned (.string (numT x.dest)) ∧ Kept [] W w') := fun W ht => num_any x.dest HA.out.sm.dest W ht
  go_enter Tryd.func28, Tryd.ntmps28
  go_wp2_with fail
  rw [show (w.setCell ⟨B, 9, none⟩ (.int .i64 0)).alloc (.cells #[.int .i64 x.kind, .string x.text, .slice PA x.place.length pc, .int .i64 x.source, .int .i64 x.time, .string x.type, .slice AA x.attrs.length ac, .int .i64 x.pattern, .int .i64 x.op, .int .i64 x.dest, .int .i64 x.broker, .int .i64 x.number, .int .i64 x.at_, .int .u8 x.wth] 40) = W1 from HW1.out]
  refine (HNU.out _ HT1.out).mono ?_
  rintro e w1 ⟨rfl, hk1⟩
  have HO := Lib.hid (OwnS.lit w1 w.heap.size [numT x.dest] (Nat.le_trans HKB.out.size hk1.size) (by simp) (by simp [maxLen]))
  have HBF := Lib.hid ((HB1.out.kept hk1 (by simp)).alloc (.cells #[.string (numT x.dest)] 9))
  have HKF := Lib.hid ((HKB.out.trans hk1.nil).alloc (.cells #[.string (numT x.dest)] 9))
  clear hk1
  go_wp2_with fail
  go_ret2
  exact ⟨_, .slice PA x.place.length pc, .slice AA x.attrs.length ac, rfl, fun _ => HO.out, HBF.out, HA.out.v, HKF.out⟩
set_option maxRecDepth 100000 in
set_option maxHeartbeats 2000000 in
theorem words_9 (w0 w : World) (B : Nat) (x : StepD) (pv av : Value) (h : FieldAsk w0 w B x pv av) : Calls Tryd.prog 28 #[.pointer (some ⟨B, 0, none⟩), .int .i64 9] w (FieldPost w0 w B 9 x) := by
  obtain ⟨PA, pc, rfl, _⟩ := h.v.1
  obtain ⟨AA, ac, rfl, _⟩ := h.v.2.form
  obtain ⟨a0, a1, a2, a3, a4, a5, a6, a7, a8, a9, a10, a11, a12, a13⟩ := h.blk.step
  have fr := h.blk.free 10
  have hlt := h.blk.lt
  have hne : ¬ B = w.heap.size := by omega
  have hne' : ¬ w.heap.size = B := by omega
  have HA := Lib.hid h
  have HB1 : Hid (Blk ((w.setCell ⟨B, 10, none⟩ (.int .i64 0)).alloc (.cells (stepC x (.slice PA x.place.length pc) (.slice AA x.attrs.length ac)) 40)) B (stepC (fZ 9 x) (.slice PA x.place.length pc) (.slice AA x.attrs.length ac)) 40) := by
    show Blk _ _ _ _
    have := (h.blk.set 10 (.int .i64 0)).alloc (.cells (stepC x (.slice PA x.place.length pc) (.slice AA x.attrs.length ac)) 40)
    exact this
  have HY1 : Hid (Blk ((w.setCell ⟨B, 10, none⟩ (.int .i64 0)).alloc (.cells (stepC x (.slice PA x.place.length pc) (.slice AA x.attrs.length ac)) 40)) w.heap.size (stepC x (.slice PA x.place.length pc) (.slice AA x.attrs.length ac)) 40) := by
    show Blk _ _ _ _
    have := Blk.new (w.setCell ⟨B, 10, none⟩ (.int .i64 0)) (stepC x (.slice PA x.place.length pc) (.slice AA x.attrs.length ac)) 40
    rwa [show (w.setCell ⟨B, 10, none⟩ (.int .i64 0)).heap.size = w.heap.size from by simp [World.setCell]] at this
  have HKB : Hid (Kept [B] w ((w.setCell ⟨B, 10, none⟩ (.int .i64 0)).alloc (.cells (stepC x (.slice PA x.place.length pc) (.slice AA x.attrs.length ac)) 40))) := ((Kept.refl [B] w).setCell (.inl (by simp)) _).alloc _
  obtain ⟨W1, hW1⟩ : ∃ W1, (w.setCell ⟨B, 10, none⟩ (.int .i64 0)).alloc (.cells (stepC x (.slice PA x.place.length pc) (.slice AA x.attrs.length ac)) 40) = W1 := ⟨_, rfl⟩
  rw [hW1] at HB1 HY1 HKB
  have HK1 := Lib.hid (HA.out.kept HKB.out)
  have HT1 := Lib.hid (HA.out.tab.keep HK1.out)
  have HW1 := Lib.hid hW1
  clear hW1 h
  have HNU : Hid (∀ W, TabVar W → Calls Tryd.prog 22 #[.int .i64 x.broker] W fun e w' => e = .returned (.string (numT x.broker)) ∧ Kept [] W w') := fun W ht => num_any x.broker HA.out.sm.broker W ht
  go_enter Tryd.func28, Tryd.ntmps28
  go_wp2_with fail
  rw [show (w.setCell ⟨B, 10, none⟩ (.int .i64 0)).alloc (.cells #[.int .i64 x.kind, .string x.text, .slice PA x.place.length pc, .int .i64 x.source, .int .i64 x.time, .string x.type, .slice AA x.attrs.length ac, .int .i64 x.pattern, .int .i64 x.op, .int .i64 x.dest, .int .i64 x.broker, .int .i64 x.number, .int .i64 x.at_, .int .u8 x.wth] 40) = W1 from HW1.out]
  refine (HNU.out _ HT1.out).mono ?_
  rintro e w1 ⟨rfl, hk1⟩
  have HO := Lib.hid (OwnS.lit w1 w.heap.size [numT x.broker] (Nat.le_trans HKB.out.size hk1.size) (by simp) (by simp [maxLen]))
  have HBF := Lib.hid ((HB1.out.kept hk1 (by simp)).alloc (.cells #[.string (numT x.broker)] 9))
  have HKF := Lib.hid ((HKB.out.trans hk1.nil).alloc (.cells #[.string (numT x.broker)] 9))
  clear hk1
  go_wp2_with fail
  go_ret2
  exact ⟨_, .slice PA x.place.length pc, .slice AA x.attrs.length ac, rfl, fun _ => HO.out, HBF.out, HA.out.v, HKF.out⟩
set_option maxRecDepth 100000 in
set_option maxHeartbeats 2000000 in
theorem words_10 (w0 w : World) (B : Nat) (x : StepD) (pv av : Value) (h : FieldAsk w0 w B x pv av) : Calls Tryd.prog 28 #[.pointer (some ⟨B, 0, none⟩), .int .i64 10] w (FieldPost w0 w B 10 x) := by
  obtain ⟨PA, pc, rfl, _⟩ := h.v.1
  obtain ⟨AA, ac, rfl, _⟩ := h.v.2.form
  obtain ⟨a0, a1, a2, a3, a4, a5, a6, a7, a8, a9, a10, a11, a12, a13⟩ := h.blk.step
  have fr := h.blk.free 11
  have hlt := h.blk.lt
  have hne : ¬ B = w.heap.size := by omega
  have hne' : ¬ w.heap.size = B := by omega
  have HA := Lib.hid h
  have HB1 : Hid (Blk ((w.setCell ⟨B, 11, none⟩ (.int .i64 0)).alloc (.cells (stepC x (.slice PA x.place.length pc) (.slice AA x.attrs.length ac)) 40)) B (stepC (fZ 10 x) (.slice PA x.place.length pc) (.slice AA x.attrs.length ac)) 40) := by
    show Blk _ _ _ _
    have := (h.blk.set 11 (.int .i64 0)).alloc (.cells (stepC x (.slice PA x.place.length pc) (.slice AA x.attrs.length ac)) 40)
    exact this
  have HY1 : Hid (Blk ((w.setCell ⟨B, 11, none⟩ (.int .i64 0)).alloc (.cells (stepC x (.slice PA x.place.length pc) (.slice AA x.attrs.length ac)) 40)) w.heap.size (stepC x (.slice PA x.place.length pc) (.slice AA x.attrs.length ac)) 40) := by
    show Blk _ _ _ _
    have := Blk.new (w.setCell ⟨B, 11, none⟩ (.int .i64 0)) (stepC x (.slice PA x.place.length pc) (.slice AA x.attrs.length ac)) 40
    rwa [show (w.setCell ⟨B, 11, none⟩ (.int .i64 0)).heap.size = w.heap.size from by simp [World.setCell]] at this
  have HKB : Hid (Kept [B] w ((w.setCell ⟨B, 11, none⟩ (.int .i64 0)).alloc (.cells (stepC x (.slice PA x.place.length pc) (.slice AA x.attrs.length ac)) 40))) := ((Kept.refl [B] w).setCell (.inl (by simp)) _).alloc _
  obtain ⟨W1, hW1⟩ : ∃ W1, (w.setCell ⟨B, 11, none⟩ (.int .i64 0)).alloc (.cells (stepC x (.slice PA x.place.length pc) (.slice AA x.attrs.length ac)) 40) = W1 := ⟨_, rfl⟩
  rw [hW1] at HB1 HY1 HKB
  have HK1 := Lib.hid (HA.out.kept HKB.out)
  have HT1 := Lib.hid (HA.out.tab.keep HK1.out)
  have HW1 := Lib.hid hW1
  clear hW1 h
  have HNU : Hid (∀ W, TabVar W → Calls Tryd.prog 46 #[.int .i64 x.number] W fun e w' => e = .returned (.string (numT x.number)) ∧ Kept [] W w') := fun W ht => num64_any x.number HA.out.sm.number W ht
  go_enter Tryd.func28, Tryd.ntmps28
  go_wp2_with fail
  rw [show (w.setCell ⟨B, 11, none⟩ (.int .i64 0)).alloc (.cells #[.int .i64 x.kind, .string x.text, .slice PA x.place.length pc, .int .i64 x.source, .int .i64 x.time, .string x.type, .slice AA x.attrs.length ac, .int .i64 x.pattern, .int .i64 x.op, .int .i64 x.dest, .int .i64 x.broker, .int .i64 x.number, .int .i64 x.at_, .int .u8 x.wth] 40) = W1 from HW1.out]
  refine (HNU.out _ HT1.out).mono ?_
  rintro e w1 ⟨rfl, hk1⟩
  have HO := Lib.hid (OwnS.lit w1 w.heap.size [numT x.number] (Nat.le_trans HKB.out.size hk1.size) (by simp) (by simp [maxLen]))
  have HBF := Lib.hid ((HB1.out.kept hk1 (by simp)).alloc (.cells #[.string (numT x.number)] 9))
  have HKF := Lib.hid ((HKB.out.trans hk1.nil).alloc (.cells #[.string (numT x.number)] 9))
  clear hk1
  go_wp2_with fail
  go_ret2
  exact ⟨_, .slice PA x.place.length pc, .slice AA x.attrs.length ac, rfl, fun _ => HO.out, HBF.out, HA.out.v, HKF.out⟩
set_option maxRecDepth 100000 in
set_option maxHeartbeats 2000000 in
theorem words_11 (w0 w : World) (B : Nat) (x : StepD) (pv av : Value) (h : FieldAsk w0 w B x pv av) : Calls Tryd.prog 28 #[.pointer (some ⟨B, 0, none⟩), .int .i64 11] w (FieldPost w0 w B 11 x) := by
  obtain ⟨PA, pc, rfl, _⟩ := h.v.1
  obtain ⟨AA, ac, rfl, _⟩ := h.v.2.form
  obtain ⟨a0, a1, a2, a3, a4, a5, a6, a7, a8, a9, a10, a11, a12, a13⟩ := h.blk.step
  have fr := h.blk.free 12
  have hlt := h.blk.lt
  have hne : ¬ B = w.heap.size := by omega
  have hne' : ¬ w.heap.size = B := by omega
  have HA := Lib.hid h
  have HB1 : Hid (Blk ((w.setCell ⟨B, 12, none⟩ (.int .i64 0)).alloc (.cells (stepC x (.slice PA x.place.length pc) (.slice AA x.attrs.length ac)) 40)) B (stepC (fZ 11 x) (.slice PA x.place.length pc) (.slice AA x.attrs.length ac)) 40) := by
    show Blk _ _ _ _
    have := (h.blk.set 12 (.int .i64 0)).alloc (.cells (stepC x (.slice PA x.place.length pc) (.slice AA x.attrs.length ac)) 40)
    exact this
  have HY1 : Hid (Blk ((w.setCell ⟨B, 12, none⟩ (.int .i64 0)).alloc (.cells (stepC x (.slice PA x.place.length pc) (.slice AA x.attrs.length ac)) 40)) w.heap.size (stepC x (.slice PA x.place.length pc) (.slice AA x.attrs.length ac)) 40) := by
    show Blk _ _ _ _
    have := Blk.new (w.setCell ⟨B, 12, none⟩ (.int .i64 0)) (stepC x (.slice PA x.place.length pc) (.slice AA x.attrs.length ac)) 40
    rwa [show (w.setCell ⟨B, 12, none⟩ (.int .i64 0)).heap.size = w.heap.size from by simp [World.setCell]] at this
  have HKB : Hid (Kept [B] w ((w.setCell ⟨B, 12, none⟩ (.int .i64 0)).alloc (.cells (stepC x (.slice PA x.place.length pc) (.slice AA x.attrs.length ac)) 40))) := ((Kept.refl [B] w).setCell (.inl (by simp)) _).alloc _
  obtain ⟨W1, hW1⟩ : ∃ W1, (w.setCell ⟨B, 12, none⟩ (.int .i64 0)).alloc (.cells (stepC x (.slice PA x.place.length pc) (.slice AA x.attrs.length ac)) 40) = W1 := ⟨_, rfl⟩
  rw [hW1] at HB1 HY1 HKB
  have HK1 := Lib.hid (HA.out.kept HKB.out)
  have HT1 := Lib.hid (HA.out.tab.keep HK1.out)
  have HW1 := Lib.hid hW1
  clear hW1 h
  have HNU : Hid (∀ W, TabVar W → Calls Tryd.prog 22 #[.int .i64 x.at_] W fun e w' => e = .returned (.string (numT x.at_)) ∧ Kept [] W w') := fun W ht => num_any x.at_ HA.out.sm.at_ W ht
  go_enter Tryd.func28, Tryd.ntmps28
  go_wp2_with fail
  rw [show (w.setCell ⟨B, 12, none⟩ (.int .i64 0)).alloc (.cells #[.int .i64 x.kind, .string x.text, .slice PA x.place.length pc, .int .i64 x.source, .int .i64 x.time, .string x.type, .slice AA x.attrs.length ac, .int .i64 x.pattern, .int .i64 x.op, .int .i64 x.dest, .int .i64 x.broker, .int .i64 x.number, .int .i64 x.at_, .int .u8 x.wth] 40) = W1 from HW1.out]
  refine (HNU.out _ HT1.out).mono ?_
  rintro e w1 ⟨rfl, hk1⟩
  have HO := Lib.hid (OwnS.lit w1 w.heap.size [numT x.at_] (Nat.le_trans HKB.out.size hk1.size) (by simp) (by simp [maxLen]))
  have HBF := Lib.hid ((HB1.out.kept hk1 (by simp)).alloc (.cells #[.string (numT x.at_)] 9))
  have HKF := Lib.hid ((HKB.out.trans hk1.nil).alloc (.cells #[.string (numT x.at_)] 9))
  clear hk1
  go_wp2_with fail
  go_ret2
  exact ⟨_, .slice PA x.place.length pc, .slice AA x.attrs.length ac, rfl, fun _ => HO.out, HBF.out, HA.out.v, HKF.out⟩
set_option maxRecDepth 100000 in
set_option maxHeartbeats 2000000 in
theorem words_12 (w0 w : World) (B : Nat) (x : StepD) (pv av : Value) (h : FieldAsk w0 w B x pv av) : Calls Tryd.prog 28 #[.pointer (some ⟨B, 0, none⟩), .int .i64 12] w (FieldPost w0 w B 12 x) := by
  obtain ⟨PA, pc, rfl, _⟩ := h.v.1
  obtain ⟨AA, ac, rfl, _⟩ := h.v.2.form
  obtain ⟨a0, a1, a2, a3, a4, a5, a6, a7, a8, a9, a10, a11, a12, a13⟩ := h.blk.step
  have fr := h.blk.free 13
  have hlt := h.blk.lt
  have hne : ¬ B = w.heap.size := by omega
  have hne' : ¬ w.heap.size = B := by omega
  have HA := Lib.hid h
  have HB1 : Hid (Blk ((w.setCell ⟨B, 13, none⟩ (.int .u8 0)).alloc (.cells (stepC x (.slice PA x.place.length pc) (.slice AA x.attrs.length ac)) 40)) B (stepC (fZ 12 x) (.slice PA x.place.length pc) (.slice AA x.attrs.length ac)) 40) := by
    show Blk _ _ _ _
    have := (h.blk.set 13 (.int .u8 0)).alloc (.cells (stepC x (.slice PA x.place.length pc) (.slice AA x.attrs.length ac)) 40)
    exact this
  have HY1 : Hid (Blk ((w.setCell ⟨B, 13, none⟩ (.int .u8 0)).alloc (.cells (stepC x (.slice PA x.place.length pc) (.slice AA x.attrs.length ac)) 40)) w.heap.size (stepC x (.slice PA x.place.length pc) (.slice AA x.attrs.length ac)) 40) := by
    show Blk _ _ _ _
    have := Blk.new (w.setCell ⟨B, 13, none⟩ (.int .u8 0)) (stepC x (.slice PA x.place.length pc) (.slice AA x.attrs.length ac)) 40
    rwa [show (w.setCell ⟨B, 13, none⟩ (.int .u8 0)).heap.size = w.heap.size from by simp [World.setCell]] at this
  have HKB : Hid (Kept [B] w ((w.setCell ⟨B, 13, none⟩ (.int .u8 0)).alloc (.cells (stepC x (.slice PA x.place.length pc) (.slice AA x.attrs.length ac)) 40))) := ((Kept.refl [B] w).setCell (.inl (by simp)) _).alloc _
  obtain ⟨W1, hW1⟩ : ∃ W1, (w.setCell ⟨B, 13, none⟩ (.int .u8 0)).alloc (.cells (stepC x (.slice PA x.place.length pc) (.slice AA x.attrs.length ac)) 40) = W1 := ⟨_, rfl⟩
  rw [hW1] at HB1 HY1 HKB
  have HK1 := Lib.hid (HA.out.kept HKB.out)
  have HT1 := Lib.hid (HA.out.tab.keep HK1.out)
  have HW1 := Lib.hid hW1
  clear hW1 h
  have hwr : IntKind.i64.wrap x.wth = x.wth := by have := HA.out.sm.wth; unfold IntKind.wrap; simp [IntKind.signed, IntKind.bits]; omega
  have HNU : Hid (∀ W, TabVar W → Calls Tryd.prog 22 #[.int .i64 x.wth] W fun e w' => e = .returned (.string (numT x.wth)) ∧ Kept [] W w') := fun W ht => num_any x.wth ⟨by have := HA.out.sm.wth; omega, by have := HA.out.sm.wth; omega⟩ W ht
  go_enter Tryd.func28, Tryd.ntmps28
  go_wp2_with fail
  rw [show (w.setCell ⟨B, 13, none⟩ (.int .u8 0)).alloc (.cells #[.int .i64 x.kind, .string x.text, .slice PA x.place.length pc, .int .i64 x.source, .int .i64 x.time, .string x.type, .slice AA x.attrs.length ac, .int .i64 x.pattern, .int .i64 x.op, .int .i64 x.dest, .int .i64 x.broker, .int .i64 x.number, .int .i64 x.at_, .int .u8 x.wth] 40) = W1 from HW1.out]
  refine (HNU.out _ HT1.out).mono ?_
  rintro e w1 ⟨rfl, hk1⟩
  have HO := Lib.hid (OwnS.lit w1 w.heap.size [numT x.wth] (Nat.le_trans HKB.out.size hk1.size) (by simp) (by simp [maxLen]))
  have HBF := Lib.hid ((HB1.out.kept hk1 (by simp)).alloc (.cells #[.string (numT x.wth)] 9))
  have HKF := Lib.hid ((HKB.out.trans hk1.nil).alloc (.cells #[.string (numT x.wth)] 9))
  clear hk1
  go_wp2_with fail
  go_ret2
  exact ⟨_, .slice PA x.place.length pc, .slice AA x.attrs.length ac, rfl, fun _ => HO.out, HBF.out, HA.out.v, HKF.out⟩
theorem words_any (f : Nat) (hf : f ≤ 12) (w0 w : World) (B : Nat) (x : StepD) (pv av : Value) (h : FieldAsk w0 w B x pv av) : Calls Tryd.prog 28 #[.pointer (some ⟨B, 0, none⟩), .int .i64 f] w (FieldPost w0 w B f x) := by
  have hc : f = 0 ∨ f = 1 ∨ f = 2 ∨ f = 3 ∨ f = 4 ∨ f = 5 ∨ f = 6 ∨ f = 7 ∨ f = 8 ∨ f = 9 ∨ f = 10 ∨ f = 11 ∨ f = 12 := by omega
  rcases hc with rfl | rfl | rfl | rfl | rfl | rfl | rfl | rfl | rfl | rfl | rfl | rfl | rfl
  · exact words_0 w0 w B x pv av h
  · exact words_1 w0 w B x pv av h
  · exact words_2 w0 w B x pv av h
  · exact words_3 w0 w B x pv av h
  · exact words_4 w0 w B x pv av h
  · exact words_5 w0 w B x pv av h
  · exact words_6 w0 w B x pv av h
  · exact words_7 w0 w B x pv av h
  · exact words_8 w0 w B x pv av h
  · exact words_9 w0 w B x pv av h
  · exact words_10 w0 w B x pv av h
  · exact words_11 w0 w B x pv av h
  · exact words_12 w0 w B x pv av h

end Go.Proofs.YthgenobbpaclhaaDoor

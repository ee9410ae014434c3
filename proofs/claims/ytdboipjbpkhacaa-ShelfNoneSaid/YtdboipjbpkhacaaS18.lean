/- does: an operation with both. -/
import Derived.Test.YtdboipjbpkhacaaS17
import Derived.Deep.RegionHeld3
set_option linter.unusedVariables false
set_option linter.unusedSimpArgs false
set_option linter.unnecessarySimpa false
namespace Go.Proofs.Ytdboipjbpkhacaa
open Go.RowKit Go.Shelf

def SPost (w : World) (F : List Nat) (b : Nat) (m : Int) (L' : List Th) (K : Int) (e : Ending) (w' : World) : Prop :=
  e = .returned (.int .i64 K) ∧ Kept F w w' ∧ ∃ F', Sh w' F' b m L' ∧ ∀ z ∈ F', z ∈ F ∨ w.heap.size ≤ z
def RPost (w : World) (F : List Nat) (b : Nat) (m : Int) (L' : List Th) (K : Int) (e : Ending) (w' : World) : Prop :=
  e = .returned (.int .i64 K) ∧ Kept F w w' ∧ ∃ F', RSh w' F' b m L' ∧ ∀ z ∈ F', z ∈ F ∨ w.heap.size ≤ z
theorem Sh.mem {w : World} {F : List Nat} {b : Nat} {m : Int} {L : List Th} (h : Sh w F b m L) : b ∈ F := by obtain ⟨_, _, _, lv, _, _, hFF, _⟩ := h; simp [hFF]
theorem RSh.mem {w : World} {F : List Nat} {b : Nat} {m : Int} {L : List Th} (h : RSh w F b m L) : b ∈ F := by obtain ⟨_, _, _, lv, _, _, hFF, _⟩ := h; simp [hFF]
theorem TakePost.s {w : World} {F : List Nat} {b : Nat} {m : Int} {L L' : List Th} {e : Ending} {w' : World} (h : TakePost w b m L L' e w') (hb : b ∈ F) : SPost w F b m L' ((L.length : Int) - (L'.length : Int)) e w' := by
  obtain ⟨h1, h2, F', h3, h4⟩ := h
  exact ⟨h1, h2.mono (by simpa using hb), F', h3, fun z hz => (h4 z hz).imp (fun h => by rw [h]; exact hb) id⟩
theorem RTakePost.s {w : World} {F : List Nat} {b : Nat} {m : Int} {L L' : List Th} {e : Ending} {w' : World} (h : RTakePost w b m L L' e w') (hb : b ∈ F) : RPost w F b m L' ((L.length : Int) - (L'.length : Int)) e w' := by
  obtain ⟨h1, h2, F', h3, h4⟩ := h
  exact ⟨h1, h2.mono (by simpa using hb), F', h3, fun z hz => (h4 z hz).imp (fun h => by rw [h]; exact hb) id⟩

theorem drawn_kept {S : List Nat} {w w' : World} {n : Nat} (h : Go.Proofs.Ytdboipjbpkhacaa.Kept S (w.drewN n) w') : Kept S w w' := ⟨h.os, h.tape, h.output, h.size, h.block⟩
theorem drawn_one {S : List Nat} {w w' : World} (h : Go.Proofs.Ytdboipjbpkhacaa.Kept S w.drew w') : Kept S w w' := ⟨h.os, h.tape, h.output, h.size, h.block⟩

def DoesPost (w : World) (F G : List Nat) (sb rb : Nat) (m : Int) (L' : List Th) (e : Ending) (w' : World) : Prop :=
  e = .returned (.bool true) ∧ Kept (F ++ G) w w' ∧ ∃ F' G', Sh w' F' sb m L' ∧ RSh w' G' rb m L' ∧ (∀ z ∈ F', z ∈ F ∨ w.heap.size ≤ z) ∧ (∀ z ∈ G', z ∈ G ∨ w.heap.size ≤ z) ∧ (∀ z ∈ F', z ∉ G')

theorem does_a {w W0 wA wD : World} {F G FA GD : List Nat} {sb rb : Nat} {m : Int} {L' : List Th} (hk0 : Kept [] w W0) (hF : ∀ z ∈ F, z < w.heap.size) (hG : ∀ z ∈ G, z < w.heap.size) (hd : ∀ z ∈ F, z ∉ G)
    (hkA : Kept F W0 wA) (hsA : Sh wA FA sb m L') (hFA : ∀ z ∈ FA, z ∈ F ∨ W0.heap.size ≤ z) (hkD : Kept G wA wD) (hrD : RSh wD GD rb m L') (hGD : ∀ z ∈ GD, z ∈ G ∨ wA.heap.size ≤ z) : DoesPost w F G sb rb m L' (.returned (.bool true)) wD := by
  have h0 := hk0.size
  have hA := hkA.size
  have hFG : ∀ z ∈ FA, z ∉ G := fun z hz hzG => by
    rcases hFA z hz with h | h
    · exact hd z h hzG
    · have := hG z hzG; omega
  refine ⟨rfl, (hk0.nil).trans ((hkA.mono (by intro z hz; simp [hz])).trans (hkD.mono (by intro z hz; simp [hz]))), FA, GD, hsA.kept hkD hFG, hrD, fun z hz => (hFA z hz).imp id (fun h => by omega), fun z hz => (hGD z hz).imp id (fun h => by omega), fun z hz hzD => ?_⟩
  rcases hGD z hzD with h | h
  · exact hFG z hz h
  · have := hsA.lt z hz; omega
theorem does_b {w W0 wB wC : World} {F G FC GB : List Nat} {sb rb : Nat} {m : Int} {L' : List Th} (hk0 : Kept [] w W0) (hF : ∀ z ∈ F, z < w.heap.size) (hG : ∀ z ∈ G, z < w.heap.size) (hd : ∀ z ∈ F, z ∉ G)
    (hkB : Kept G W0 wB) (hrB : RSh wB GB rb m L') (hGB : ∀ z ∈ GB, z ∈ G ∨ W0.heap.size ≤ z) (hkC : Kept F wB wC) (hsC : Sh wC FC sb m L') (hFC : ∀ z ∈ FC, z ∈ F ∨ wB.heap.size ≤ z) : DoesPost w F G sb rb m L' (.returned (.bool true)) wC := by
  have h0 := hk0.size
  have hA := hkB.size
  have hFG : ∀ z ∈ GB, z ∉ F := fun z hz hzG => by
    rcases hGB z hz with h | h
    · exact hd z hzG h
    · have := hF z hzG; omega
  refine ⟨rfl, (hk0.nil).trans ((hkB.mono (by intro z hz; simp [hz])).trans (hkC.mono (by intro z hz; simp [hz]))), FC, GB, hsC, hrB.kept hkC hFG, fun z hz => (hFC z hz).imp id (fun h => by omega), fun z hz => (hGB z hz).imp id (fun h => by omega), fun z hz hzB => ?_⟩
  rcases hFC z hz with h | h
  · exact hFG z hzB h
  · have := hrB.lt z hzB; omega

def doL (m : Int) (L : List Th) (o : Opn) : List Th :=
  if o.1 = 0 then putL m L (o.2.1.1, o.2.1.2, o.2.2.1) else if o.1 = 1 then leftOf (below o.2.2.2) L else if o.1 = 2 then leftOf (textIs o.2.2.1) L else L


set_option maxRecDepth 100000 in
set_option maxHeartbeats 4000000 in
theorem does_put (F G : List Nat) (sb rb : Nat) (m : Int) (L : List Th) (d x1 x2 : Int) (xt : ByteArray) (at' : Int) (w : World) (hs : Sh w F sb m L) (hr : RSh w G rb m L) (hd : ∀ z ∈ F, z ∉ G) (hc : d = 0) :
    Calls Try.prog 14 #[.pointer (some ⟨sb, 0, none⟩), .pointer (some ⟨rb, 0, none⟩), .agg #[.int .i64 d, .int .i64 x1, .int .i64 x2, .string xt, .int .i64 at']] w (DoesPost w F G sb rb m (putL m L (x1, x2, xt))) := by
  subst hc
  have hF := hs.lt
  have hG := hr.lt
  have hk0 := (Kept.refl [] w).alloc (.cells #[.int .i64 0, .int .i64 x1, .int .i64 x2, .string xt, .int .i64 at'] 31)
  have hs0 := hs.keep hk0
  have hr0 := hr.keep hk0
  have bo := Blk.new w #[.int .i64 0, .int .i64 x1, .int .i64 x2, .string xt, .int .i64 at'] 31
  have o1 : (w.alloc (.cells #[.int .i64 0, .int .i64 x1, .int .i64 x2, .string xt, .int .i64 at'] 31)).cell? ⟨w.heap.size, 1, none⟩ = some (.int .i64 x1) := bo.cell 1
  have o2 : (w.alloc (.cells #[.int .i64 0, .int .i64 x1, .int .i64 x2, .string xt, .int .i64 at'] 31)).cell? ⟨w.heap.size, 2, none⟩ = some (.int .i64 x2) := bo.cell 2
  have o3 : (w.alloc (.cells #[.int .i64 0, .int .i64 x1, .int .i64 x2, .string xt, .int .i64 at'] 31)).cell? ⟨w.heap.size, 3, none⟩ = some (.string xt) := bo.cell 3
  have o4 : (w.alloc (.cells #[.int .i64 0, .int .i64 x1, .int .i64 x2, .string xt, .int .i64 at'] 31)).cell? ⟨w.heap.size, 4, none⟩ = some (.int .i64 at') := bo.cell 4
  have hfs : ∀ z ∈ F, z ≠ w.heap.size := fun z hz => by have := hF z hz; omega
  have hgs : ∀ z ∈ G, z ≠ w.heap.size := fun z hz => by have := hG z hz; omega
  have hobF : w.heap.size ∉ F := fun h => hfs _ h rfl
  have hobG : w.heap.size ∉ G := fun h => hgs _ h rfl
  have hd2 : ∀ z ∈ G, z ∉ F := fun z hz hzF => hd z hzF hz
  have SC : ∀ (W : World), Sh W F sb m L → Calls Try.prog 8 #[.pointer (some ⟨sb, 0, none⟩), .agg #[.int .i64 x1, .int .i64 x2], .string xt] W (SPost W F sb m (putL m L (x1, x2, xt)) (putE m L (x1, x2, xt))) := fun W hW => put_any F sb m L (x1, x2, xt) W hW
  have RC : ∀ (W : World), RSh W G rb m L → Calls Try.prog 33 #[.pointer (some ⟨rb, 0, none⟩), .agg #[.int .i64 x1, .int .i64 x2], .string xt] W (RPost W G rb m (putL m L (x1, x2, xt)) (putE m L (x1, x2, xt))) := fun W hW => rput_any G rb m L (x1, x2, xt) W hW
  obtain ⟨K, hK⟩ : ∃ K, putE m L (x1, x2, xt) = K := ⟨_, rfl⟩
  obtain ⟨L', hL'⟩ : ∃ L', putL m L (x1, x2, xt) = L' := ⟨_, rfl⟩
  rw [hK, hL'] at SC RC
  rw [hL']
  have hq : (K == K) = true := by simp
  have HSC := Lib.hid SC
  have HRC := Lib.hid RC
  have HF := Lib.hid hF
  have HG := Lib.hid hG
  have HD := Lib.hid hd
  have HD2 := Lib.hid hd2
  have HOF := Lib.hid hobF
  have HOG := Lib.hid hobG
  have HS0 := Lib.hid hs0
  have HR0 := Lib.hid hr0
  have HK0 := Lib.hid hk0
  clear hK hL' SC RC hF hG hd hd2 hobF hobG hfs hgs hs hr bo hs0 hr0 hk0
  obtain ⟨ob, hob⟩ : ∃ ob, w.heap.size = ob := ⟨_, rfl⟩
  have HOB := Lib.hid hob
  clear hob
  go_enter Try.func14, Try.ntmps14
  go_wp2_with fail
  go_region_held3 (fun w' => w'.cell? ⟨w.heap.size, 1, none⟩ = some (.int .i64 x1) ∧ w'.cell? ⟨w.heap.size, 2, none⟩ = some (.int .i64 x2) ∧ w'.cell? ⟨w.heap.size, 3, none⟩ = some (.string xt) ∧ w'.cell? ⟨w.heap.size, 4, none⟩ = some (.int .i64 at')) (first | exact ⟨o1, o2, o3, o4⟩ | exact hSA | exact hSB | exact hSC | exact hSD) (first
    | (go_at_call 8; refine (HSC.out _ (by exact HS0.out)).mono ?_; rintro e wA ⟨rfl, hkA', FA, hsA, hFA⟩; have hkA := (by first | exact drawn_kept hkA' | exact drawn_one hkA' | exact hkA' : Kept F _ _); clear hkA'; have hrA := RSh.kept HR0.out hkA HD2.out; have hSA : wA.cell? ⟨w.heap.size, 1, none⟩ = some (.int .i64 x1) ∧ wA.cell? ⟨w.heap.size, 2, none⟩ = some (.int .i64 x2) ∧ wA.cell? ⟨w.heap.size, 3, none⟩ = some (.string xt) ∧ wA.cell? ⟨w.heap.size, 4, none⟩ = some (.int .i64 at') := ⟨hkA.cell HOF.out o1, hkA.cell HOF.out o2, hkA.cell HOF.out o3, hkA.cell HOF.out o4⟩)
    | (go_at_call 8; refine (HSC.out _ (by exact hsB)).mono ?_; rintro e wC ⟨rfl, hkC', FC, hsC, hFC⟩; have hkC := (by first | exact drawn_kept hkC' | exact drawn_one hkC' | exact hkC' : Kept F _ _); clear hkC'; have hSC : wC.cell? ⟨w.heap.size, 1, none⟩ = some (.int .i64 x1) ∧ wC.cell? ⟨w.heap.size, 2, none⟩ = some (.int .i64 x2) ∧ wC.cell? ⟨w.heap.size, 3, none⟩ = some (.string xt) ∧ wC.cell? ⟨w.heap.size, 4, none⟩ = some (.int .i64 at') := ⟨hkC.cell HOF.out hSB.1, hkC.cell HOF.out hSB.2.1, hkC.cell HOF.out hSB.2.2.1, hkC.cell HOF.out hSB.2.2.2⟩)
    | (go_at_call 33; refine (HRC.out _ (by exact HR0.out)).mono ?_; rintro e wB ⟨rfl, hkB', GB, hrB, hGB⟩; have hkB := (by first | exact drawn_kept hkB' | exact drawn_one hkB' | exact hkB' : Kept G _ _); clear hkB'; have hsB := Sh.kept HS0.out hkB HD.out; have hSB : wB.cell? ⟨w.heap.size, 1, none⟩ = some (.int .i64 x1) ∧ wB.cell? ⟨w.heap.size, 2, none⟩ = some (.int .i64 x2) ∧ wB.cell? ⟨w.heap.size, 3, none⟩ = some (.string xt) ∧ wB.cell? ⟨w.heap.size, 4, none⟩ = some (.int .i64 at') := ⟨hkB.cell HOG.out o1, hkB.cell HOG.out o2, hkB.cell HOG.out o3, hkB.cell HOG.out o4⟩)
    | (go_at_call 33; refine (HRC.out _ (by exact hrA)).mono ?_; rintro e wD ⟨rfl, hkD', GD, hrD, hGD⟩; have hkD := (by first | exact drawn_kept hkD' | exact drawn_one hkD' | exact hkD' : Kept G _ _); clear hkD'; have hSD : wD.cell? ⟨w.heap.size, 1, none⟩ = some (.int .i64 x1) ∧ wD.cell? ⟨w.heap.size, 2, none⟩ = some (.int .i64 x2) ∧ wD.cell? ⟨w.heap.size, 3, none⟩ = some (.string xt) ∧ wD.cell? ⟨w.heap.size, 4, none⟩ = some (.int .i64 at') := ⟨hkD.cell HOG.out hSA.1, hkD.cell HOG.out hSA.2.1, hkD.cell HOG.out hSA.2.2.1, hkD.cell HOG.out hSA.2.2.2⟩))
  all_goals
    go_wp2_with fail
    go_ret
    first
      | exact does_a HK0.out HF.out HG.out HD.out hkA hsA hFA hkD hrD hGD
      | exact does_b HK0.out HF.out HG.out HD.out hkB hrB hGB hkC hsC hFC

set_option maxRecDepth 100000 in
set_option maxHeartbeats 4000000 in
theorem does_clear (F G : List Nat) (sb rb : Nat) (m : Int) (L : List Th) (d x1 x2 : Int) (xt : ByteArray) (at' : Int) (w : World) (hs : Sh w F sb m L) (hr : RSh w G rb m L) (hd : ∀ z ∈ F, z ∉ G) (hc : d = 1) :
    Calls Try.prog 14 #[.pointer (some ⟨sb, 0, none⟩), .pointer (some ⟨rb, 0, none⟩), .agg #[.int .i64 d, .int .i64 x1, .int .i64 x2, .string xt, .int .i64 at']] w (DoesPost w F G sb rb m (leftOf (below at') L)) := by
  subst hc
  have hF := hs.lt
  have hG := hr.lt
  have hk0 := (Kept.refl [] w).alloc (.cells #[.int .i64 1, .int .i64 x1, .int .i64 x2, .string xt, .int .i64 at'] 31)
  have hs0 := hs.keep hk0
  have hr0 := hr.keep hk0
  have bo := Blk.new w #[.int .i64 1, .int .i64 x1, .int .i64 x2, .string xt, .int .i64 at'] 31
  have o1 : (w.alloc (.cells #[.int .i64 1, .int .i64 x1, .int .i64 x2, .string xt, .int .i64 at'] 31)).cell? ⟨w.heap.size, 1, none⟩ = some (.int .i64 x1) := bo.cell 1
  have o2 : (w.alloc (.cells #[.int .i64 1, .int .i64 x1, .int .i64 x2, .string xt, .int .i64 at'] 31)).cell? ⟨w.heap.size, 2, none⟩ = some (.int .i64 x2) := bo.cell 2
  have o3 : (w.alloc (.cells #[.int .i64 1, .int .i64 x1, .int .i64 x2, .string xt, .int .i64 at'] 31)).cell? ⟨w.heap.size, 3, none⟩ = some (.string xt) := bo.cell 3
  have o4 : (w.alloc (.cells #[.int .i64 1, .int .i64 x1, .int .i64 x2, .string xt, .int .i64 at'] 31)).cell? ⟨w.heap.size, 4, none⟩ = some (.int .i64 at') := bo.cell 4
  have hfs : ∀ z ∈ F, z ≠ w.heap.size := fun z hz => by have := hF z hz; omega
  have hgs : ∀ z ∈ G, z ≠ w.heap.size := fun z hz => by have := hG z hz; omega
  have hobF : w.heap.size ∉ F := fun h => hfs _ h rfl
  have hobG : w.heap.size ∉ G := fun h => hgs _ h rfl
  have hd2 : ∀ z ∈ G, z ∉ F := fun z hz hzF => hd z hzF hz
  have SC : ∀ (W : World), Sh W F sb m L → Calls Try.prog 10 #[.pointer (some ⟨sb, 0, none⟩), .int .i64 at'] W (SPost W F sb m (leftOf (below at') L) (((L.length : Int) - ((leftOf (below at') L).length : Int)))) := fun W hW => (clear_any F sb m L at' W hW).mono (fun e w' h => h.s hW.mem)
  have RC : ∀ (W : World), RSh W G rb m L → Calls Try.prog 34 #[.pointer (some ⟨rb, 0, none⟩), .int .i64 at'] W (RPost W G rb m (leftOf (below at') L) (((L.length : Int) - ((leftOf (below at') L).length : Int)))) := fun W hW => (rclear_any G rb m L at' W hW).mono (fun e w' h => h.s hW.mem)
  obtain ⟨K, hK⟩ : ∃ K, ((L.length : Int) - ((leftOf (below at') L).length : Int)) = K := ⟨_, rfl⟩
  obtain ⟨L', hL'⟩ : ∃ L', leftOf (below at') L = L' := ⟨_, rfl⟩
  rw [hK, hL'] at SC RC
  rw [hL']
  have hq : (K == K) = true := by simp
  have HSC := Lib.hid SC
  have HRC := Lib.hid RC
  have HF := Lib.hid hF
  have HG := Lib.hid hG
  have HD := Lib.hid hd
  have HD2 := Lib.hid hd2
  have HOF := Lib.hid hobF
  have HOG := Lib.hid hobG
  have HS0 := Lib.hid hs0
  have HR0 := Lib.hid hr0
  have HK0 := Lib.hid hk0
  clear hK hL' SC RC hF hG hd hd2 hobF hobG hfs hgs hs hr bo hs0 hr0 hk0
  obtain ⟨ob, hob⟩ : ∃ ob, w.heap.size = ob := ⟨_, rfl⟩
  have HOB := Lib.hid hob
  clear hob
  go_enter Try.func14, Try.ntmps14
  go_wp2_with fail
  go_region_held3 (fun w' => w'.cell? ⟨w.heap.size, 1, none⟩ = some (.int .i64 x1) ∧ w'.cell? ⟨w.heap.size, 2, none⟩ = some (.int .i64 x2) ∧ w'.cell? ⟨w.heap.size, 3, none⟩ = some (.string xt) ∧ w'.cell? ⟨w.heap.size, 4, none⟩ = some (.int .i64 at')) (first | exact ⟨o1, o2, o3, o4⟩ | exact hSA | exact hSB | exact hSC | exact hSD) (first
    | (go_at_call 10; refine (HSC.out _ (by exact HS0.out)).mono ?_; rintro e wA ⟨rfl, hkA', FA, hsA, hFA⟩; have hkA := (by first | exact drawn_kept hkA' | exact drawn_one hkA' | exact hkA' : Kept F _ _); clear hkA'; have hrA := RSh.kept HR0.out hkA HD2.out; have hSA : wA.cell? ⟨w.heap.size, 1, none⟩ = some (.int .i64 x1) ∧ wA.cell? ⟨w.heap.size, 2, none⟩ = some (.int .i64 x2) ∧ wA.cell? ⟨w.heap.size, 3, none⟩ = some (.string xt) ∧ wA.cell? ⟨w.heap.size, 4, none⟩ = some (.int .i64 at') := ⟨hkA.cell HOF.out o1, hkA.cell HOF.out o2, hkA.cell HOF.out o3, hkA.cell HOF.out o4⟩)
    | (go_at_call 10; refine (HSC.out _ (by exact hsB)).mono ?_; rintro e wC ⟨rfl, hkC', FC, hsC, hFC⟩; have hkC := (by first | exact drawn_kept hkC' | exact drawn_one hkC' | exact hkC' : Kept F _ _); clear hkC'; have hSC : wC.cell? ⟨w.heap.size, 1, none⟩ = some (.int .i64 x1) ∧ wC.cell? ⟨w.heap.size, 2, none⟩ = some (.int .i64 x2) ∧ wC.cell? ⟨w.heap.size, 3, none⟩ = some (.string xt) ∧ wC.cell? ⟨w.heap.size, 4, none⟩ = some (.int .i64 at') := ⟨hkC.cell HOF.out hSB.1, hkC.cell HOF.out hSB.2.1, hkC.cell HOF.out hSB.2.2.1, hkC.cell HOF.out hSB.2.2.2⟩)
    | (go_at_call 34; refine (HRC.out _ (by exact HR0.out)).mono ?_; rintro e wB ⟨rfl, hkB', GB, hrB, hGB⟩; have hkB := (by first | exact drawn_kept hkB' | exact drawn_one hkB' | exact hkB' : Kept G _ _); clear hkB'; have hsB := Sh.kept HS0.out hkB HD.out; have hSB : wB.cell? ⟨w.heap.size, 1, none⟩ = some (.int .i64 x1) ∧ wB.cell? ⟨w.heap.size, 2, none⟩ = some (.int .i64 x2) ∧ wB.cell? ⟨w.heap.size, 3, none⟩ = some (.string xt) ∧ wB.cell? ⟨w.heap.size, 4, none⟩ = some (.int .i64 at') := ⟨hkB.cell HOG.out o1, hkB.cell HOG.out o2, hkB.cell HOG.out o3, hkB.cell HOG.out o4⟩)
    | (go_at_call 34; refine (HRC.out _ (by exact hrA)).mono ?_; rintro e wD ⟨rfl, hkD', GD, hrD, hGD⟩; have hkD := (by first | exact drawn_kept hkD' | exact drawn_one hkD' | exact hkD' : Kept G _ _); clear hkD'; have hSD : wD.cell? ⟨w.heap.size, 1, none⟩ = some (.int .i64 x1) ∧ wD.cell? ⟨w.heap.size, 2, none⟩ = some (.int .i64 x2) ∧ wD.cell? ⟨w.heap.size, 3, none⟩ = some (.string xt) ∧ wD.cell? ⟨w.heap.size, 4, none⟩ = some (.int .i64 at') := ⟨hkD.cell HOG.out hSA.1, hkD.cell HOG.out hSA.2.1, hkD.cell HOG.out hSA.2.2.1, hkD.cell HOG.out hSA.2.2.2⟩))
  all_goals
    go_wp2_with fail
    go_ret
    first
      | exact does_a HK0.out HF.out HG.out HD.out hkA hsA hFA hkD hrD hGD
      | exact does_b HK0.out HF.out HG.out HD.out hkB hrB hGB hkC hsC hFC

set_option maxRecDepth 100000 in
set_option maxHeartbeats 4000000 in
theorem does_drop (F G : List Nat) (sb rb : Nat) (m : Int) (L : List Th) (d x1 x2 : Int) (xt : ByteArray) (at' : Int) (w : World) (hs : Sh w F sb m L) (hr : RSh w G rb m L) (hd : ∀ z ∈ F, z ∉ G) (hc : d = 2) :
    Calls Try.prog 14 #[.pointer (some ⟨sb, 0, none⟩), .pointer (some ⟨rb, 0, none⟩), .agg #[.int .i64 d, .int .i64 x1, .int .i64 x2, .string xt, .int .i64 at']] w (DoesPost w F G sb rb m (leftOf (textIs xt) L)) := by
  subst hc
  have hF := hs.lt
  have hG := hr.lt
  have hk0 := (Kept.refl [] w).alloc (.cells #[.int .i64 2, .int .i64 x1, .int .i64 x2, .string xt, .int .i64 at'] 31)
  have hs0 := hs.keep hk0
  have hr0 := hr.keep hk0
  have bo := Blk.new w #[.int .i64 2, .int .i64 x1, .int .i64 x2, .string xt, .int .i64 at'] 31
  have o1 : (w.alloc (.cells #[.int .i64 2, .int .i64 x1, .int .i64 x2, .string xt, .int .i64 at'] 31)).cell? ⟨w.heap.size, 1, none⟩ = some (.int .i64 x1) := bo.cell 1
  have o2 : (w.alloc (.cells #[.int .i64 2, .int .i64 x1, .int .i64 x2, .string xt, .int .i64 at'] 31)).cell? ⟨w.heap.size, 2, none⟩ = some (.int .i64 x2) := bo.cell 2
  have o3 : (w.alloc (.cells #[.int .i64 2, .int .i64 x1, .int .i64 x2, .string xt, .int .i64 at'] 31)).cell? ⟨w.heap.size, 3, none⟩ = some (.string xt) := bo.cell 3
  have o4 : (w.alloc (.cells #[.int .i64 2, .int .i64 x1, .int .i64 x2, .string xt, .int .i64 at'] 31)).cell? ⟨w.heap.size, 4, none⟩ = some (.int .i64 at') := bo.cell 4
  have hfs : ∀ z ∈ F, z ≠ w.heap.size := fun z hz => by have := hF z hz; omega
  have hgs : ∀ z ∈ G, z ≠ w.heap.size := fun z hz => by have := hG z hz; omega
  have hobF : w.heap.size ∉ F := fun h => hfs _ h rfl
  have hobG : w.heap.size ∉ G := fun h => hgs _ h rfl
  have hd2 : ∀ z ∈ G, z ∉ F := fun z hz hzF => hd z hzF hz
  have SC : ∀ (W : World), Sh W F sb m L → W.cell? ⟨w.heap.size, 3, none⟩ = some (.string xt) → Calls Try.prog 16 #[.pointer (some ⟨sb, 0, none⟩), .func (.func 35) #[] #[.pointer (some ⟨w.heap.size, 0, none⟩)]] W (SPost W F sb m (leftOf (textIs xt) L) (((L.length : Int) - ((leftOf (textIs xt) L).length : Int)))) := fun W hW hW2 => (take_any F sb m L 35 (.pointer (some ⟨w.heap.size, 0, none⟩)) (textIs xt) W hW (enters_of Try.func35 (by kernel_rfl) rfl) (fun W2 x1 x2 xs hk2 => does1_any w.heap.size xt x1 x2 xs W2 (hk2.cell (by simpa using fun e => hobF (by rw [e]; exact hW.mem)) hW2))).mono (fun e w' h => h.s hW.mem)
  have RC : ∀ (W : World), RSh W G rb m L → Calls Try.prog 36 #[.pointer (some ⟨rb, 0, none⟩), .string xt] W (RPost W G rb m (leftOf (textIs xt) L) (((L.length : Int) - ((leftOf (textIs xt) L).length : Int)))) := fun W hW => (rdrop_any G rb m L xt W hW).mono (fun e w' h => h.s hW.mem)
  obtain ⟨K, hK⟩ : ∃ K, ((L.length : Int) - ((leftOf (textIs xt) L).length : Int)) = K := ⟨_, rfl⟩
  obtain ⟨L', hL'⟩ : ∃ L', leftOf (textIs xt) L = L' := ⟨_, rfl⟩
  rw [hK, hL'] at SC RC
  rw [hL']
  have hq : (K == K) = true := by simp
  have HSC := Lib.hid SC
  have HRC := Lib.hid RC
  have HF := Lib.hid hF
  have HG := Lib.hid hG
  have HD := Lib.hid hd
  have HD2 := Lib.hid hd2
  have HOF := Lib.hid hobF
  have HOG := Lib.hid hobG
  have HS0 := Lib.hid hs0
  have HR0 := Lib.hid hr0
  have HK0 := Lib.hid hk0
  clear hK hL' SC RC hF hG hd hd2 hobF hobG hfs hgs hs hr bo hs0 hr0 hk0
  obtain ⟨ob, hob⟩ : ∃ ob, w.heap.size = ob := ⟨_, rfl⟩
  have HOB := Lib.hid hob
  clear hob
  go_enter Try.func14, Try.ntmps14
  go_wp2_with fail
  go_region_held3 (fun w' => w'.cell? ⟨w.heap.size, 1, none⟩ = some (.int .i64 x1) ∧ w'.cell? ⟨w.heap.size, 2, none⟩ = some (.int .i64 x2) ∧ w'.cell? ⟨w.heap.size, 3, none⟩ = some (.string xt) ∧ w'.cell? ⟨w.heap.size, 4, none⟩ = some (.int .i64 at')) (first | exact ⟨o1, o2, o3, o4⟩ | exact hSA | exact hSB | exact hSC | exact hSD) (first
    | (go_at_call 16; refine (HSC.out _ (by exact HS0.out) (by exact o3)).mono ?_; rintro e wA ⟨rfl, hkA', FA, hsA, hFA⟩; have hkA := (by first | exact drawn_kept hkA' | exact drawn_one hkA' | exact hkA' : Kept F _ _); clear hkA'; have hrA := RSh.kept HR0.out hkA HD2.out; have hSA : wA.cell? ⟨w.heap.size, 1, none⟩ = some (.int .i64 x1) ∧ wA.cell? ⟨w.heap.size, 2, none⟩ = some (.int .i64 x2) ∧ wA.cell? ⟨w.heap.size, 3, none⟩ = some (.string xt) ∧ wA.cell? ⟨w.heap.size, 4, none⟩ = some (.int .i64 at') := ⟨hkA.cell HOF.out o1, hkA.cell HOF.out o2, hkA.cell HOF.out o3, hkA.cell HOF.out o4⟩)
    | (go_at_call 16; refine (HSC.out _ (by exact hsB) (by exact hSB.2.2.1)).mono ?_; rintro e wC ⟨rfl, hkC', FC, hsC, hFC⟩; have hkC := (by first | exact drawn_kept hkC' | exact drawn_one hkC' | exact hkC' : Kept F _ _); clear hkC'; have hSC : wC.cell? ⟨w.heap.size, 1, none⟩ = some (.int .i64 x1) ∧ wC.cell? ⟨w.heap.size, 2, none⟩ = some (.int .i64 x2) ∧ wC.cell? ⟨w.heap.size, 3, none⟩ = some (.string xt) ∧ wC.cell? ⟨w.heap.size, 4, none⟩ = some (.int .i64 at') := ⟨hkC.cell HOF.out hSB.1, hkC.cell HOF.out hSB.2.1, hkC.cell HOF.out hSB.2.2.1, hkC.cell HOF.out hSB.2.2.2⟩)
    | (go_at_call 36; refine (HRC.out _ (by exact HR0.out)).mono ?_; rintro e wB ⟨rfl, hkB', GB, hrB, hGB⟩; have hkB := (by first | exact drawn_kept hkB' | exact drawn_one hkB' | exact hkB' : Kept G _ _); clear hkB'; have hsB := Sh.kept HS0.out hkB HD.out; have hSB : wB.cell? ⟨w.heap.size, 1, none⟩ = some (.int .i64 x1) ∧ wB.cell? ⟨w.heap.size, 2, none⟩ = some (.int .i64 x2) ∧ wB.cell? ⟨w.heap.size, 3, none⟩ = some (.string xt) ∧ wB.cell? ⟨w.heap.size, 4, none⟩ = some (.int .i64 at') := ⟨hkB.cell HOG.out o1, hkB.cell HOG.out o2, hkB.cell HOG.out o3, hkB.cell HOG.out o4⟩)
    | (go_at_call 36; refine (HRC.out _ (by exact hrA)).mono ?_; rintro e wD ⟨rfl, hkD', GD, hrD, hGD⟩; have hkD := (by first | exact drawn_kept hkD' | exact drawn_one hkD' | exact hkD' : Kept G _ _); clear hkD'; have hSD : wD.cell? ⟨w.heap.size, 1, none⟩ = some (.int .i64 x1) ∧ wD.cell? ⟨w.heap.size, 2, none⟩ = some (.int .i64 x2) ∧ wD.cell? ⟨w.heap.size, 3, none⟩ = some (.string xt) ∧ wD.cell? ⟨w.heap.size, 4, none⟩ = some (.int .i64 at') := ⟨hkD.cell HOG.out hSA.1, hkD.cell HOG.out hSA.2.1, hkD.cell HOG.out hSA.2.2.1, hkD.cell HOG.out hSA.2.2.2⟩))
  all_goals
    go_wp2_with fail
    go_ret
    first
      | exact does_a HK0.out HF.out HG.out HD.out hkA hsA hFA hkD hrD hGD
      | exact does_b HK0.out HF.out HG.out HD.out hkB hrB hGB hkC hsC hFC

end Go.Proofs.Ytdboipjbpkhacaa

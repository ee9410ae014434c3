/- Shelves that no call made; the reference's Clone. -/
import Derived.Test.YtdboipjbpkhacaaS20
set_option linter.unusedVariables false
set_option linter.unusedSimpArgs false
set_option linter.unnecessarySimpa false
namespace Go.Proofs.Ytdboipjbpkhacaa
open Go.RowKit Go.Shelf

attribute [local go_sem] eqlFN eqlNN
/-- No shelf, or one that no call made (its blocks since w0). -/
def Dead (S : List Nat) (w0 w : World) (tp : Option Addr) : Prop := tp = none ∨ ∃ b F, tp = some ⟨b, 0, none⟩ ∧ Sh w F b 0 [] ∧ ∀ z ∈ F, z ∈ S ∨ w0.heap.size ≤ z
def DeadPost (S : List Nat) (w0 : World) (tp : Option Addr) (v : Value) (e : Ending) (w' : World) : Prop := e = .returned v ∧ Dead S w0 w' tp ∧ Kept S w0 w'
theorem Dead.keep {S : List Nat} {w0 w w' : World} {tp : Option Addr} (h : Dead S w0 w tp) (k : Kept [] w w') : Dead S w0 w' tp := h.imp id (fun ⟨b, F, e, hs, hF⟩ => ⟨b, F, e, hs.keep k, hF⟩)
theorem dead_kept {S : List Nat} {w0 w : World} {tp : Option Addr} {f : FuncId} {args : Array Value} {v : Value} (hD : Dead S w0 w tp) (hK : Kept S w0 w) (h : Calls Try.prog f args w fun e w' => e = .returned v ∧ Kept [] w w') : Calls Try.prog f args w (DeadPost S w0 tp v) :=
  h.mono fun e w' ⟨he, hk⟩ => ⟨he, hD.keep hk, hK.trans hk.nil⟩
theorem dead_same {S : List Nat} {w0 w : World} {tp : Option Addr} {f : FuncId} {args : Array Value} {v : Value} (hD : Dead S w0 w tp) (hK : Kept S w0 w) (h : Calls Try.prog f args w fun e w' => e = .returned v ∧ w = w') : Calls Try.prog f args w (DeadPost S w0 tp v) :=
  h.mono fun e w' ⟨he, hk⟩ => by subst hk; exact ⟨he, hD, hK⟩

theorem step_shS {S : List Nat} {w0 w w' : World} {F F' : List Nat} (hK : Go.Proofs.Ytdboipjbpkhacaa.Kept S w0 w) (hF : ∀ z ∈ F, z ∈ S ∨ w0.heap.size ≤ z) (hk : Kept F w w') (hF' : ∀ z ∈ F', z ∈ F ∨ w.heap.size ≤ z) : Kept S w0 w' ∧ ∀ z ∈ F', z ∈ S ∨ w0.heap.size ≤ z :=
  ⟨hK.after2 hk hF, fun z hz => (hF' z hz).elim (hF z) (fun h => .inr (Nat.le_trans hK.size h))⟩
theorem step_takeS {S : List Nat} {w0 w w' : World} {F' : List Nat} {b : Nat} (hK : Go.Proofs.Ytdboipjbpkhacaa.Kept S w0 w) (hb : b ∈ S ∨ w0.heap.size ≤ b) (hk : Kept [b] w w') (hF' : ∀ z ∈ F', z = b ∨ w.heap.size ≤ z) : Kept S w0 w' ∧ ∀ z ∈ F', z ∈ S ∨ w0.heap.size ≤ z :=
  ⟨hK.after2 hk (by simpa using hb), fun z hz => (hF' z hz).elim (fun h => by rw [h]; exact hb) (fun h => .inr (Nat.le_trans hK.size h))⟩
theorem put_nil (x1 x2 : Int) (s : ByteArray) (w : World) : Calls Try.prog 8 #[.pointer none, .agg #[.int .i64 x1, .int .i64 x2], .string s] w fun e w' => e = .returned (.int .i64 2) ∧ Kept [] w w' := by
  go_enter Try.func8, Try.ntmps8
  go_wp2_with fail
  go_ret
  exact ⟨rfl, (Kept.refl [] w).alloc _⟩
theorem dead_put (S : List Nat) (w0 : World) (tp : Option Addr) (x1 x2 : Int) (s : ByteArray) (w : World) (hD : Dead S w0 w tp) (hK : Kept S w0 w) : Calls Try.prog 8 #[.pointer tp, .agg #[.int .i64 x1, .int .i64 x2], .string s] w (DeadPost S w0 tp (.int .i64 2)) := by
  rcases hD with rfl | ⟨b, F, rfl, hs, hF⟩
  · exact dead_kept (.inl rfl) hK (put_nil x1 x2 s w)
  · refine (put_any F b 0 [] (x1, x2, s) w hs).mono fun e w' ⟨he, hk, F', hs', hF'⟩ => ?_
    have h2 : putE 0 [] (x1, x2, s) = 2 := by unfold putE; rw [if_pos rfl]
    have h3 : putL 0 [] (x1, x2, s) = [] := by unfold putL; rw [h2, if_neg (by decide)]
    rw [h2] at he
    rw [h3] at hs'
    obtain ⟨q1, q2⟩ := step_shS hK hF hk hF'
    exact ⟨he, .inr ⟨b, F', rfl, hs', q2⟩, q1⟩
theorem dead_clear (S : List Nat) (w0 : World) (tp : Option Addr) (h : Int) (w : World) (hD : Dead S w0 w tp) (hK : Kept S w0 w) : Calls Try.prog 10 #[.pointer tp, .int .i64 h] w (DeadPost S w0 tp (.int .i64 0)) := by
  rcases hD with rfl | ⟨b, F, rfl, hs, hF⟩
  · exact dead_kept (.inl rfl) hK (clear_nil h w)
  · refine (clear_any F b 0 [] h w hs).mono fun e w' ⟨he, hk, F', hs', hF'⟩ => ?_
    obtain ⟨q1, q2⟩ := step_takeS hK (hF b hs.mem) hk hF'
    exact ⟨he, .inr ⟨b, F', rfl, hs', q2⟩, q1⟩
theorem dead_len (S : List Nat) (w0 : World) (tp : Option Addr) (w : World) (hD : Dead S w0 w tp) (hK : Kept S w0 w) : Calls Try.prog 18 #[.pointer tp] w (DeadPost S w0 tp (.int .i64 0)) := by
  rcases hD with rfl | ⟨b, F, rfl, hs, hF⟩
  · exact dead_same (.inl rfl) hK (len_nil w)
  · exact dead_same (.inr ⟨b, F, rfl, hs, hF⟩) hK (len_any F b 0 [] w hs)
theorem dead_most (S : List Nat) (w0 : World) (tp : Option Addr) (w : World) (hD : Dead S w0 w tp) (hK : Kept S w0 w) : Calls Try.prog 19 #[.pointer tp] w (DeadPost S w0 tp (.int .i64 0)) := by
  rcases hD with rfl | ⟨b, F, rfl, hs, hF⟩
  · exact dead_same (.inl rfl) hK (most_nil w)
  · exact dead_same (.inr ⟨b, F, rfl, hs, hF⟩) hK (most_any F b 0 [] w hs)
theorem dead_oldest (S : List Nat) (w0 : World) (tp : Option Addr) (w : World) (hD : Dead S w0 w tp) (hK : Kept S w0 w) : Calls Try.prog 17 #[.pointer tp] w (DeadPost S w0 tp (.tuple #[.int .i64 0, .bool false])) := by
  rcases hD with rfl | ⟨b, F, rfl, hs, hF⟩
  · exact dead_same (.inl rfl) hK (oldest_nil w)
  · exact dead_kept (.inr ⟨b, F, rfl, hs, hF⟩) hK (oldest_any F b 0 [] w hs)
theorem dead_clone (S : List Nat) (w0 : World) (tp : Option Addr) (w : World) (hD : Dead S w0 w tp) (hK : Kept S w0 w) : Calls Try.prog 9 #[.pointer tp] w (DeadPost S w0 tp (.pointer none)) := by
  rcases hD with rfl | ⟨b, F, rfl, hs, hF⟩
  · exact dead_same (.inl rfl) hK (clone_nil w)
  · exact dead_same (.inr ⟨b, F, rfl, hs, hF⟩) hK (clone_zero F b [] w hs)
theorem Dead.src {S : List Nat} {w0 w : World} {tp : Option Addr} (hD : Dead S w0 w tp) : Src w tp [] := by
  rcases hD with rfl | ⟨b, F, rfl, hs, hF⟩
  · exact src_nil w
  · exact hs.src
theorem dead_all (S : List Nat) (w0 : World) (tp : Option Addr) (w : World) (hD : Dead S w0 w tp) : Calls Try.prog 11 #[.pointer tp] w (ItPost w []) := by
  rcases hD with rfl | ⟨b, F, rfl, hs, hF⟩
  · exact all_nil w
  · exact all_any F b 0 [] w hs

set_option maxRecDepth 100000 in
set_option maxHeartbeats 2000000 in
theorem take_empty (F : List Nat) (b : Nat) (m : Int) (f : Fn) (fs cs : Array Value) (w : World) (h : Sh w F b m []) :
    Calls Try.prog 16 #[.pointer (some ⟨b, 0, none⟩), .func f fs cs] w (TakePost w b m [] []) := by
  obtain ⟨hm0, hm1, hl, lv, hb, ho, hF, hn⟩ := h
  have c1 := hb.cell 1
  simp at c1
  have f1 := hb.free 1
  have HB := Lib.hid hb
  obtain ⟨AA, cc, rfl⟩ := own_len ho
  clear ho hF hn hb
  go_enter Try.func16, Try.ntmps16
  go_wp2_with fail
  have hK0 : Kept [b] w (w.setCell ⟨b, 1, none⟩ (.slice none 0 0)) := (Kept.refl [b] w).setCell (.inl (by simp)) _
  have hB0 := HB.out.set 1 (.slice none 0 0)
  obtain ⟨w0, hw0⟩ : ∃ w0, w.setCell ⟨b, 1, none⟩ (.slice none 0 0) = w0 := ⟨_, rfl⟩
  rw [hw0] at hK0 hB0 ⊢
  have d1 := hB0.cell 1
  simp at d1
  have HB0 := Lib.hid hB0
  clear hw0 hB0 c1 f1
  go_loopw [23] (fun i wr => i = .int .i64 0 ∧ w0 = wr) (fun _ _ => 0)
  case atStart => exact ⟨rfl, rfl⟩
  case round =>
    obtain ⟨rfl, rfl⟩ := hrel
    go_wp2_with fail
    go_ret
    exact ⟨rfl, hK0, [b], ⟨hm0, hm1, by simp, .slice none 0 0, HB0.out, World.ownsRow_nil _ _ _ _, rfl, by simp [Value.ownBlock]⟩, fun z hz => .inl (by simpa using hz)⟩
theorem dead_take (S : List Nat) (w0 : World) (tp : Option Addr) (f : Fn) (fs cs : Array Value) (w : World) (hD : Dead S w0 w tp) (hK : Kept S w0 w) : Calls Try.prog 16 #[.pointer tp, .func f fs cs] w (DeadPost S w0 tp (.int .i64 0)) := by
  rcases hD with rfl | ⟨b, F, rfl, hs, hF⟩
  · exact dead_same (.inl rfl) hK (take_nil _ w)
  · refine (take_empty F b 0 f fs cs w hs).mono fun e w' ⟨he, hk, F', hs', hF'⟩ => ?_
    obtain ⟨q1, q2⟩ := step_takeS hK (hF b hs.mem) hk hF'
    exact ⟨he, .inr ⟨b, F', rfl, hs', q2⟩, q1⟩

end Go.Proofs.Ytdboipjbpkhacaa

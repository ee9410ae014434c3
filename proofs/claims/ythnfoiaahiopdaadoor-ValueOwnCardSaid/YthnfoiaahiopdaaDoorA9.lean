/- The stable sort: what stands in the row. -/
import Derived.Test.YthnfoiaahiopdaaDoorA8
import Derived.Deep.DeepCutAuto
set_option linter.unusedVariables false
set_option linter.unusedSimpArgs false
set_option linter.unnecessarySimpa false
namespace Go.Proofs.YthnfoiaahiopdaaDoor
open Go.RowKit Go.Shelf Go.Lib Go.Sort
attribute [local go_sem] Oper.semAt_some

/-- What comes of the sort: as many in some order; few enough: by insertion. -/
def StPost (w0 : World) (g N : Nat) (d : Array AttrD) (e : Ending) (w' : World) : Prop := e = .returned (.tuple #[]) ∧ ∃ d' : Array AttrD, d'.size = N ∧ SWA w0 g d' w' ∧ (N < 20 → d' = Sort.insertionSort (ltOf cfA) d 0 N)

set_option maxRecDepth 100000 in
set_option maxHeartbeats 4000000 in
theorem stable_any {w0 : World} {g : Nat} {d0 : Array AttrD} (R : RowA w0 g d0) (N cap : Nat) (hN : d0.size = N) (d : Array AttrD) (hd : d.size = N) (hsz : N ≤ 140737488355328) (W : World) (S : SWA w0 g d W) :
    Calls Tryd.prog 54 #[.slice (some ⟨g, 0, none⟩) N cap, .int .i64 N, .func (.func 45) #[] #[]] W (StPost w0 g N d) := by
  have HIN : Hid (∀ (a b : Nat) (d' : Array AttrD) (W' : World), a ≤ b → b ≤ N → d'.size = N → SWA w0 g d' W' → Calls Tryd.prog 61 #[.slice (some ⟨g, 0, none⟩) N cap, .int .i64 a, .int .i64 b, .func (.func 45) #[] #[]] W' fun e w' => e = .returned (.tuple #[]) ∧ SWA w0 g (Sort.insertionSort (ltOf cfA) d' a b) w') := fun a b d' W' h1 h2 h3 h4 => insertion_any R N cap a b hN d' h3 h1 h2 (by omega) W' h4
  have HSM : Hid (∀ (a m b : Nat) (d' : Array AttrD) (W' : World), a < m → m < b → b ≤ N → d'.size = N → SWA w0 g d' W' → Calls Tryd.prog 62 #[.slice (some ⟨g, 0, none⟩) N cap, .int .i64 a, .int .i64 m, .int .i64 b, .func (.func 45) #[] #[]] W' (SortPost w0 g N)) := fun a m b d' W' h1 h2 h3 h4 h5 => symMerge_any R N cap hN (by omega) (b - a) a m b d' W' (Nat.le_refl _) h1 h2 h3 h4 h5
  have HS := Lib.hid S
  have HD := Lib.hid hd
  clear S R hN hd
  go_enter Tryd.func54, Tryd.ntmps54
  go_wp2_with fail
  go_loopw [7, 8] (fun aa bb wr => ∃ (a b : Nat) (d' : Array AttrD), aa = .int .i64 a ∧ bb = .int .i64 b ∧ b = a + 20 ∧ a ≤ N ∧ d'.size = N ∧ SWA w0 g d' wr ∧ (N < 20 → a = 0 ∧ d' = d)) (fun aa _ _ => N - (intOf aa).toNat)
  case atStart => exact ⟨0, 20, d, rfl, rfl, rfl, Nat.zero_le _, HD.out, HS.out, fun _ => ⟨rfl, rfl⟩⟩
  case round =>
    obtain ⟨a, b, d', rfl, rfl, hb, ha, hd', hS, hsm⟩ := hrel
    have HD2 := Lib.hid hd'
    have HS2 := Lib.hid hS
    have HSM2 := Lib.hid hsm
    have hab : a < b := by omega
    have HB := Lib.hid hb
    clear hd' hS hsm hb
    by_cases hlt : b ≤ N
    · have HC := Lib.hid (HIN.out a b d' wr (by omega) hlt HD2.out HS2.out)
      have HD4 : Hid ((Sort.insertionSort (ltOf cfA) d' a b).size = N) := by show _ = _; rw [insSort_size]; exact HD2.out
      generalize Sort.insertionSort (ltOf cfA) d' a b = d4 at HC HD4
      have HBN : Hid (N < 20 → False) := fun h => by have := HB.out; omega
      have hw1 : IntKind.i64.wrap ((b : Int) + 20) = ((b + 20 : Nat) : Int) := by rw [IntKind.wrap_i64]; omega
      go_wp2_with fail
      refine HC.out.mono ?_
      rintro e w2 ⟨rfl, hS3⟩
      have HS3 := Lib.hid hS3
      clear hS3
      go_wp2_with fail
      go_roundw
      case rel => exact ⟨b, b + 20, d4, rfl, by go_num, rfl, hlt, HD4.out, HS3.out, fun h => (HBN.out h).elim⟩
      case measure => simp [intOf]; omega
    · have HC := Lib.hid (HIN.out a N d' wr ha (Nat.le_refl _) HD2.out HS2.out)
      have HFIN : Hid (N < 20 → Sort.insertionSort (ltOf cfA) d' a N = Sort.insertionSort (ltOf cfA) d 0 N) := fun h => by
        obtain ⟨h1, h2⟩ := HSM2.out h
        rw [h1, h2]
      have HD3 : Hid ((Sort.insertionSort (ltOf cfA) d' a N).size = N) := by show _ = _; rw [insSort_size]; exact HD2.out
      generalize Sort.insertionSort (ltOf cfA) d' a N = d3 at HC HFIN HD3
      clear HB hab
      go_wp2_with fail
      refine HC.out.mono ?_
      rintro e w2 ⟨rfl, hS3⟩
      have HS3 := Lib.hid hS3
      clear hS3 HC HD2 HS2 HSM2 hlt ha
      go_wp2_with fail
      go_loopw [6] (fun ss wr => ∃ (bs : Nat) (d' : Array AttrD), ss = .int .i64 bs ∧ 20 ≤ bs ∧ bs ≤ 2 * N + 20 ∧ d'.size = N ∧ SWA w0 g d' wr ∧ (N < 20 → d' = d3)) (fun ss _ => N - (intOf ss).toNat)
      case atStart => exact ⟨20, d3, rfl, Nat.le_refl _, by omega, HD3.out, HS3.out, fun _ => rfl⟩
      case round =>
        clear HS3 HD3
        obtain ⟨bs, d', rfl, hb1, hb2, hd', hS, hsm⟩ := hrel
        have HD2 := Lib.hid hd'
        have HS2 := Lib.hid hS
        have HSM2 := Lib.hid hsm
        clear hd' hS hsm
        by_cases hlt : bs < N
        · obtain ⟨tw, htw⟩ : ∃ x, 2 * bs = x := ⟨_, rfl⟩
          have hw1 : IntKind.i64.wrap (2 * (bs : Int)) = (tw : Int) := by rw [IntKind.wrap_i64]; omega
          have hw2 : IntKind.i64.wrap ((bs : Int) * 2) = (tw : Int) := by rw [IntKind.wrap_i64]; omega
          have htw1 : bs < tw ∧ tw ≤ 2 * N + 20 := by omega
          have HTW := Lib.hid htw
          clear htw
          have HN20 : Hid (N < 20 → False) := fun h => by omega
          go_wp2_with fail
          go_loopw [7, 8] (fun aa bb wr => ∃ (x y : Nat) (d' : Array AttrD), aa = .int .i64 x ∧ bb = .int .i64 y ∧ y = x + tw ∧ x ≤ N ∧ d'.size = N ∧ SWA w0 g d' wr) (fun aa _ _ => N - (intOf aa).toNat)
          case atStart => exact ⟨0, tw, d', rfl, rfl, (Nat.zero_add _).symm, Nat.zero_le _, HD2.out, HS2.out⟩
          case round =>
            clear HD2 HS2 HSM2
            obtain ⟨x, y, d', rfl, rfl, hy, hx, hd', hS⟩ := hrel
            have HD2 := Lib.hid hd'
            have HS2 := Lib.hid hS
            clear hd' hS
            obtain ⟨xb, hxb⟩ : ∃ z, x + bs = z := ⟨_, rfl⟩
            have hw3 : IntKind.i64.wrap ((x : Int) + (bs : Int)) = (xb : Int) := by rw [IntKind.wrap_i64]; omega
            have hxy : x < xb ∧ xb < y := by omega
            by_cases hyN : y ≤ N
            · have hw4 : IntKind.i64.wrap ((y : Int) + (tw : Int)) = ((y + tw : Nat) : Int) := by rw [IntKind.wrap_i64]; omega
              have HC := Lib.hid (HSM.out x xb y d' wr hxy.1 hxy.2 hyN HD2.out HS2.out)
              clear hy hxb
              go_wp2_with fail
              refine HC.out.mono ?_
              rintro e w2 ⟨rfl, d9, hd9, hS9⟩
              have HD9 := Lib.hid hd9
              have HS9 := Lib.hid hS9
              clear hd9 hS9
              go_wp2_with fail
              go_roundw
              case rel => exact ⟨y, y + tw, d9, rfl, by go_num, rfl, hyN, HD9.out, HS9.out⟩
              case measure => simp [intOf]; omega
            · by_cases hm : xb < N
              · have HC := Lib.hid (HSM.out x xb N d' wr hxy.1 hm (Nat.le_refl _) HD2.out HS2.out)
                clear hy hxb
                go_wp2_with fail
                refine HC.out.mono ?_
                rintro e w2 ⟨rfl, d9, hd9, hS9⟩
                have HD9 := Lib.hid hd9
                have HS9 := Lib.hid hS9
                clear hd9 hS9
                go_wp2_with fail
                go_roundw
                case rel => exact ⟨tw, d9, rfl, by omega, htw1.2, HD9.out, HS9.out, fun h => (HN20.out h).elim⟩
                case measure => simp [intOf]; omega
              · clear hy hxb
                go_wp2_with fail
                go_roundw
                case rel => exact ⟨tw, d', rfl, by omega, htw1.2, HD2.out, HS2.out, fun h => (HN20.out h).elim⟩
                case measure => simp [intOf]; omega
        · go_wp2_with fail
          go_end0
          exact ⟨rfl, d', HD2.out, HS2.out, fun h => by rw [HSM2.out h, HFIN.out h]⟩

end Go.Proofs.YthnfoiaahiopdaaDoor

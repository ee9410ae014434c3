/- ShelfNone. -/
import Derived.Test.YtdboipjbpkhacaaS24
set_option linter.unusedVariables false
set_option linter.unusedSimpArgs false
set_option linter.unnecessarySimpa false
namespace Go.Proofs.Ytdboipjbpkhacaa
open Go.RowKit Go.Shelf
attribute [local go_sem] Oper.semAt_some

set_option maxRecDepth 100000 in
set_option maxHeartbeats 16000000 in
theorem shelfNone_any (w : World) (v u : Value) (l l2 : List Opn) (hx : RdO w v l) (hy : RdO w u l2) :
    Calls Try.prog 5 #[v, u] w fun e w' => e = .returned (.bool true) ∧ Kept [] w w' := by
  have HX := Lib.hid hx
  have HY := Lib.hid hy
  obtain ⟨A, c, rfl, hmx, hx⟩ := hx
  obtain ⟨A2, c2, rfl, hmy, hy⟩ := hy
  clear hx hy
  obtain ⟨n, hn⟩ : ∃ n, l.length = n := ⟨_, rfl⟩
  obtain ⟨n2, hn2⟩ : ∃ n, l2.length = n := ⟨_, rfl⟩
  rw [hn] at hmx HX ⊢
  rw [hn2] at hmy HY ⊢
  have HN := Lib.hid hn
  have HN2 := Lib.hid hn2
  clear hn hn2
  unfold maxLen at hmx hmy
  refine (callsIn_wide (n := 9)).1 ?_
  refine callsIn_of_wp_marks Try.func5 rfl trivial ?_ rfl
  simp only [Try.ntmps5, List.size_toArray, List.length_cons, List.length_nil, Nat.reduceAdd, Nat.reduceSub, Array.replicate_succ, Array.replicate_zero, List.push_toArray, List.append_toArray, List.nil_append, List.cons_append]
  have HBR0 := Lib.hid (Blk.new w #[.bool false] 4)
  have HK0 := Lib.hid ((Kept.refl [] w).alloc (.cells #[.bool false] 4))
  gi_wp2_with fail
  refine ⟨trivial, (callsIn_wide.2 (live_any _)).mono ?_⟩
  rintro e w1 ⟨rfl, hk1⟩
  have hBR1 := HBR0.out.kept hk1 (by simp)
  have hK1 := HK0.out.trans hk1
  have HBR1 := Lib.hid hBR1
  clear hBR1 hk1
  gi_wp2_with fail
  have hs1 := hK1.size
  have hs1' : w.heap.size < w1.heap.size := HBR1.out.lt
  have kz := (Kept.refl [] w1).alloc (.cells #[.int .i64 0, .slice none 0 0] 52)
  have kza := kz.alloc (.cells #[.pointer none, .pointer (some ⟨w1.heap.size, 0, none⟩)] 23)
  have bz := (Blk.new w1 #[.int .i64 0, .slice none 0 0] 52).alloc (.cells #[.pointer none, .pointer (some ⟨w1.heap.size, 0, none⟩)] 23)
  have ba := Blk.new (w1.alloc (.cells #[.int .i64 0, .slice none 0 0] 52)) #[.pointer none, .pointer (some ⟨w1.heap.size, 0, none⟩)] 23
  rw [World.size_alloc] at ba
  obtain ⟨W2, hW2⟩ : ∃ W, (w1.alloc (.cells #[.int .i64 0, .slice none 0 0] 52)).alloc (.cells #[.pointer none, .pointer (some ⟨w1.heap.size, 0, none⟩)] 23) = W := ⟨_, rfl⟩
  rw [hW2] at kza bz ba ⊢
  have hK2 := hK1.trans kza
  have hBR2 := HBR1.out.kept kza (by simp)
  have hsh : Sh W2 [w1.heap.size] w1.heap.size 0 [] := ⟨by omega, by omega, by simp, .slice none 0 0, bz, World.ownsRow_nil _ _ _ _, rfl, by simp [Value.ownBlock]⟩
  have HBA := Lib.hid ba
  have HBR2 := Lib.hid hBR2
  have HSH := Lib.hid hsh
  obtain ⟨Z, hZ⟩ : ∃ Z, w1.heap.size = Z := ⟨_, rfl⟩
  rw [hZ] at HBA HSH hs1 hs1' ⊢
  clear hW2 kz kza bz ba hBR2 hsh hZ hK1
  gi_loopw [28] (fun i wr => ∃ (k : Nat), i = .int .i64 k ∧ k ≤ 2 ∧ (∃ F, Sh wr F Z 0 [] ∧ ∀ z ∈ F, z ∈ [Z] ∨ W2.heap.size ≤ z) ∧ Kept [Z] W2 wr) (fun i _ => 2 - (intOf i).toNat)
  case atStart => exact ⟨0, rfl, by omega, ⟨_, HSH.out, fun z hz => .inl hz⟩, Kept.refl _ _⟩
  case round =>
    obtain ⟨k, rfl, hk, ⟨FZ, hsz, hFZ⟩, hKr⟩ := hrel
    by_cases hlt : k < 2
    · obtain ⟨tp, S, B, htc, hD0, hB0, hend⟩ : ∃ tp S B, wr.cell? ⟨Z + 1, k, none⟩ = some (.pointer tp) ∧ Dead S B wr tp ∧ Kept S B wr ∧ ∀ w', Dead S B w' tp → Kept S B w' → (∃ F, Sh w' F Z 0 [] ∧ ∀ z ∈ F, z ∈ [Z] ∨ W2.heap.size ≤ z) ∧ Kept [Z] W2 w' := by
        match k, hlt with
        | 0, _ => exact ⟨none, [], wr, hKr.cell (by simp) (by rw [HBA.out.cell]; rfl), .inl rfl, Kept.refl _ _, fun w' _ hk' => ⟨⟨FZ, hsz.keep hk', hFZ⟩, hKr.trans hk'.nil⟩⟩
        | 1, _ => exact ⟨_, [Z], W2, hKr.cell (by simp) (by rw [HBA.out.cell]; rfl), .inr ⟨Z, FZ, rfl, hsz, hFZ⟩, hKr, fun w' hd' hk' => by
            refine ⟨?_, hk'⟩
            rcases hd' with h | ⟨b, F, e, hs, hF⟩
            · cases h
            · injection e with e; injection e with e; subst e; exact ⟨F, hs, hF⟩⟩
      have HEND := Lib.hid hend
      clear hsz hFZ hKr hend FZ
      gi_wp2_with fail
      refine ⟨trivial, (callsIn_wide.2 (dead_oldest S B tp _ hD0 hB0)).mono ?_⟩
      rintro e y1 ⟨rfl, hD1, hB1⟩
      clear hD0 hB0
      gi_wp2_with fail
      refine ⟨trivial, (callsIn_wide.2 (dead_put S B tp 0 0 _ _ hD1 hB1)).mono ?_⟩
      rintro e y2 ⟨rfl, hD2, hB2⟩
      clear hD1 hB1
      gi_wp2_with fail
      refine ⟨trivial, (callsIn_wide.2 (dead_clear S B tp 9 _ hD2 hB2)).mono ?_⟩
      rintro e y3 ⟨rfl, hD3, hB3⟩
      clear hD2 hB2
      gi_wp2_with fail
      refine ⟨trivial, (callsIn_wide.2 (dead_len S B tp _ hD3 hB3)).mono ?_⟩
      rintro e y4 ⟨rfl, hD4, hB4⟩
      clear hD3 hB3
      gi_wp2_with fail
      refine ⟨trivial, (callsIn_wide.2 (dead_most S B tp _ hD4 hB4)).mono ?_⟩
      rintro e y5 ⟨rfl, hD5, hB5⟩
      clear hD4 hB4
      gi_wp2_with fail
      refine ⟨trivial, (callsIn_wide.2 (dead_all S B tp _ hD5)).mono ?_⟩
      rintro e y6 ⟨va, rfl, hita, hk6⟩
      have hD6 := Dead.keep hD5 hk6
      have hB6 := Kept.trans hB5 hk6.nil
      clear hD5 hB5
      gi_wp2_with fail
      refine ⟨trivial, (callsIn_wide.2 (tells_any va (.slice none 0 0) [] 0 _ hita (RdT.nil _))).mono ?_⟩
      rintro e y7 ⟨rfl, hk7⟩
      have hD7 := Dead.keep hD6 hk7
      have hB7 := Kept.trans hB6 hk7.nil
      clear hD6 hB6
      gi_wp2_with fail
      refine ⟨trivial, (callsIn_wide.2 (ending_any tp [] 9 _ (Dead.src hD7))).mono ?_⟩
      rintro e y8 ⟨ve, rfl, hite, hk8⟩
      have hD8 := Dead.keep hD7 hk8
      have hB8 := Kept.trans hB7 hk8.nil
      clear hD7 hB7
      gi_wp2_with fail
      refine ⟨trivial, (callsIn_wide.2 (told_any ve (.slice none 0 0) [] 0 _ hite (RdS.nil _))).mono ?_⟩
      rintro e y9 ⟨rfl, hk9⟩
      have hD9 := Dead.keep hD8 hk9
      have hB9 := Kept.trans hB8 hk9.nil
      clear hD8 hB8
      gi_wp2_with fail
      refine ⟨trivial, (callsIn_wide.2 (beginning_any tp [] (-9) _ (Dead.src hD9))).mono ?_⟩
      rintro e y10 ⟨vb, rfl, hitb, hk10⟩
      have hD10 := Dead.keep hD9 hk10
      have hB10 := Kept.trans hB9 hk10.nil
      clear hD9 hB9
      gi_wp2_with fail
      refine ⟨trivial, (callsIn_wide.2 (told_any vb (.slice none 0 0) [] 0 _ hitb (RdS.nil _))).mono ?_⟩
      rintro e y11 ⟨rfl, hk11⟩
      have hD11 := Dead.keep hD10 hk11
      have hB11 := Kept.trans hB10 hk11.nil
      clear hD10 hB10
      gi_wp2_with fail
      refine ⟨trivial, (callsIn_wide.2 (dead_take S B tp (.func 23) #[] #[] _ hD11 hB11)).mono ?_⟩
      rintro e y12 ⟨rfl, hD12, hB12⟩
      clear hD11 hB11
      gi_wp2_with fail
      refine ⟨trivial, (callsIn_wide.2 (dead_clone S B tp _ hD12 hB12)).mono ?_⟩
      rintro e y13 ⟨rfl, hD13, hB13⟩
      clear hD12 hB12
      gi_wp2_with fail
      obtain ⟨r1, r2⟩ := HEND.out _ hD13 hB13
      go_roundw
      case rel => exact ⟨k + 1, by go_num, by omega, r1, r2⟩
      case measure => simp [intOf]; omega
    · have hBR3 := HBR2.out.kept hKr (by simp; omega)
      have hK3 : Kept [] w wr := hK2.after hKr (by simp; omega)
      have HBR3 := Lib.hid hBR3
      clear hsz hFZ FZ hKr hBR3 hK2
      obtain ⟨w3, rfl⟩ : ∃ x, x = wr := ⟨_, rfl⟩
      gi_wp2_with fail
      refine ⟨trivial, (callsIn_wide.2 (new_any 9 _ (by omega))).mono ?_⟩
      rintro e w4 ⟨rfl, hs4, hk4⟩
      obtain ⟨sb, hsb⟩ : ∃ sb, w3.heap.size = sb := ⟨_, rfl⟩
      rw [hsb] at hs4 ⊢
      have hF4 : ∀ z ∈ [sb], w3.heap.size ≤ z := by simp; omega
      clear hsb
      gi_wp2_with fail
      refine ⟨trivial, (callsIn_wide.2 (rnew_any 9 _ (by omega))).mono ?_⟩
      rintro e w5 ⟨rfl, hr5, hk5⟩
      obtain ⟨rb, hrb⟩ : ∃ rb, w4.heap.size = rb := ⟨_, rfl⟩
      rw [hrb] at hr5 ⊢
      have hs4l := hk4.size
      have hG5 : ∀ z ∈ [rb], w3.heap.size ≤ z := by simp; omega
      have hsl := hs4.lt sb (by simp)
      have hd5 : ∀ z ∈ [sb], z ∉ [rb] := by simp; omega
      have hs5 := hs4.keep hk5
      have hK5 := hk4.trans hk5
      clear hrb hs4 hk4 hk5 hsl hs4l
      gi_wp2_with fail
      gi_loopw [100] (fun i wr => ∃ (k : Nat) (F G : List Nat) (L : List Th), i = .int .i64 k ∧ k ≤ n ∧ Sh wr F sb 9 L ∧ RSh wr G rb 9 L ∧ (∀ z ∈ F, z ∉ G) ∧ (∀ z ∈ F, w3.heap.size ≤ z) ∧ (∀ z ∈ G, w3.heap.size ≤ z) ∧ Kept [] w3 wr) (fun i _ => n - (intOf i).toNat)
      case atStart => exact ⟨0, _, _, [], rfl, by omega, hs5, hr5, hd5, hF4, hG5, hK5⟩
      case round =>
        obtain ⟨k1, F, G, L, rfl, hk1, hs, hr, hd, hF, hG, hK⟩ := hrel
        clear hs5 hr5 hd5 hF4 hG5 hK5
        by_cases hlt1 : k1 < n
        · obtain ⟨⟨d, ⟨x1, x2⟩, xt, at'⟩, ho⟩ : ∃ o, l[k1]? = some o := ⟨_, List.getElem?_eq_getElem (by rw [HN.out]; exact hlt1)⟩
          obtain ⟨A', c', he, _, hcell⟩ := HX.out.keep (hK3.trans hK)
          obtain ⟨bb, off, rfl, hcc⟩ := hcell (by rintro rfl; simp at ho)
          injection he with he1 he2 he3
          subst he1 he3
          have e0 := hcc k1 _ ho 0 (by omega)
          have e1 := hcc k1 _ ho 1 (by omega)
          have e2 := hcc k1 _ ho 2 (by omega)
          have e3 := hcc k1 _ ho 3 (by omega)
          have e4 := hcc k1 _ ho 4 (by omega)
          simp [opCells] at e0 e1 e2 e3 e4
          have hka := (Kept.refl [] wr).alloc (.cells #[.int .i64 d, .int .i64 x1, .int .i64 x2, .string xt, .int .i64 at'] 31)
          have DO := Lib.hid (does_any F G sb rb 9 L d x1 x2 xt at' _ (hs.keep hka) (hr.keep hka) hd)
          have hwj : IntKind.i64.wrap ((k1 : Int) + 1) = ((k1 + 1 : Nat) : Int) := by unfold IntKind.wrap; simp [IntKind.signed, IntKind.bits]; omega
          have HWJ := Lib.hid hwj
          have hkaK := hK.trans hka
          clear hcc ho hcell he2 hka hs hr hwj
          gi_wp2_with fail
          refine ⟨trivial, (callsIn_wide.2 DO.out).mono ?_⟩
          rintro e w6 ⟨rfl, hk6, F6, G6, hs6, hr6, hF6, hG6, hd6⟩
          have hK6 : Kept [] w3 w6 := hkaK.after hk6 (fun z hz => by
            rw [List.mem_append] at hz
            rcases hz with hz | hz
            · exact hF z hz
            · exact hG z hz)
          have hsA := hkaK.size
          have hF6' : ∀ z ∈ F6, w3.heap.size ≤ z := fun z hz => (hF6 z hz).elim (hF z) (fun h => Nat.le_trans hsA h)
          have hG6' : ∀ z ∈ G6, w3.heap.size ≤ z := fun z hz => (hG6 z hz).elim (hG z) (fun h => Nat.le_trans hsA h)
          clear hk6 hF6 hG6 hF hG hd hkaK
          gi_wp2_with fail
          go_roundw
          case rel => exact ⟨k1 + 1, F6, G6, _, by go_num, by omega, hs6, hr6, hd6, hF6', hG6', hK6⟩
          case measure => simp [intOf]; omega
        · obtain ⟨w6, rfl⟩ : ∃ x, x = wr := ⟨_, rfl⟩
          gi_wp2_with fail
          refine ⟨trivial, (callsIn_wide.2 (clone_any F sb 9 L _ hs (by decide))).mono ?_⟩
          rintro e w7 ⟨cb, F7, rfl, hc7, hF7, hk7⟩
          have hs7 := hs.keep hk7
          have hr7 := hr.keep hk7
          gi_wp2_with fail
          refine ⟨trivial, (callsIn_wide.2 (rclone_any G rb 9 L _ hr7)).mono ?_⟩
          rintro e w8 ⟨db, G8, rfl, hd8, hG8, hk8⟩
          have hc8 := hc7.keep hk8
          have hK68 := hk7.trans hk8
          have hz7 := hk7.size
          have hFG8 : ∀ z ∈ F7, z ∉ G8 := fun z hz hz2 => by have := hc7.lt z hz; have := hG8 z hz2; omega
          have hF7s : ∀ z ∈ F, z < w6.heap.size := hs.lt
          have hG7s : ∀ z ∈ G, z < w6.heap.size := hr.lt
          have hG8' : ∀ z ∈ G8, w6.heap.size ≤ z := fun z hz => Nat.le_trans hz7 (hG8 z hz)
          have HS6 := Lib.hid hs
          have HR6 := Lib.hid hr
          have hbr6 := HBR3.out.kept hK (by simp)
          have HBR6 := Lib.hid hbr6
          have HK6 := Lib.hid (hK3.trans hK)
          have HK68 := Lib.hid hK68
          have hsz68 := hK68.size
          have hF7' : ∀ z ∈ F7, w6.heap.size ≤ z := hF7
          clear hs hr hs7 hr7 hc7 hk7 hk8 hd hF hG hz7 hG8 hbr6 hK68 hF7 hF7s hG7s hK
          gi_wp2_with fail
          gi_loopw [115] (fun i wr => ∃ (k : Nat) (F G : List Nat) (L : List Th), i = .int .i64 k ∧ k ≤ n2 ∧ Sh wr F cb 9 L ∧ RSh wr G db 9 L ∧ (∀ z ∈ F, z ∉ G) ∧ (∀ z ∈ F, w6.heap.size ≤ z) ∧ (∀ z ∈ G, w6.heap.size ≤ z) ∧ Kept [] w6 wr) (fun i _ => n2 - (intOf i).toNat)
          case atStart => exact ⟨0, _, _, _, rfl, by omega, hc8, hd8, hFG8, hF7', hG8', HK68.out⟩
          case round =>
            obtain ⟨k2, F, G, L, rfl, hk2, hs, hr, hd, hF, hG, hK⟩ := hrel
            clear hc8 hd8 hFG8 hF7' hG8'
            by_cases hlt2 : k2 < n2
            · obtain ⟨⟨d, ⟨x1, x2⟩, xt, at'⟩, ho⟩ : ∃ o, l2[k2]? = some o := ⟨_, List.getElem?_eq_getElem (by rw [HN2.out]; exact hlt2)⟩
              obtain ⟨A', c', he, _, hcell⟩ := HY.out.keep (HK6.out.trans hK)
              obtain ⟨bb, off, rfl, hcc⟩ := hcell (by rintro rfl; simp at ho)
              injection he with he1 he2 he3
              subst he1 he3
              have e0 := hcc k2 _ ho 0 (by omega)
              have e1 := hcc k2 _ ho 1 (by omega)
              have e2 := hcc k2 _ ho 2 (by omega)
              have e3 := hcc k2 _ ho 3 (by omega)
              have e4 := hcc k2 _ ho 4 (by omega)
              simp [opCells] at e0 e1 e2 e3 e4
              have hka := (Kept.refl [] wr).alloc (.cells #[.int .i64 d, .int .i64 x1, .int .i64 x2, .string xt, .int .i64 at'] 31)
              have DO := Lib.hid (does_any F G cb db 9 L d x1 x2 xt at' _ (hs.keep hka) (hr.keep hka) hd)
              have hwj : IntKind.i64.wrap ((k2 : Int) + 1) = ((k2 + 1 : Nat) : Int) := by unfold IntKind.wrap; simp [IntKind.signed, IntKind.bits]; omega
              have HWJ := Lib.hid hwj
              have hkaK := hK.trans hka
              clear hcc ho hcell he2 hka hs hr hwj
              gi_wp2_with fail
              refine ⟨trivial, (callsIn_wide.2 DO.out).mono ?_⟩
              rintro e w9 ⟨rfl, hk9, F9, G9, hs9, hr9, hF9, hG9, hd9⟩
              have hK9 : Kept [] w6 w9 := hkaK.after hk9 (fun z hz => by
                rw [List.mem_append] at hz
                rcases hz with hz | hz
                · exact hF z hz
                · exact hG z hz)
              have hsA := hkaK.size
              have hF9' : ∀ z ∈ F9, w6.heap.size ≤ z := fun z hz => (hF9 z hz).elim (hF z) (fun h => Nat.le_trans hsA h)
              have hG9' : ∀ z ∈ G9, w6.heap.size ≤ z := fun z hz => (hG9 z hz).elim (hG z) (fun h => Nat.le_trans hsA h)
              clear hk9 hF9 hG9 hF hG hd hkaK
              gi_wp2_with fail
              go_roundw
              case rel => exact ⟨k2 + 1, F9, G9, _, by go_num, by omega, hs9, hr9, hd9, hF9', hG9', hK9⟩
              case measure => simp [intOf]; omega
            · obtain ⟨w9, rfl⟩ : ∃ x, x = wr := ⟨_, rfl⟩
              have hsS := HS6.out.keep hK
              have hrS := HR6.out.keep hK
              have hbrS := HBR6.out.kept hK (by simp)
              have HSS := Lib.hid hsS
              have HRS := Lib.hid hrS
              have HCS := Lib.hid hs
              have HDS := Lib.hid hr
              have HBRS := Lib.hid hbrS
              have HK9 := Lib.hid (HK6.out.trans hK)
              clear hsS hrS hbrS hs hr hd hF hG hK
              gi_wp2_with fail
              refine ⟨trivial, (callsIn_wide.2 (newI_any _)).mono ?_⟩
              rintro e w' ⟨rfl, rfl⟩
              have bi := Blk.new w9 #[.int .i64 1, .slice none 0 0] 87
              have ki := (Kept.refl [] w9).alloc (.cells #[.int .i64 1, .slice none 0 0] 87)
              obtain ⟨w10, hw10⟩ : ∃ x, w9.alloc (.cells #[.int .i64 1, .slice none 0 0] 87) = x := ⟨_, rfl⟩
              rw [hw10] at bi ki ⊢
              obtain ⟨ib, hib⟩ : ∃ x, w9.heap.size = x := ⟨_, rfl⟩
              rw [hib] at bi ⊢
              have HBI := Lib.hid bi
              have HKI := Lib.hid ki
              have HIB := Lib.hid hib
              clear hw10 bi ki hib
              gi_wp2_with fail
              have b56 := Blk.new w10 #[.int .i64 5, .int .i64 6] 3
              have k56 := (Kept.refl [] w10).alloc (.cells #[.int .i64 5, .int .i64 6] 3)
              have hbi2 := HBI.out.kept k56 (by simp)
              have hib1 := HBI.out.lt
              obtain ⟨w11, hw11⟩ : ∃ x, w10.alloc (.cells #[.int .i64 5, .int .i64 6] 3) = x := ⟨_, rfl⟩
              rw [hw11] at b56 k56 hbi2 ⊢
              have HK56 := Lib.hid k56
              have HB56 := Lib.hid b56
              clear hw11 k56 b56
              refine ⟨trivial, (callsIn_wide.2 (putI_any ib w10.heap.size 2 _ hbi2)).mono ?_⟩
              rintro e w12 ⟨rfl, hk12, gi, capi, hbi12, hoi12⟩
              have hb56 := HB56.out.kept hk12 (by simp; omega)
              have hKall : Kept [] w9 w12 := (HKI.out.trans HK56.out).after hk12 (by simp; have := HIB.out; omega)
              have HKA := Lib.hid hKall
              have HBI12 := Lib.hid hbi12
              have HOI12 := Lib.hid hoi12
              have HB12 := Lib.hid hb56
              clear hk12 hbi2 hbi12 hoi12 hb56 hKall
              gi_wp2_with fail
              refine ⟨trivial, (callsIn_wide.2 (allI_sharp _ _)).mono ?_⟩
              rintro e w' ⟨rfl, rfl⟩
              gi_wp2_with fail
              have kx := (Kept.refl [] w12).alloc (.cells #[.pointer (some ⟨ib, 0, none⟩)] 63)
              have cx := (Blk.new w12 #[.pointer (some ⟨ib, 0, none⟩)] 63).cell 0
              obtain ⟨X0, hX0⟩ : ∃ X, w12.alloc (.cells #[.pointer (some ⟨ib, 0, none⟩)] 63) = X := ⟨_, rfl⟩
              have hsX0 : w12.heap.size ≤ X0.heap.size := by rw [← hX0]; simp
              rw [hX0] at kx cx ⊢
              have HKX := Lib.hid kx
              have hbx := HBI12.out.kept kx (by simp)
              have hox := ownsRow_keep HOI12.out kx (by simp)
              have hKw : Kept [] w X0 := (HK9.out.trans HKA.out).trans kx
              have hwX := hKw.size
              have HKW := Lib.hid hKw
              have HBX := Lib.hid hbx
              clear hX0 kx hKw
              refine wpIn_rangeFunc_B (by omega) (gf := 45) (lb := #[.pointer (some ⟨w12.heap.size, 0, none⟩)]) rfl (enters_of Try.func45 (by kernel_rfl) rfl)
                (all1I_stops 8 (by omega) w12.heap.size ib gi capi w10.heap.size 2 X0 hbx hox cx) KeptC.trans (fun W l o o' _ h hc _ => KeptC.putObj h hc) (Below.refl _ _) (fun _ => rfl)
                (fun _ X => Kept [] X0 X) (fun _ _ _ => False) (kept_ownB (Nat.le_refl _)) (fun _ _ _ _ _ hs _ _ => hs) (Kept.refl _ _)
                (fun T x a' X => a' = { tmps := ((T.setIfInBounds 140 (.agg #[.int .i64 2, .int .i64 3])).setIfInBounds 141 (.slice (some ⟨w10.heap.size, 0, none⟩) 2 2)).setIfInBounds 21 (.slice (some ⟨w10.heap.size, 0, none⟩) 2 2), defers := [] })
                (fun T x a' _ X Y row hs hg hr => hs) ?assign ?body ?done ?stop
              case assign =>
                rintro l3 pre x X K hI hK
                dsimp only [encI]
                gi_wp2
                exact hK _ _ (KeepsFrom.refl _ _) (KeptC.refl _ _) hI (by simp)
              case body =>
                rintro l3 pre x a' X hl3 ⟨rr, hrr⟩ hI rfl hlt3
                simp only [List.setIfInBounds_toArray, List.set_cons_succ, List.set_cons_zero]
                have b1 := (HB12.out.kept HKX.out (by simp)).kept hI (by simp)
                have k2' := (Kept.refl [] X).alloc (.cells #[.int .i64 5, .int .i64 6] 3)
                have EQ := Lib.hid (equal_any .i64 _ _ [5, 6] [5, 6] _ (rd56 (b1.kept k2' (by simp))) (rd56 (Blk.new X #[.int .i64 5, .int .i64 6] 3)))
                have HK2' := Lib.hid k2'
                clear b1 k2'
                gi_wp2_with fail
                refine ⟨trivial, (calls_any EQ.out).mono ?_⟩
                rintro e w' ⟨rfl, q, rfl⟩
                rw [show decide True = true from rfl]
                gi_wp2_with fail
                exact ⟨(HK2'.out.drewN q).keepsFrom _, KeptC.nil (HK2'.out.drewN q), hI.trans (HK2'.out.drewN q)⟩
              case stop =>
                rintro D cc pre X hD _ h hK
                exact h.elim
              case done =>
                rintro D ys X hD rfl hI hKD
                have hbX := HBX.out.kept hI (by simp)
                have hK9X := (HKA.out.trans HKX.out).trans hI
                have HDK := Lib.hid hKD
                have HI := Lib.hid hI
                have S1 := Lib.hid (fun (W : World) (k : Kept [] w9 W) => same_any _ _ sb rb 9 _ 5 0 W (HSS.out.keep k) (HRS.out.keep k))
                have S2 := Lib.hid (fun (W : World) (k : Kept [] w9 W) => same_any _ _ cb db 9 _ 5 0 W (HCS.out.keep k) (HDS.out.keep k))
                have LE := Lib.hid (lenI_any ib gi capi 1 1 X hbX (by omega))
                clear hI hKD hbX
                gi_wp2_with fail
                refine ⟨trivial, (callsIn_wide.2 LE.out).mono ?_⟩
                rintro e w' ⟨rfl, rfl⟩
                gi_wp2_with fail
                refine ⟨trivial, (callsIn_wide.2 (S1.out _ hK9X)).mono ?_⟩
                rintro e w13 ⟨rfl, hk13⟩
                have hK13 := hK9X.trans hk13
                gi_wp2_with fail
                refine ⟨trivial, (callsIn_wide.2 (S2.out _ hK13)).mono ?_⟩
                rintro e w14 ⟨rfl, hk14⟩
                have hK14 := hK13.trans hk14
                have bR := HBRS.out.kept hK14 (by simp)
                have r0 := bR.cell 0
                have f0 := bR.free 0
                simp at r0
                have hKX14 := hk13.trans hk14
                have HBR14 := Lib.hid bR
                clear bR hk13 hk14
                gi_wp2_with fail
                have hDl := (Array.getElem?_eq_some_iff.1 HDK.out).1
                have hK' := (KeepsOthers.setCell w14 ⟨w.heap.size, 0, none⟩ (.bool true)).same D _ ((hKX14.block D hDl (by simp)).trans HDK.out) rfl
                refine ⟨by simp, .inl ⟨_, _, rfl, run_takeDeferred hK', ?_⟩⟩
                have hc5 := cell_kept ((show Boxed w14 _ _ _ from HBR14.out).set (.bool true)).cell (grownBy_putObj' _ D (.deferred none)) (fun r e => by cases e; exact ⟨_, hK', rfl⟩)
                have hKF := ((HK9.out.trans hK14).setCell (p := ⟨w.heap.size, 0, none⟩) (.inr (Nat.le_refl _)) (.bool true))
                refine ⟨.bool true, ?_, rfl, Kept.of_below (hKF.below.trans (belowK_b (w := w) (Nat.le_refl _) _ D _ _ (by omega) hK' rfl rfl))⟩
                simp [results, Try.f5, go_sem, hc5]

theorem shelfNone_walk (w : World) (A : Option Addr) (n cap : Nat) (x : List Opn) (hx : (Rk.slice opR).K w x [.slice A n cap]) (A2 : Option Addr) (n2 cap2 : Nat) (x2 : List Opn) (hx2 : (Rk.slice opR).K w x2 [.slice A2 n2 cap2]) :
    Calls Try.prog 5 #[.slice A n cap, .slice A2 n2 cap2] w fun e w' => e = .returned (.bool true) ∧ Below w.heap.size w w' :=
  (shelfNone_any w _ _ x x2 (RdO.of_rk hx) (RdO.of_rk hx2)).mono fun _ _ ⟨he, hk⟩ => ⟨he, hk.below⟩

end Go.Proofs.Ytdboipjbpkhacaa

/- sievelaw12.LinkRoads: the walk. -/
import Derived.Test.YtcffajmhegjhfaaRoads
set_option linter.unusedVariables false
namespace Go.Proofs.Ytcffajmhegjhfaa
open Go.RowKit Go.Lib Go.BigFrame

set_option maxRecDepth 100000 in
set_option maxHeartbeats 2000000 in
theorem linkRoads_any (v0 v1 : ByteArray) (w : World) (hv0 : v0.size ≤ 1048576) (hv1 : v1.size ≤ 1048576) :
    Calls Try.prog 5 #[.string v0, .string v1] w fun e w' => e = .returned (.bool true) ∧ Below w.heap.size w w' := by
  obtain ⟨a0, b0, c0, d0, f0, x0, y0, z0, u0, hp0⟩ := parts_any v0 hv0
  obtain ⟨a1, b1, c1, d1, f1, x1, y1, z1, u1, hp1⟩ := parts_any v1 hv1
  have hs0 := hp0.split
  have hs1 := hp1.split
  have hsz0 := hp0.sizes.2.2.1
  have hsz1 := hp1.sizes.2.2.1
  have hre := fun w => resolve_any a0 b0 c0 d0 f0 a1 b1 c1 d1 f1 x0 y0 z0 u0 x1 y1 z1 u1 w hp0.mend hp1.mend (by omega) (by omega)
  cases x1
  case true =>
    rw [resF_scheme] at hre
    have hre : ∀ w, Calls Try.prog 16 #[.agg #[.string a0, .string b0, .string c0, .string d0, .string f0, .bool x0, .bool y0, .bool z0, .bool u0], .agg #[.string a1, .string b1, .string c1, .string d1, .string f1, .bool true, .bool y1, .bool z1, .bool u1]] w fun e w' => e = .returned (.agg #[.string a1, .string b1, .string (dS c1), .string d1, .string f1, .bool true, .bool y1, .bool z1, .bool u1]) ∧ Below w.heap.size w w' := hre
    clear hp0 hp1
    go_enter Try.func5, Try.ntmps5
    go_wp2_with fail
    refine (hs0 _).mono ?_
    clear hs0
    rintro e w1 ⟨rfl, hb1⟩
    have HB1 := Lib.hid hb1
    clear hb1
    go_wp2_with fail
    refine (hs1 _).mono ?_
    clear hs1
    rintro e w2 ⟨rfl, hb2⟩
    have HB2 : Hid (Below w.heap.size w w2) := HB1.out.trans (hb2.mono HB1.out.size)
    clear hb2 HB1
    have hrB := (RowAt.new w2 #[.string a0, .string b0, .string c0, .string d0, .string f0, .bool x0, .bool y0, .bool z0, .bool u0] 24 [.string a0, .string b0, .string c0, .string d0, .string f0, .bool x0, .bool y0, .bool z0, .bool u0] rfl).alloc (.cells #[.string a1, .string b1, .string c1, .string d1, .string f1, .bool true, .bool y1, .bool z1, .bool u1] 24)
    have hrR := RowAt.new (w2.alloc (.cells #[.string a0, .string b0, .string c0, .string d0, .string f0, .bool x0, .bool y0, .bool z0, .bool u0] 24)) #[.string a1, .string b1, .string c1, .string d1, .string f1, .bool true, .bool y1, .bool z1, .bool u1] 24 [.string a1, .string b1, .string c1, .string d1, .string f1, .bool true, .bool y1, .bool z1, .bool u1] rfl
    rw [World.size_alloc] at hrR
    have hbb := (HB2.out.alloc HB2.out.size (.cells #[.string a0, .string b0, .string c0, .string d0, .string f0, .bool x0, .bool y0, .bool z0, .bool u0] 24)).alloc (by have := HB2.out.size; simp; omega) (.cells #[.string a1, .string b1, .string c1, .string d1, .string f1, .bool true, .bool y1, .bool z1, .bool u1] 24)
    have HRB := Lib.hid hrB
    have HRR := Lib.hid hrR
    have HBB := Lib.hid hbb
    clear hrB hrR hbb
    go_wp2_with fail
    refine (hre _).mono ?_
    clear hre
    rintro e w3 ⟨rfl, hb3⟩
    have hrB := (HRB.out.below hb3 HRB.out.lt).alloc (.cells #[.string a1, .string b1, .string (dS c1), .string d1, .string f1, .bool true, .bool y1, .bool z1, .bool u1] 24)
    have hrR := (HRR.out.below hb3 HRR.out.lt).alloc (.cells #[.string a1, .string b1, .string (dS c1), .string d1, .string f1, .bool true, .bool y1, .bool z1, .bool u1] 24)
    have hrT := RowAt.new w3 #[.string a1, .string b1, .string (dS c1), .string d1, .string f1, .bool true, .bool y1, .bool z1, .bool u1] 24 [.string a1, .string b1, .string (dS c1), .string d1, .string f1, .bool true, .bool y1, .bool z1, .bool u1] rfl
    have hbb := (HBB.out.trans (hb3.mono HBB.out.size)).alloc (Nat.le_trans HBB.out.size hb3.size) (.cells #[.string a1, .string b1, .string (dS c1), .string d1, .string f1, .bool true, .bool y1, .bool z1, .bool u1] 24)
    have hB3 := HB2.out.size
    have hlt3 : w2.heap.size + 1 < w3.heap.size := Nat.lt_of_lt_of_le HRR.out.lt hb3.size
    obtain ⟨T, hT⟩ : ∃ T, w3.heap.size = T := ⟨_, rfl⟩
    rw [hT] at hrT hlt3
    obtain ⟨R, hR⟩ : ∃ R, w2.heap.size + 1 = R := ⟨_, rfl⟩
    obtain ⟨B, hB⟩ : ∃ B, w2.heap.size = B := ⟨_, rfl⟩
    rw [hR] at hrR hlt3
    rw [hB] at hrB hB3
    have hBR : B < R := by omega
    have HRB3 := Lib.hid hrB
    have HRR3 := Lib.hid hrR
    have HRT3 := Lib.hid hrT
    have HBB3 := Lib.hid hbb
    have HT := Lib.hid hT
    have HR := Lib.hid hR
    have HB := Lib.hid hB
    clear hrB hrR hrT hbb hb3 hT hR hB HRB HRR HBB HB2
    go_upto_region 3 with fail
    rw [(HT.out : w3.heap.size = T), (HR.out : w2.heap.size + 1 = R), (HB.out : w2.heap.size = B)]
    have hrB := HRB3.out
    have hrR := HRR3.out
    have hrT := HRT3.out
    have hbb := HBB3.out
    obtain ⟨w4, hw4⟩ : ∃ w4, w3.alloc (.cells #[.string a1, .string b1, .string (dS c1), .string d1, .string f1, .bool true, .bool y1, .bool z1, .bool u1] 24) = w4 := ⟨_, rfl⟩
    rw [hw4] at hrB hrR hrT hbb ⊢
    have HBB4 := Lib.hid hbb
    have hlB := hrB.lt
    have hlR := hrR.lt
    have hlT := hrT.lt
    clear HRB3 HRR3 HRT3 HBB3 hbb hw4 HT HR HB
    have q5 := hrR.cell (j := 5) rfl
    have R0 : ∀ x : BW w4, x.world.cell? ⟨R, 0, none⟩ = some _ := fun x => (x.ok.cell (p := ⟨R, 0, none⟩) hlR).trans (hrR.cell (j := 0) rfl)
    have R1 : ∀ x : BW w4, x.world.cell? ⟨R, 1, none⟩ = some _ := fun x => (x.ok.cell (p := ⟨R, 1, none⟩) hlR).trans (hrR.cell (j := 1) rfl)
    have R2 : ∀ x : BW w4, x.world.cell? ⟨R, 2, none⟩ = some _ := fun x => (x.ok.cell (p := ⟨R, 2, none⟩) hlR).trans (hrR.cell (j := 2) rfl)
    have R3 : ∀ x : BW w4, x.world.cell? ⟨R, 3, none⟩ = some _ := fun x => (x.ok.cell (p := ⟨R, 3, none⟩) hlR).trans (hrR.cell (j := 3) rfl)
    have R4 : ∀ x : BW w4, x.world.cell? ⟨R, 4, none⟩ = some _ := fun x => (x.ok.cell (p := ⟨R, 4, none⟩) hlR).trans (hrR.cell (j := 4) rfl)
    have R5 : ∀ x : BW w4, x.world.cell? ⟨R, 5, none⟩ = some _ := fun x => (x.ok.cell (p := ⟨R, 5, none⟩) hlR).trans (hrR.cell (j := 5) rfl)
    have R6 : ∀ x : BW w4, x.world.cell? ⟨R, 6, none⟩ = some _ := fun x => (x.ok.cell (p := ⟨R, 6, none⟩) hlR).trans (hrR.cell (j := 6) rfl)
    have R7 : ∀ x : BW w4, x.world.cell? ⟨R, 7, none⟩ = some _ := fun x => (x.ok.cell (p := ⟨R, 7, none⟩) hlR).trans (hrR.cell (j := 7) rfl)
    have R8 : ∀ x : BW w4, x.world.cell? ⟨R, 8, none⟩ = some _ := fun x => (x.ok.cell (p := ⟨R, 8, none⟩) hlR).trans (hrR.cell (j := 8) rfl)
    have T0 : ∀ x : BW w4, x.world.cell? ⟨T, 0, none⟩ = some _ := fun x => (x.ok.cell (p := ⟨T, 0, none⟩) hlT).trans (hrT.cell (j := 0) rfl)
    have T1 : ∀ x : BW w4, x.world.cell? ⟨T, 1, none⟩ = some _ := fun x => (x.ok.cell (p := ⟨T, 1, none⟩) hlT).trans (hrT.cell (j := 1) rfl)
    have T2 : ∀ x : BW w4, x.world.cell? ⟨T, 2, none⟩ = some _ := fun x => (x.ok.cell (p := ⟨T, 2, none⟩) hlT).trans (hrT.cell (j := 2) rfl)
    have T3 : ∀ x : BW w4, x.world.cell? ⟨T, 3, none⟩ = some _ := fun x => (x.ok.cell (p := ⟨T, 3, none⟩) hlT).trans (hrT.cell (j := 3) rfl)
    have T4 : ∀ x : BW w4, x.world.cell? ⟨T, 4, none⟩ = some _ := fun x => (x.ok.cell (p := ⟨T, 4, none⟩) hlT).trans (hrT.cell (j := 4) rfl)
    have T5 : ∀ x : BW w4, x.world.cell? ⟨T, 5, none⟩ = some _ := fun x => (x.ok.cell (p := ⟨T, 5, none⟩) hlT).trans (hrT.cell (j := 5) rfl)
    have T6 : ∀ x : BW w4, x.world.cell? ⟨T, 6, none⟩ = some _ := fun x => (x.ok.cell (p := ⟨T, 6, none⟩) hlT).trans (hrT.cell (j := 6) rfl)
    have T7 : ∀ x : BW w4, x.world.cell? ⟨T, 7, none⟩ = some _ := fun x => (x.ok.cell (p := ⟨T, 7, none⟩) hlT).trans (hrT.cell (j := 7) rfl)
    have T8 : ∀ x : BW w4, x.world.cell? ⟨T, 8, none⟩ = some _ := fun x => (x.ok.cell (p := ⟨T, 8, none⟩) hlT).trans (hrT.cell (j := 8) rfl)
    have hd : ∀ w, Calls Try.prog 17 #[.string c1] w fun e w' => e = .returned (.string (dS c1)) ∧ Below w.heap.size w w' := fun w => dots_any c1 w (by omega)
    clear hrB hrR hrT
    go_upto_region 4 with fail
    refine wp_region_bw (by kernel_rfl) (by kernel_rfl) ?_
    repeat (go_big_quiet_step (first | (go_at_call 17; exact bw_call (hd _)) | (go_at_call 12; exact bw_call (awake_any _))))
    refine wpQuiet_nil ?_
    intro _ hw'
    obtain ⟨nx, hw''⟩ := hw'
    subst hw''
    clear R0 T0 R1 T1 R2 T2 R3 T3 R4 T4 R5 T5 R6 T6 R7 T7 R8 T8
    go_wp2_with fail
    go_ret
    exact ⟨rfl, HBB4.out.trans (nx.ok.mono HBB4.out.size)⟩
  case false =>
    by_cases hc : c1.data.toList = []
    · have hc1 : c1 = ⟨#[]⟩ := by
        apply ByteArray.ext
        apply Array.toList_inj.1
        rw [hc]
      by_cases hz : y1 = false ∧ z1 = false ∧ u1 = false
      · obtain ⟨rfl, rfl, rfl⟩ := hz
        have ea : a1 = ⟨#[]⟩ := hp1.noA rfl
        have eb : b1 = ⟨#[]⟩ := hp1.noB rfl
        have ed : d1 = ⟨#[]⟩ := hp1.noD rfl
        have ef : f1 = ⟨#[]⟩ := hp1.noF rfl
        subst ea eb ed ef hc1
        have hre : ∀ w, Calls Try.prog 16 #[.agg #[.string a0, .string b0, .string c0, .string d0, .string f0, .bool x0, .bool y0, .bool z0, .bool u0], .agg #[.string ⟨#[]⟩, .string ⟨#[]⟩, .string ⟨#[]⟩, .string ⟨#[]⟩, .string ⟨#[]⟩, .bool false, .bool false, .bool false, .bool false]] w fun e w' => e = .returned (.agg #[.string a0, .string b0, .string c0, .string d0, .string ⟨#[]⟩, .bool x0, .bool y0, .bool z0, .bool false]) ∧ Below w.heap.size w w' := fun w => by
          have := hre w
          rw [resF_zero _ _ _ _ _ _ _ _ _ _ _ _ _ hc] at this
          exact this
        clear hp0 hp1 hc
        go_enter Try.func5, Try.ntmps5
        go_wp2_with fail
        refine (hs0 _).mono ?_
        clear hs0
        rintro e w1 ⟨rfl, hb1⟩
        have HB1 := Lib.hid hb1
        clear hb1
        go_wp2_with fail
        refine (hs1 _).mono ?_
        clear hs1
        rintro e w2 ⟨rfl, hb2⟩
        have HB2 : Hid (Below w.heap.size w w2) := HB1.out.trans (hb2.mono HB1.out.size)
        clear hb2 HB1
        have hrB := (RowAt.new w2 #[.string a0, .string b0, .string c0, .string d0, .string f0, .bool x0, .bool y0, .bool z0, .bool u0] 24 [.string a0, .string b0, .string c0, .string d0, .string f0, .bool x0, .bool y0, .bool z0, .bool u0] rfl).alloc (.cells #[.string ⟨#[]⟩, .string ⟨#[]⟩, .string ⟨#[]⟩, .string ⟨#[]⟩, .string ⟨#[]⟩, .bool false, .bool false, .bool false, .bool false] 24)
        have hrR := RowAt.new (w2.alloc (.cells #[.string a0, .string b0, .string c0, .string d0, .string f0, .bool x0, .bool y0, .bool z0, .bool u0] 24)) #[.string ⟨#[]⟩, .string ⟨#[]⟩, .string ⟨#[]⟩, .string ⟨#[]⟩, .string ⟨#[]⟩, .bool false, .bool false, .bool false, .bool false] 24 [.string ⟨#[]⟩, .string ⟨#[]⟩, .string ⟨#[]⟩, .string ⟨#[]⟩, .string ⟨#[]⟩, .bool false, .bool false, .bool false, .bool false] rfl
        rw [World.size_alloc] at hrR
        have hbb := (HB2.out.alloc HB2.out.size (.cells #[.string a0, .string b0, .string c0, .string d0, .string f0, .bool x0, .bool y0, .bool z0, .bool u0] 24)).alloc (by have := HB2.out.size; simp; omega) (.cells #[.string ⟨#[]⟩, .string ⟨#[]⟩, .string ⟨#[]⟩, .string ⟨#[]⟩, .string ⟨#[]⟩, .bool false, .bool false, .bool false, .bool false] 24)
        have HRB := Lib.hid hrB
        have HRR := Lib.hid hrR
        have HBB := Lib.hid hbb
        clear hrB hrR hbb
        go_wp2_with fail
        refine (hre _).mono ?_
        clear hre
        rintro e w3 ⟨rfl, hb3⟩
        have hrB := (HRB.out.below hb3 HRB.out.lt).alloc (.cells #[.string a0, .string b0, .string c0, .string d0, .string ⟨#[]⟩, .bool x0, .bool y0, .bool z0, .bool false] 24)
        have hrR := (HRR.out.below hb3 HRR.out.lt).alloc (.cells #[.string a0, .string b0, .string c0, .string d0, .string ⟨#[]⟩, .bool x0, .bool y0, .bool z0, .bool false] 24)
        have hrT := RowAt.new w3 #[.string a0, .string b0, .string c0, .string d0, .string ⟨#[]⟩, .bool x0, .bool y0, .bool z0, .bool false] 24 [.string a0, .string b0, .string c0, .string d0, .string ⟨#[]⟩, .bool x0, .bool y0, .bool z0, .bool false] rfl
        have hbb := (HBB.out.trans (hb3.mono HBB.out.size)).alloc (Nat.le_trans HBB.out.size hb3.size) (.cells #[.string a0, .string b0, .string c0, .string d0, .string ⟨#[]⟩, .bool x0, .bool y0, .bool z0, .bool false] 24)
        have hB3 := HB2.out.size
        have hlt3 : w2.heap.size + 1 < w3.heap.size := Nat.lt_of_lt_of_le HRR.out.lt hb3.size
        obtain ⟨T, hT⟩ : ∃ T, w3.heap.size = T := ⟨_, rfl⟩
        rw [hT] at hrT hlt3
        obtain ⟨R, hR⟩ : ∃ R, w2.heap.size + 1 = R := ⟨_, rfl⟩
        obtain ⟨B, hB⟩ : ∃ B, w2.heap.size = B := ⟨_, rfl⟩
        rw [hR] at hrR hlt3
        rw [hB] at hrB hB3
        have hBR : B < R := by omega
        have HRB3 := Lib.hid hrB
        have HRR3 := Lib.hid hrR
        have HRT3 := Lib.hid hrT
        have HBB3 := Lib.hid hbb
        have HT := Lib.hid hT
        have HR := Lib.hid hR
        have HB := Lib.hid hB
        clear hrB hrR hrT hbb hb3 hT hR hB HRB HRR HBB HB2
        go_upto_region 3 with fail
        rw [(HT.out : w3.heap.size = T), (HR.out : w2.heap.size + 1 = R), (HB.out : w2.heap.size = B)]
        have hrB := HRB3.out
        have hrR := HRR3.out
        have hrT := HRT3.out
        have hbb := HBB3.out
        obtain ⟨w4, hw4⟩ : ∃ w4, w3.alloc (.cells #[.string a0, .string b0, .string c0, .string d0, .string ⟨#[]⟩, .bool x0, .bool y0, .bool z0, .bool false] 24) = w4 := ⟨_, rfl⟩
        rw [hw4] at hrB hrR hrT hbb ⊢
        have HBB4 := Lib.hid hbb
        have hlB := hrB.lt
        have hlR := hrR.lt
        have hlT := hrT.lt
        clear HRB3 HRR3 HRT3 HBB3 hbb hw4 HT HR HB
        have q5 := hrR.cell (j := 5) rfl
        have mB0 := hrB.cell (j := 0) rfl
        have mB1 := hrB.cell (j := 1) rfl
        have mB2 := hrB.cell (j := 2) rfl
        have mB3 := hrB.cell (j := 3) rfl
        have mB4 := hrB.cell (j := 4) rfl
        have mB5 := hrB.cell (j := 5) rfl
        have mB6 := hrB.cell (j := 6) rfl
        have mB7 := hrB.cell (j := 7) rfl
        have mB8 := hrB.cell (j := 8) rfl
        have mR0 := hrR.cell (j := 0) rfl
        have mR1 := hrR.cell (j := 1) rfl
        have mR2 := hrR.cell (j := 2) rfl
        have mR3 := hrR.cell (j := 3) rfl
        have mR4 := hrR.cell (j := 4) rfl
        have mR5 := hrR.cell (j := 5) rfl
        have mR6 := hrR.cell (j := 6) rfl
        have mR7 := hrR.cell (j := 7) rfl
        have mR8 := hrR.cell (j := 8) rfl
        have mT0 := hrT.cell (j := 0) rfl
        have mT1 := hrT.cell (j := 1) rfl
        have mT2 := hrT.cell (j := 2) rfl
        have mT3 := hrT.cell (j := 3) rfl
        have mT4 := hrT.cell (j := 4) rfl
        have mT5 := hrT.cell (j := 5) rfl
        have mT6 := hrT.cell (j := 6) rfl
        have mT7 := hrT.cell (j := 7) rfl
        have mT8 := hrT.cell (j := 8) rfl
        have fB4 := hrB.frozen (j := 4) (by simp)
        have fB8 := hrB.frozen (j := 8) (by simp)
        have hn1 : ¬ T = B := by omega
        have hn2 : ¬ B = T := by omega
        clear hrB hrR hrT
        go_wp2_with fail
        refine (awake_any _).mono ?_
        rintro e w5 ⟨rfl, hb5⟩
        clear mB0 mB1 mB2 mB3 mB4 mB5 mB6 mB7 mB8 mR0 mR1 mR2 mR3 mR4 mR5 mR6 mR7 mR8 mT0 mT1 mT2 mT3 mT4 mT5 mT6 mT7 mT8 fB4 fB8
        go_wp2_with fail
        go_ret
        refine ⟨rfl, (Below.setCell (p := ⟨B, 8, none⟩) (Below.setCell (p := ⟨B, 4, none⟩) HBB4.out hB3 _) hB3 _).trans (hb5.mono ?_)⟩
        have := HBB4.out.size
        simp only [World.size_setCell]
        exact this
      · have ea : a1 = ⟨#[]⟩ := hp1.noA rfl
        subst ea hc1
        obtain ⟨B', C', D', Y', Z', hrow⟩ := resF_empty a0 b0 c0 d0 ⟨#[]⟩ b1 ⟨#[]⟩ d1 f1 x0 y0 z0 y1 z1 u1 hc
        have hre : ∀ w, Calls Try.prog 16 #[.agg #[.string a0, .string b0, .string c0, .string d0, .string f0, .bool x0, .bool y0, .bool z0, .bool u0], .agg #[.string ⟨#[]⟩, .string b1, .string ⟨#[]⟩, .string d1, .string f1, .bool false, .bool y1, .bool z1, .bool u1]] w fun e w' => e = .returned (.agg #[.string a0, .string B', .string C', .string D', .string f1, .bool x0, .bool Y', .bool Z', .bool u1]) ∧ Below w.heap.size w w' := fun w => by
          have := hre w
          rw [hrow] at this
          exact this
        clear hrow hp0 hp1 hc
        have hz3 : y1 = true ∨ (y1 = false ∧ z1 = true) ∨ (y1 = false ∧ z1 = false ∧ u1 = true) := by
          cases y1 <;> cases z1 <;> cases u1 <;> simp_all
        clear hz
        rcases hz3 with rfl | ⟨rfl, rfl⟩ | ⟨rfl, rfl, rfl⟩
        · go_enter Try.func5, Try.ntmps5
          go_wp2_with fail
          refine (hs0 _).mono ?_
          clear hs0
          rintro e w1 ⟨rfl, hb1⟩
          have HB1 := Lib.hid hb1
          clear hb1
          go_wp2_with fail
          refine (hs1 _).mono ?_
          clear hs1
          rintro e w2 ⟨rfl, hb2⟩
          have HB2 : Hid (Below w.heap.size w w2) := HB1.out.trans (hb2.mono HB1.out.size)
          clear hb2 HB1
          have hrB := (RowAt.new w2 #[.string a0, .string b0, .string c0, .string d0, .string f0, .bool x0, .bool y0, .bool z0, .bool u0] 24 [.string a0, .string b0, .string c0, .string d0, .string f0, .bool x0, .bool y0, .bool z0, .bool u0] rfl).alloc (.cells #[.string ⟨#[]⟩, .string b1, .string ⟨#[]⟩, .string d1, .string f1, .bool false, .bool true, .bool z1, .bool u1] 24)
          have hrR := RowAt.new (w2.alloc (.cells #[.string a0, .string b0, .string c0, .string d0, .string f0, .bool x0, .bool y0, .bool z0, .bool u0] 24)) #[.string ⟨#[]⟩, .string b1, .string ⟨#[]⟩, .string d1, .string f1, .bool false, .bool true, .bool z1, .bool u1] 24 [.string ⟨#[]⟩, .string b1, .string ⟨#[]⟩, .string d1, .string f1, .bool false, .bool true, .bool z1, .bool u1] rfl
          rw [World.size_alloc] at hrR
          have hbb := (HB2.out.alloc HB2.out.size (.cells #[.string a0, .string b0, .string c0, .string d0, .string f0, .bool x0, .bool y0, .bool z0, .bool u0] 24)).alloc (by have := HB2.out.size; simp; omega) (.cells #[.string ⟨#[]⟩, .string b1, .string ⟨#[]⟩, .string d1, .string f1, .bool false, .bool true, .bool z1, .bool u1] 24)
          have HRB := Lib.hid hrB
          have HRR := Lib.hid hrR
          have HBB := Lib.hid hbb
          clear hrB hrR hbb
          go_wp2_with fail
          refine (hre _).mono ?_
          clear hre
          rintro e w3 ⟨rfl, hb3⟩
          have hrB := (HRB.out.below hb3 HRB.out.lt).alloc (.cells #[.string a0, .string B', .string C', .string D', .string f1, .bool x0, .bool Y', .bool Z', .bool u1] 24)
          have hrR := (HRR.out.below hb3 HRR.out.lt).alloc (.cells #[.string a0, .string B', .string C', .string D', .string f1, .bool x0, .bool Y', .bool Z', .bool u1] 24)
          have hrT := RowAt.new w3 #[.string a0, .string B', .string C', .string D', .string f1, .bool x0, .bool Y', .bool Z', .bool u1] 24 [.string a0, .string B', .string C', .string D', .string f1, .bool x0, .bool Y', .bool Z', .bool u1] rfl
          have hbb := (HBB.out.trans (hb3.mono HBB.out.size)).alloc (Nat.le_trans HBB.out.size hb3.size) (.cells #[.string a0, .string B', .string C', .string D', .string f1, .bool x0, .bool Y', .bool Z', .bool u1] 24)
          have hB3 := HB2.out.size
          have hlt3 : w2.heap.size + 1 < w3.heap.size := Nat.lt_of_lt_of_le HRR.out.lt hb3.size
          obtain ⟨T, hT⟩ : ∃ T, w3.heap.size = T := ⟨_, rfl⟩
          rw [hT] at hrT hlt3
          obtain ⟨R, hR⟩ : ∃ R, w2.heap.size + 1 = R := ⟨_, rfl⟩
          obtain ⟨B, hB⟩ : ∃ B, w2.heap.size = B := ⟨_, rfl⟩
          rw [hR] at hrR hlt3
          rw [hB] at hrB hB3
          have hBR : B < R := by omega
          have HRB3 := Lib.hid hrB
          have HRR3 := Lib.hid hrR
          have HRT3 := Lib.hid hrT
          have HBB3 := Lib.hid hbb
          have HT := Lib.hid hT
          have HR := Lib.hid hR
          have HB := Lib.hid hB
          clear hrB hrR hrT hbb hb3 hT hR hB HRB HRR HBB HB2
          go_upto_region 3 with fail
          rw [(HT.out : w3.heap.size = T), (HR.out : w2.heap.size + 1 = R), (HB.out : w2.heap.size = B)]
          have hrB := HRB3.out
          have hrR := HRR3.out
          have hrT := HRT3.out
          have hbb := HBB3.out
          obtain ⟨w4, hw4⟩ : ∃ w4, w3.alloc (.cells #[.string a0, .string B', .string C', .string D', .string f1, .bool x0, .bool Y', .bool Z', .bool u1] 24) = w4 := ⟨_, rfl⟩
          rw [hw4] at hrB hrR hrT hbb ⊢
          have HBB4 := Lib.hid hbb
          have hlB := hrB.lt
          have hlR := hrR.lt
          have hlT := hrT.lt
          clear HRB3 HRR3 HRT3 HBB3 hbb hw4 HT HR HB
          have q5 := hrR.cell (j := 5) rfl
          have mB0 := hrB.cell (j := 0) rfl
          have mB1 := hrB.cell (j := 1) rfl
          have mB2 := hrB.cell (j := 2) rfl
          have mB3 := hrB.cell (j := 3) rfl
          have mB4 := hrB.cell (j := 4) rfl
          have mB5 := hrB.cell (j := 5) rfl
          have mB6 := hrB.cell (j := 6) rfl
          have mB7 := hrB.cell (j := 7) rfl
          have mB8 := hrB.cell (j := 8) rfl
          have mR0 := hrR.cell (j := 0) rfl
          have mR1 := hrR.cell (j := 1) rfl
          have mR2 := hrR.cell (j := 2) rfl
          have mR3 := hrR.cell (j := 3) rfl
          have mR4 := hrR.cell (j := 4) rfl
          have mR5 := hrR.cell (j := 5) rfl
          have mR6 := hrR.cell (j := 6) rfl
          have mR7 := hrR.cell (j := 7) rfl
          have mR8 := hrR.cell (j := 8) rfl
          have mT0 := hrT.cell (j := 0) rfl
          have mT1 := hrT.cell (j := 1) rfl
          have mT2 := hrT.cell (j := 2) rfl
          have mT3 := hrT.cell (j := 3) rfl
          have mT4 := hrT.cell (j := 4) rfl
          have mT5 := hrT.cell (j := 5) rfl
          have mT6 := hrT.cell (j := 6) rfl
          have mT7 := hrT.cell (j := 7) rfl
          have mT8 := hrT.cell (j := 8) rfl
          have R0 : ∀ x : BW w4, x.world.cell? ⟨R, 0, none⟩ = some _ := fun x => (x.ok.cell (p := ⟨R, 0, none⟩) hlR).trans (hrR.cell (j := 0) rfl)
          have R1 : ∀ x : BW w4, x.world.cell? ⟨R, 1, none⟩ = some _ := fun x => (x.ok.cell (p := ⟨R, 1, none⟩) hlR).trans (hrR.cell (j := 1) rfl)
          have R2 : ∀ x : BW w4, x.world.cell? ⟨R, 2, none⟩ = some _ := fun x => (x.ok.cell (p := ⟨R, 2, none⟩) hlR).trans (hrR.cell (j := 2) rfl)
          have R3 : ∀ x : BW w4, x.world.cell? ⟨R, 3, none⟩ = some _ := fun x => (x.ok.cell (p := ⟨R, 3, none⟩) hlR).trans (hrR.cell (j := 3) rfl)
          have R4 : ∀ x : BW w4, x.world.cell? ⟨R, 4, none⟩ = some _ := fun x => (x.ok.cell (p := ⟨R, 4, none⟩) hlR).trans (hrR.cell (j := 4) rfl)
          have R5 : ∀ x : BW w4, x.world.cell? ⟨R, 5, none⟩ = some _ := fun x => (x.ok.cell (p := ⟨R, 5, none⟩) hlR).trans (hrR.cell (j := 5) rfl)
          have R6 : ∀ x : BW w4, x.world.cell? ⟨R, 6, none⟩ = some _ := fun x => (x.ok.cell (p := ⟨R, 6, none⟩) hlR).trans (hrR.cell (j := 6) rfl)
          have R7 : ∀ x : BW w4, x.world.cell? ⟨R, 7, none⟩ = some _ := fun x => (x.ok.cell (p := ⟨R, 7, none⟩) hlR).trans (hrR.cell (j := 7) rfl)
          have R8 : ∀ x : BW w4, x.world.cell? ⟨R, 8, none⟩ = some _ := fun x => (x.ok.cell (p := ⟨R, 8, none⟩) hlR).trans (hrR.cell (j := 8) rfl)
          have T0 : ∀ x : BW w4, x.world.cell? ⟨T, 0, none⟩ = some _ := fun x => (x.ok.cell (p := ⟨T, 0, none⟩) hlT).trans (hrT.cell (j := 0) rfl)
          have T1 : ∀ x : BW w4, x.world.cell? ⟨T, 1, none⟩ = some _ := fun x => (x.ok.cell (p := ⟨T, 1, none⟩) hlT).trans (hrT.cell (j := 1) rfl)
          have T2 : ∀ x : BW w4, x.world.cell? ⟨T, 2, none⟩ = some _ := fun x => (x.ok.cell (p := ⟨T, 2, none⟩) hlT).trans (hrT.cell (j := 2) rfl)
          have T3 : ∀ x : BW w4, x.world.cell? ⟨T, 3, none⟩ = some _ := fun x => (x.ok.cell (p := ⟨T, 3, none⟩) hlT).trans (hrT.cell (j := 3) rfl)
          have T4 : ∀ x : BW w4, x.world.cell? ⟨T, 4, none⟩ = some _ := fun x => (x.ok.cell (p := ⟨T, 4, none⟩) hlT).trans (hrT.cell (j := 4) rfl)
          have T5 : ∀ x : BW w4, x.world.cell? ⟨T, 5, none⟩ = some _ := fun x => (x.ok.cell (p := ⟨T, 5, none⟩) hlT).trans (hrT.cell (j := 5) rfl)
          have T6 : ∀ x : BW w4, x.world.cell? ⟨T, 6, none⟩ = some _ := fun x => (x.ok.cell (p := ⟨T, 6, none⟩) hlT).trans (hrT.cell (j := 6) rfl)
          have T7 : ∀ x : BW w4, x.world.cell? ⟨T, 7, none⟩ = some _ := fun x => (x.ok.cell (p := ⟨T, 7, none⟩) hlT).trans (hrT.cell (j := 7) rfl)
          have T8 : ∀ x : BW w4, x.world.cell? ⟨T, 8, none⟩ = some _ := fun x => (x.ok.cell (p := ⟨T, 8, none⟩) hlT).trans (hrT.cell (j := 8) rfl)
          clear hrB hrR hrT
          go_upto_region 10 with fail
          refine wp_region_bw (by kernel_rfl) (by kernel_rfl) ?_
          repeat (go_big_quiet_step (first | (go_at_call 12; exact bw_call (awake_any _))))
          refine wpQuiet_nil ?_
          intro _ hw'
          obtain ⟨nx, hw''⟩ := hw'
          subst hw''
          clear R0 T0 mR0 mT0 mB0 R1 T1 mR1 mT1 mB1 R2 T2 mR2 mT2 mB2 R3 T3 mR3 mT3 mB3 R4 T4 mR4 mT4 mB4 R5 T5 mR5 mT5 mB5 R6 T6 mR6 mT6 mB6 R7 T7 mR7 mT7 mB7 R8 T8 mR8 mT8 mB8
          go_wp2_with fail
          go_ret
          exact ⟨rfl, HBB4.out.trans (nx.ok.mono HBB4.out.size)⟩
        · go_enter Try.func5, Try.ntmps5
          go_wp2_with fail
          refine (hs0 _).mono ?_
          clear hs0
          rintro e w1 ⟨rfl, hb1⟩
          have HB1 := Lib.hid hb1
          clear hb1
          go_wp2_with fail
          refine (hs1 _).mono ?_
          clear hs1
          rintro e w2 ⟨rfl, hb2⟩
          have HB2 : Hid (Below w.heap.size w w2) := HB1.out.trans (hb2.mono HB1.out.size)
          clear hb2 HB1
          have hrB := (RowAt.new w2 #[.string a0, .string b0, .string c0, .string d0, .string f0, .bool x0, .bool y0, .bool z0, .bool u0] 24 [.string a0, .string b0, .string c0, .string d0, .string f0, .bool x0, .bool y0, .bool z0, .bool u0] rfl).alloc (.cells #[.string ⟨#[]⟩, .string b1, .string ⟨#[]⟩, .string d1, .string f1, .bool false, .bool false, .bool true, .bool u1] 24)
          have hrR := RowAt.new (w2.alloc (.cells #[.string a0, .string b0, .string c0, .string d0, .string f0, .bool x0, .bool y0, .bool z0, .bool u0] 24)) #[.string ⟨#[]⟩, .string b1, .string ⟨#[]⟩, .string d1, .string f1, .bool false, .bool false, .bool true, .bool u1] 24 [.string ⟨#[]⟩, .string b1, .string ⟨#[]⟩, .string d1, .string f1, .bool false, .bool false, .bool true, .bool u1] rfl
          rw [World.size_alloc] at hrR
          have hbb := (HB2.out.alloc HB2.out.size (.cells #[.string a0, .string b0, .string c0, .string d0, .string f0, .bool x0, .bool y0, .bool z0, .bool u0] 24)).alloc (by have := HB2.out.size; simp; omega) (.cells #[.string ⟨#[]⟩, .string b1, .string ⟨#[]⟩, .string d1, .string f1, .bool false, .bool false, .bool true, .bool u1] 24)
          have HRB := Lib.hid hrB
          have HRR := Lib.hid hrR
          have HBB := Lib.hid hbb
          clear hrB hrR hbb
          go_wp2_with fail
          refine (hre _).mono ?_
          clear hre
          rintro e w3 ⟨rfl, hb3⟩
          have hrB := (HRB.out.below hb3 HRB.out.lt).alloc (.cells #[.string a0, .string B', .string C', .string D', .string f1, .bool x0, .bool Y', .bool Z', .bool u1] 24)
          have hrR := (HRR.out.below hb3 HRR.out.lt).alloc (.cells #[.string a0, .string B', .string C', .string D', .string f1, .bool x0, .bool Y', .bool Z', .bool u1] 24)
          have hrT := RowAt.new w3 #[.string a0, .string B', .string C', .string D', .string f1, .bool x0, .bool Y', .bool Z', .bool u1] 24 [.string a0, .string B', .string C', .string D', .string f1, .bool x0, .bool Y', .bool Z', .bool u1] rfl
          have hbb := (HBB.out.trans (hb3.mono HBB.out.size)).alloc (Nat.le_trans HBB.out.size hb3.size) (.cells #[.string a0, .string B', .string C', .string D', .string f1, .bool x0, .bool Y', .bool Z', .bool u1] 24)
          have hB3 := HB2.out.size
          have hlt3 : w2.heap.size + 1 < w3.heap.size := Nat.lt_of_lt_of_le HRR.out.lt hb3.size
          obtain ⟨T, hT⟩ : ∃ T, w3.heap.size = T := ⟨_, rfl⟩
          rw [hT] at hrT hlt3
          obtain ⟨R, hR⟩ : ∃ R, w2.heap.size + 1 = R := ⟨_, rfl⟩
          obtain ⟨B, hB⟩ : ∃ B, w2.heap.size = B := ⟨_, rfl⟩
          rw [hR] at hrR hlt3
          rw [hB] at hrB hB3
          have hBR : B < R := by omega
          have HRB3 := Lib.hid hrB
          have HRR3 := Lib.hid hrR
          have HRT3 := Lib.hid hrT
          have HBB3 := Lib.hid hbb
          have HT := Lib.hid hT
          have HR := Lib.hid hR
          have HB := Lib.hid hB
          clear hrB hrR hrT hbb hb3 hT hR hB HRB HRR HBB HB2
          go_upto_region 3 with fail
          rw [(HT.out : w3.heap.size = T), (HR.out : w2.heap.size + 1 = R), (HB.out : w2.heap.size = B)]
          have hrB := HRB3.out
          have hrR := HRR3.out
          have hrT := HRT3.out
          have hbb := HBB3.out
          obtain ⟨w4, hw4⟩ : ∃ w4, w3.alloc (.cells #[.string a0, .string B', .string C', .string D', .string f1, .bool x0, .bool Y', .bool Z', .bool u1] 24) = w4 := ⟨_, rfl⟩
          rw [hw4] at hrB hrR hrT hbb ⊢
          have HBB4 := Lib.hid hbb
          have hlB := hrB.lt
          have hlR := hrR.lt
          have hlT := hrT.lt
          clear HRB3 HRR3 HRT3 HBB3 hbb hw4 HT HR HB
          have q5 := hrR.cell (j := 5) rfl
          have mB0 := hrB.cell (j := 0) rfl
          have mB1 := hrB.cell (j := 1) rfl
          have mB2 := hrB.cell (j := 2) rfl
          have mB3 := hrB.cell (j := 3) rfl
          have mB4 := hrB.cell (j := 4) rfl
          have mB5 := hrB.cell (j := 5) rfl
          have mB6 := hrB.cell (j := 6) rfl
          have mB7 := hrB.cell (j := 7) rfl
          have mB8 := hrB.cell (j := 8) rfl
          have mR0 := hrR.cell (j := 0) rfl
          have mR1 := hrR.cell (j := 1) rfl
          have mR2 := hrR.cell (j := 2) rfl
          have mR3 := hrR.cell (j := 3) rfl
          have mR4 := hrR.cell (j := 4) rfl
          have mR5 := hrR.cell (j := 5) rfl
          have mR6 := hrR.cell (j := 6) rfl
          have mR7 := hrR.cell (j := 7) rfl
          have mR8 := hrR.cell (j := 8) rfl
          have mT0 := hrT.cell (j := 0) rfl
          have mT1 := hrT.cell (j := 1) rfl
          have mT2 := hrT.cell (j := 2) rfl
          have mT3 := hrT.cell (j := 3) rfl
          have mT4 := hrT.cell (j := 4) rfl
          have mT5 := hrT.cell (j := 5) rfl
          have mT6 := hrT.cell (j := 6) rfl
          have mT7 := hrT.cell (j := 7) rfl
          have mT8 := hrT.cell (j := 8) rfl
          have R0 : ∀ x : BW w4, x.world.cell? ⟨R, 0, none⟩ = some _ := fun x => (x.ok.cell (p := ⟨R, 0, none⟩) hlR).trans (hrR.cell (j := 0) rfl)
          have R1 : ∀ x : BW w4, x.world.cell? ⟨R, 1, none⟩ = some _ := fun x => (x.ok.cell (p := ⟨R, 1, none⟩) hlR).trans (hrR.cell (j := 1) rfl)
          have R2 : ∀ x : BW w4, x.world.cell? ⟨R, 2, none⟩ = some _ := fun x => (x.ok.cell (p := ⟨R, 2, none⟩) hlR).trans (hrR.cell (j := 2) rfl)
          have R3 : ∀ x : BW w4, x.world.cell? ⟨R, 3, none⟩ = some _ := fun x => (x.ok.cell (p := ⟨R, 3, none⟩) hlR).trans (hrR.cell (j := 3) rfl)
          have R4 : ∀ x : BW w4, x.world.cell? ⟨R, 4, none⟩ = some _ := fun x => (x.ok.cell (p := ⟨R, 4, none⟩) hlR).trans (hrR.cell (j := 4) rfl)
          have R5 : ∀ x : BW w4, x.world.cell? ⟨R, 5, none⟩ = some _ := fun x => (x.ok.cell (p := ⟨R, 5, none⟩) hlR).trans (hrR.cell (j := 5) rfl)
          have R6 : ∀ x : BW w4, x.world.cell? ⟨R, 6, none⟩ = some _ := fun x => (x.ok.cell (p := ⟨R, 6, none⟩) hlR).trans (hrR.cell (j := 6) rfl)
          have R7 : ∀ x : BW w4, x.world.cell? ⟨R, 7, none⟩ = some _ := fun x => (x.ok.cell (p := ⟨R, 7, none⟩) hlR).trans (hrR.cell (j := 7) rfl)
          have R8 : ∀ x : BW w4, x.world.cell? ⟨R, 8, none⟩ = some _ := fun x => (x.ok.cell (p := ⟨R, 8, none⟩) hlR).trans (hrR.cell (j := 8) rfl)
          have T0 : ∀ x : BW w4, x.world.cell? ⟨T, 0, none⟩ = some _ := fun x => (x.ok.cell (p := ⟨T, 0, none⟩) hlT).trans (hrT.cell (j := 0) rfl)
          have T1 : ∀ x : BW w4, x.world.cell? ⟨T, 1, none⟩ = some _ := fun x => (x.ok.cell (p := ⟨T, 1, none⟩) hlT).trans (hrT.cell (j := 1) rfl)
          have T2 : ∀ x : BW w4, x.world.cell? ⟨T, 2, none⟩ = some _ := fun x => (x.ok.cell (p := ⟨T, 2, none⟩) hlT).trans (hrT.cell (j := 2) rfl)
          have T3 : ∀ x : BW w4, x.world.cell? ⟨T, 3, none⟩ = some _ := fun x => (x.ok.cell (p := ⟨T, 3, none⟩) hlT).trans (hrT.cell (j := 3) rfl)
          have T4 : ∀ x : BW w4, x.world.cell? ⟨T, 4, none⟩ = some _ := fun x => (x.ok.cell (p := ⟨T, 4, none⟩) hlT).trans (hrT.cell (j := 4) rfl)
          have T5 : ∀ x : BW w4, x.world.cell? ⟨T, 5, none⟩ = some _ := fun x => (x.ok.cell (p := ⟨T, 5, none⟩) hlT).trans (hrT.cell (j := 5) rfl)
          have T6 : ∀ x : BW w4, x.world.cell? ⟨T, 6, none⟩ = some _ := fun x => (x.ok.cell (p := ⟨T, 6, none⟩) hlT).trans (hrT.cell (j := 6) rfl)
          have T7 : ∀ x : BW w4, x.world.cell? ⟨T, 7, none⟩ = some _ := fun x => (x.ok.cell (p := ⟨T, 7, none⟩) hlT).trans (hrT.cell (j := 7) rfl)
          have T8 : ∀ x : BW w4, x.world.cell? ⟨T, 8, none⟩ = some _ := fun x => (x.ok.cell (p := ⟨T, 8, none⟩) hlT).trans (hrT.cell (j := 8) rfl)
          clear hrB hrR hrT
          go_upto_region 10 with fail
          refine wp_region_bw (by kernel_rfl) (by kernel_rfl) ?_
          repeat (go_big_quiet_step (first | (go_at_call 12; exact bw_call (awake_any _))))
          refine wpQuiet_nil ?_
          intro _ hw'
          obtain ⟨nx, hw''⟩ := hw'
          subst hw''
          clear R0 T0 mR0 mT0 mB0 R1 T1 mR1 mT1 mB1 R2 T2 mR2 mT2 mB2 R3 T3 mR3 mT3 mB3 R4 T4 mR4 mT4 mB4 R5 T5 mR5 mT5 mB5 R6 T6 mR6 mT6 mB6 R7 T7 mR7 mT7 mB7 R8 T8 mR8 mT8 mB8
          go_wp2_with fail
          go_ret
          exact ⟨rfl, HBB4.out.trans (nx.ok.mono HBB4.out.size)⟩
        · go_enter Try.func5, Try.ntmps5
          go_wp2_with fail
          refine (hs0 _).mono ?_
          clear hs0
          rintro e w1 ⟨rfl, hb1⟩
          have HB1 := Lib.hid hb1
          clear hb1
          go_wp2_with fail
          refine (hs1 _).mono ?_
          clear hs1
          rintro e w2 ⟨rfl, hb2⟩
          have HB2 : Hid (Below w.heap.size w w2) := HB1.out.trans (hb2.mono HB1.out.size)
          clear hb2 HB1
          have hrB := (RowAt.new w2 #[.string a0, .string b0, .string c0, .string d0, .string f0, .bool x0, .bool y0, .bool z0, .bool u0] 24 [.string a0, .string b0, .string c0, .string d0, .string f0, .bool x0, .bool y0, .bool z0, .bool u0] rfl).alloc (.cells #[.string ⟨#[]⟩, .string b1, .string ⟨#[]⟩, .string d1, .string f1, .bool false, .bool false, .bool false, .bool true] 24)
          have hrR := RowAt.new (w2.alloc (.cells #[.string a0, .string b0, .string c0, .string d0, .string f0, .bool x0, .bool y0, .bool z0, .bool u0] 24)) #[.string ⟨#[]⟩, .string b1, .string ⟨#[]⟩, .string d1, .string f1, .bool false, .bool false, .bool false, .bool true] 24 [.string ⟨#[]⟩, .string b1, .string ⟨#[]⟩, .string d1, .string f1, .bool false, .bool false, .bool false, .bool true] rfl
          rw [World.size_alloc] at hrR
          have hbb := (HB2.out.alloc HB2.out.size (.cells #[.string a0, .string b0, .string c0, .string d0, .string f0, .bool x0, .bool y0, .bool z0, .bool u0] 24)).alloc (by have := HB2.out.size; simp; omega) (.cells #[.string ⟨#[]⟩, .string b1, .string ⟨#[]⟩, .string d1, .string f1, .bool false, .bool false, .bool false, .bool true] 24)
          have HRB := Lib.hid hrB
          have HRR := Lib.hid hrR
          have HBB := Lib.hid hbb
          clear hrB hrR hbb
          go_wp2_with fail
          refine (hre _).mono ?_
          clear hre
          rintro e w3 ⟨rfl, hb3⟩
          have hrB := (HRB.out.below hb3 HRB.out.lt).alloc (.cells #[.string a0, .string B', .string C', .string D', .string f1, .bool x0, .bool Y', .bool Z', .bool true] 24)
          have hrR := (HRR.out.below hb3 HRR.out.lt).alloc (.cells #[.string a0, .string B', .string C', .string D', .string f1, .bool x0, .bool Y', .bool Z', .bool true] 24)
          have hrT := RowAt.new w3 #[.string a0, .string B', .string C', .string D', .string f1, .bool x0, .bool Y', .bool Z', .bool true] 24 [.string a0, .string B', .string C', .string D', .string f1, .bool x0, .bool Y', .bool Z', .bool true] rfl
          have hbb := (HBB.out.trans (hb3.mono HBB.out.size)).alloc (Nat.le_trans HBB.out.size hb3.size) (.cells #[.string a0, .string B', .string C', .string D', .string f1, .bool x0, .bool Y', .bool Z', .bool true] 24)
          have hB3 := HB2.out.size
          have hlt3 : w2.heap.size + 1 < w3.heap.size := Nat.lt_of_lt_of_le HRR.out.lt hb3.size
          obtain ⟨T, hT⟩ : ∃ T, w3.heap.size = T := ⟨_, rfl⟩
          rw [hT] at hrT hlt3
          obtain ⟨R, hR⟩ : ∃ R, w2.heap.size + 1 = R := ⟨_, rfl⟩
          obtain ⟨B, hB⟩ : ∃ B, w2.heap.size = B := ⟨_, rfl⟩
          rw [hR] at hrR hlt3
          rw [hB] at hrB hB3
          have hBR : B < R := by omega
          have HRB3 := Lib.hid hrB
          have HRR3 := Lib.hid hrR
          have HRT3 := Lib.hid hrT
          have HBB3 := Lib.hid hbb
          have HT := Lib.hid hT
          have HR := Lib.hid hR
          have HB := Lib.hid hB
          clear hrB hrR hrT hbb hb3 hT hR hB HRB HRR HBB HB2
          go_upto_region 3 with fail
          rw [(HT.out : w3.heap.size = T), (HR.out : w2.heap.size + 1 = R), (HB.out : w2.heap.size = B)]
          have hrB := HRB3.out
          have hrR := HRR3.out
          have hrT := HRT3.out
          have hbb := HBB3.out
          obtain ⟨w4, hw4⟩ : ∃ w4, w3.alloc (.cells #[.string a0, .string B', .string C', .string D', .string f1, .bool x0, .bool Y', .bool Z', .bool true] 24) = w4 := ⟨_, rfl⟩
          rw [hw4] at hrB hrR hrT hbb ⊢
          have HBB4 := Lib.hid hbb
          have hlB := hrB.lt
          have hlR := hrR.lt
          have hlT := hrT.lt
          clear HRB3 HRR3 HRT3 HBB3 hbb hw4 HT HR HB
          have q5 := hrR.cell (j := 5) rfl
          have mB0 := hrB.cell (j := 0) rfl
          have mB1 := hrB.cell (j := 1) rfl
          have mB2 := hrB.cell (j := 2) rfl
          have mB3 := hrB.cell (j := 3) rfl
          have mB4 := hrB.cell (j := 4) rfl
          have mB5 := hrB.cell (j := 5) rfl
          have mB6 := hrB.cell (j := 6) rfl
          have mB7 := hrB.cell (j := 7) rfl
          have mB8 := hrB.cell (j := 8) rfl
          have mR0 := hrR.cell (j := 0) rfl
          have mR1 := hrR.cell (j := 1) rfl
          have mR2 := hrR.cell (j := 2) rfl
          have mR3 := hrR.cell (j := 3) rfl
          have mR4 := hrR.cell (j := 4) rfl
          have mR5 := hrR.cell (j := 5) rfl
          have mR6 := hrR.cell (j := 6) rfl
          have mR7 := hrR.cell (j := 7) rfl
          have mR8 := hrR.cell (j := 8) rfl
          have mT0 := hrT.cell (j := 0) rfl
          have mT1 := hrT.cell (j := 1) rfl
          have mT2 := hrT.cell (j := 2) rfl
          have mT3 := hrT.cell (j := 3) rfl
          have mT4 := hrT.cell (j := 4) rfl
          have mT5 := hrT.cell (j := 5) rfl
          have mT6 := hrT.cell (j := 6) rfl
          have mT7 := hrT.cell (j := 7) rfl
          have mT8 := hrT.cell (j := 8) rfl
          have R0 : ∀ x : BW w4, x.world.cell? ⟨R, 0, none⟩ = some _ := fun x => (x.ok.cell (p := ⟨R, 0, none⟩) hlR).trans (hrR.cell (j := 0) rfl)
          have R1 : ∀ x : BW w4, x.world.cell? ⟨R, 1, none⟩ = some _ := fun x => (x.ok.cell (p := ⟨R, 1, none⟩) hlR).trans (hrR.cell (j := 1) rfl)
          have R2 : ∀ x : BW w4, x.world.cell? ⟨R, 2, none⟩ = some _ := fun x => (x.ok.cell (p := ⟨R, 2, none⟩) hlR).trans (hrR.cell (j := 2) rfl)
          have R3 : ∀ x : BW w4, x.world.cell? ⟨R, 3, none⟩ = some _ := fun x => (x.ok.cell (p := ⟨R, 3, none⟩) hlR).trans (hrR.cell (j := 3) rfl)
          have R4 : ∀ x : BW w4, x.world.cell? ⟨R, 4, none⟩ = some _ := fun x => (x.ok.cell (p := ⟨R, 4, none⟩) hlR).trans (hrR.cell (j := 4) rfl)
          have R5 : ∀ x : BW w4, x.world.cell? ⟨R, 5, none⟩ = some _ := fun x => (x.ok.cell (p := ⟨R, 5, none⟩) hlR).trans (hrR.cell (j := 5) rfl)
          have R6 : ∀ x : BW w4, x.world.cell? ⟨R, 6, none⟩ = some _ := fun x => (x.ok.cell (p := ⟨R, 6, none⟩) hlR).trans (hrR.cell (j := 6) rfl)
          have R7 : ∀ x : BW w4, x.world.cell? ⟨R, 7, none⟩ = some _ := fun x => (x.ok.cell (p := ⟨R, 7, none⟩) hlR).trans (hrR.cell (j := 7) rfl)
          have R8 : ∀ x : BW w4, x.world.cell? ⟨R, 8, none⟩ = some _ := fun x => (x.ok.cell (p := ⟨R, 8, none⟩) hlR).trans (hrR.cell (j := 8) rfl)
          have T0 : ∀ x : BW w4, x.world.cell? ⟨T, 0, none⟩ = some _ := fun x => (x.ok.cell (p := ⟨T, 0, none⟩) hlT).trans (hrT.cell (j := 0) rfl)
          have T1 : ∀ x : BW w4, x.world.cell? ⟨T, 1, none⟩ = some _ := fun x => (x.ok.cell (p := ⟨T, 1, none⟩) hlT).trans (hrT.cell (j := 1) rfl)
          have T2 : ∀ x : BW w4, x.world.cell? ⟨T, 2, none⟩ = some _ := fun x => (x.ok.cell (p := ⟨T, 2, none⟩) hlT).trans (hrT.cell (j := 2) rfl)
          have T3 : ∀ x : BW w4, x.world.cell? ⟨T, 3, none⟩ = some _ := fun x => (x.ok.cell (p := ⟨T, 3, none⟩) hlT).trans (hrT.cell (j := 3) rfl)
          have T4 : ∀ x : BW w4, x.world.cell? ⟨T, 4, none⟩ = some _ := fun x => (x.ok.cell (p := ⟨T, 4, none⟩) hlT).trans (hrT.cell (j := 4) rfl)
          have T5 : ∀ x : BW w4, x.world.cell? ⟨T, 5, none⟩ = some _ := fun x => (x.ok.cell (p := ⟨T, 5, none⟩) hlT).trans (hrT.cell (j := 5) rfl)
          have T6 : ∀ x : BW w4, x.world.cell? ⟨T, 6, none⟩ = some _ := fun x => (x.ok.cell (p := ⟨T, 6, none⟩) hlT).trans (hrT.cell (j := 6) rfl)
          have T7 : ∀ x : BW w4, x.world.cell? ⟨T, 7, none⟩ = some _ := fun x => (x.ok.cell (p := ⟨T, 7, none⟩) hlT).trans (hrT.cell (j := 7) rfl)
          have T8 : ∀ x : BW w4, x.world.cell? ⟨T, 8, none⟩ = some _ := fun x => (x.ok.cell (p := ⟨T, 8, none⟩) hlT).trans (hrT.cell (j := 8) rfl)
          clear hrB hrR hrT
          go_upto_region 10 with fail
          refine wp_region_bw (by kernel_rfl) (by kernel_rfl) ?_
          repeat (go_big_quiet_step (first | (go_at_call 12; exact bw_call (awake_any _))))
          refine wpQuiet_nil ?_
          intro _ hw'
          obtain ⟨nx, hw''⟩ := hw'
          subst hw''
          clear R0 T0 mR0 mT0 mB0 R1 T1 mR1 mT1 mB1 R2 T2 mR2 mT2 mB2 R3 T3 mR3 mT3 mB3 R4 T4 mR4 mT4 mB4 R5 T5 mR5 mT5 mB5 R6 T6 mR6 mT6 mB6 R7 T7 mR7 mT7 mB7 R8 T8 mR8 mT8 mB8
          go_wp2_with fail
          go_ret
          exact ⟨rfl, HBB4.out.trans (nx.ok.mono HBB4.out.size)⟩
    · obtain ⟨B', D', Y', Z', X', hrow, hX⟩ := resF_path a0 b0 c0 d0 a1 b1 c1 d1 f1 x0 y0 z0 y1 z1 u1 hc
      have hre : ∀ w, Calls Try.prog 16 #[.agg #[.string a0, .string b0, .string c0, .string d0, .string f0, .bool x0, .bool y0, .bool z0, .bool u0], .agg #[.string a1, .string b1, .string c1, .string d1, .string f1, .bool false, .bool y1, .bool z1, .bool u1]] w fun e w' => e = .returned (.agg #[.string a0, .string B', .string (dS X'), .string D', .string f1, .bool x0, .bool Y', .bool Z', .bool u1]) ∧ Below w.heap.size w w' := fun w => by
        have := hre w
        rw [hrow] at this
        exact this
      have hne : c1.toList.isEmpty = false := empty_false c1 (by rw [size_eq]; exact List.length_pos_iff.2 hc)
      have HC := Lib.hid hc
      clear hrow hc
      clear hp0 hp1
      go_enter Try.func5, Try.ntmps5
      go_wp2_with fail
      refine (hs0 _).mono ?_
      clear hs0
      rintro e w1 ⟨rfl, hb1⟩
      have HB1 := Lib.hid hb1
      clear hb1
      go_wp2_with fail
      refine (hs1 _).mono ?_
      clear hs1
      rintro e w2 ⟨rfl, hb2⟩
      have HB2 : Hid (Below w.heap.size w w2) := HB1.out.trans (hb2.mono HB1.out.size)
      clear hb2 HB1
      have hrB := (RowAt.new w2 #[.string a0, .string b0, .string c0, .string d0, .string f0, .bool x0, .bool y0, .bool z0, .bool u0] 24 [.string a0, .string b0, .string c0, .string d0, .string f0, .bool x0, .bool y0, .bool z0, .bool u0] rfl).alloc (.cells #[.string a1, .string b1, .string c1, .string d1, .string f1, .bool false, .bool y1, .bool z1, .bool u1] 24)
      have hrR := RowAt.new (w2.alloc (.cells #[.string a0, .string b0, .string c0, .string d0, .string f0, .bool x0, .bool y0, .bool z0, .bool u0] 24)) #[.string a1, .string b1, .string c1, .string d1, .string f1, .bool false, .bool y1, .bool z1, .bool u1] 24 [.string a1, .string b1, .string c1, .string d1, .string f1, .bool false, .bool y1, .bool z1, .bool u1] rfl
      rw [World.size_alloc] at hrR
      have hbb := (HB2.out.alloc HB2.out.size (.cells #[.string a0, .string b0, .string c0, .string d0, .string f0, .bool x0, .bool y0, .bool z0, .bool u0] 24)).alloc (by have := HB2.out.size; simp; omega) (.cells #[.string a1, .string b1, .string c1, .string d1, .string f1, .bool false, .bool y1, .bool z1, .bool u1] 24)
      have HRB := Lib.hid hrB
      have HRR := Lib.hid hrR
      have HBB := Lib.hid hbb
      clear hrB hrR hbb
      go_wp2_with fail
      refine (hre _).mono ?_
      clear hre
      rintro e w3 ⟨rfl, hb3⟩
      have hrB := (HRB.out.below hb3 HRB.out.lt).alloc (.cells #[.string a0, .string B', .string (dS X'), .string D', .string f1, .bool x0, .bool Y', .bool Z', .bool u1] 24)
      have hrR := (HRR.out.below hb3 HRR.out.lt).alloc (.cells #[.string a0, .string B', .string (dS X'), .string D', .string f1, .bool x0, .bool Y', .bool Z', .bool u1] 24)
      have hrT := RowAt.new w3 #[.string a0, .string B', .string (dS X'), .string D', .string f1, .bool x0, .bool Y', .bool Z', .bool u1] 24 [.string a0, .string B', .string (dS X'), .string D', .string f1, .bool x0, .bool Y', .bool Z', .bool u1] rfl
      have hbb := (HBB.out.trans (hb3.mono HBB.out.size)).alloc (Nat.le_trans HBB.out.size hb3.size) (.cells #[.string a0, .string B', .string (dS X'), .string D', .string f1, .bool x0, .bool Y', .bool Z', .bool u1] 24)
      have hB3 := HB2.out.size
      have hlt3 : w2.heap.size + 1 < w3.heap.size := Nat.lt_of_lt_of_le HRR.out.lt hb3.size
      obtain ⟨T, hT⟩ : ∃ T, w3.heap.size = T := ⟨_, rfl⟩
      rw [hT] at hrT hlt3
      obtain ⟨R, hR⟩ : ∃ R, w2.heap.size + 1 = R := ⟨_, rfl⟩
      obtain ⟨B, hB⟩ : ∃ B, w2.heap.size = B := ⟨_, rfl⟩
      rw [hR] at hrR hlt3
      rw [hB] at hrB hB3
      have hBR : B < R := by omega
      have HRB3 := Lib.hid hrB
      have HRR3 := Lib.hid hrR
      have HRT3 := Lib.hid hrT
      have HBB3 := Lib.hid hbb
      have HT := Lib.hid hT
      have HR := Lib.hid hR
      have HB := Lib.hid hB
      clear hrB hrR hrT hbb hb3 hT hR hB HRB HRR HBB HB2
      go_upto_region 3 with fail
      rw [(HT.out : w3.heap.size = T), (HR.out : w2.heap.size + 1 = R), (HB.out : w2.heap.size = B)]
      have hrB := HRB3.out
      have hrR := HRR3.out
      have hrT := HRT3.out
      have hbb := HBB3.out
      obtain ⟨w4, hw4⟩ : ∃ w4, w3.alloc (.cells #[.string a0, .string B', .string (dS X'), .string D', .string f1, .bool x0, .bool Y', .bool Z', .bool u1] 24) = w4 := ⟨_, rfl⟩
      rw [hw4] at hrB hrR hrT hbb ⊢
      have HBB4 := Lib.hid hbb
      have hlB := hrB.lt
      have hlR := hrR.lt
      have hlT := hrT.lt
      clear HRB3 HRR3 HRT3 HBB3 hbb hw4 HT HR HB
      have q5 := hrR.cell (j := 5) rfl
      have mB0 := hrB.cell (j := 0) rfl
      have mB1 := hrB.cell (j := 1) rfl
      have mB2 := hrB.cell (j := 2) rfl
      have mB3 := hrB.cell (j := 3) rfl
      have mB4 := hrB.cell (j := 4) rfl
      have mB5 := hrB.cell (j := 5) rfl
      have mB6 := hrB.cell (j := 6) rfl
      have mB7 := hrB.cell (j := 7) rfl
      have mB8 := hrB.cell (j := 8) rfl
      have mR0 := hrR.cell (j := 0) rfl
      have mR1 := hrR.cell (j := 1) rfl
      have mR2 := hrR.cell (j := 2) rfl
      have mR3 := hrR.cell (j := 3) rfl
      have mR4 := hrR.cell (j := 4) rfl
      have mR5 := hrR.cell (j := 5) rfl
      have mR6 := hrR.cell (j := 6) rfl
      have mR7 := hrR.cell (j := 7) rfl
      have mR8 := hrR.cell (j := 8) rfl
      have mT0 := hrT.cell (j := 0) rfl
      have mT1 := hrT.cell (j := 1) rfl
      have mT2 := hrT.cell (j := 2) rfl
      have mT3 := hrT.cell (j := 3) rfl
      have mT4 := hrT.cell (j := 4) rfl
      have mT5 := hrT.cell (j := 5) rfl
      have mT6 := hrT.cell (j := 6) rfl
      have mT7 := hrT.cell (j := 7) rfl
      have mT8 := hrT.cell (j := 8) rfl
      go_upto_region 7 with fail
      clear mB0 mB1 mB2 mB3 mB4 mB5 mB6 mB7 mB8
      have R0 : ∀ x : BW w4, x.world.cell? ⟨R, 0, none⟩ = some _ := fun x => (x.ok.cell (p := ⟨R, 0, none⟩) hlR).trans (hrR.cell (j := 0) rfl)
      have R1 : ∀ x : BW w4, x.world.cell? ⟨R, 1, none⟩ = some _ := fun x => (x.ok.cell (p := ⟨R, 1, none⟩) hlR).trans (hrR.cell (j := 1) rfl)
      have R2 : ∀ x : BW w4, x.world.cell? ⟨R, 2, none⟩ = some _ := fun x => (x.ok.cell (p := ⟨R, 2, none⟩) hlR).trans (hrR.cell (j := 2) rfl)
      have R3 : ∀ x : BW w4, x.world.cell? ⟨R, 3, none⟩ = some _ := fun x => (x.ok.cell (p := ⟨R, 3, none⟩) hlR).trans (hrR.cell (j := 3) rfl)
      have R4 : ∀ x : BW w4, x.world.cell? ⟨R, 4, none⟩ = some _ := fun x => (x.ok.cell (p := ⟨R, 4, none⟩) hlR).trans (hrR.cell (j := 4) rfl)
      have R5 : ∀ x : BW w4, x.world.cell? ⟨R, 5, none⟩ = some _ := fun x => (x.ok.cell (p := ⟨R, 5, none⟩) hlR).trans (hrR.cell (j := 5) rfl)
      have R6 : ∀ x : BW w4, x.world.cell? ⟨R, 6, none⟩ = some _ := fun x => (x.ok.cell (p := ⟨R, 6, none⟩) hlR).trans (hrR.cell (j := 6) rfl)
      have R7 : ∀ x : BW w4, x.world.cell? ⟨R, 7, none⟩ = some _ := fun x => (x.ok.cell (p := ⟨R, 7, none⟩) hlR).trans (hrR.cell (j := 7) rfl)
      have R8 : ∀ x : BW w4, x.world.cell? ⟨R, 8, none⟩ = some _ := fun x => (x.ok.cell (p := ⟨R, 8, none⟩) hlR).trans (hrR.cell (j := 8) rfl)
      have T0 : ∀ x : BW w4, x.world.cell? ⟨T, 0, none⟩ = some _ := fun x => (x.ok.cell (p := ⟨T, 0, none⟩) hlT).trans (hrT.cell (j := 0) rfl)
      have T1 : ∀ x : BW w4, x.world.cell? ⟨T, 1, none⟩ = some _ := fun x => (x.ok.cell (p := ⟨T, 1, none⟩) hlT).trans (hrT.cell (j := 1) rfl)
      have T2 : ∀ x : BW w4, x.world.cell? ⟨T, 2, none⟩ = some _ := fun x => (x.ok.cell (p := ⟨T, 2, none⟩) hlT).trans (hrT.cell (j := 2) rfl)
      have T3 : ∀ x : BW w4, x.world.cell? ⟨T, 3, none⟩ = some _ := fun x => (x.ok.cell (p := ⟨T, 3, none⟩) hlT).trans (hrT.cell (j := 3) rfl)
      have T4 : ∀ x : BW w4, x.world.cell? ⟨T, 4, none⟩ = some _ := fun x => (x.ok.cell (p := ⟨T, 4, none⟩) hlT).trans (hrT.cell (j := 4) rfl)
      have T5 : ∀ x : BW w4, x.world.cell? ⟨T, 5, none⟩ = some _ := fun x => (x.ok.cell (p := ⟨T, 5, none⟩) hlT).trans (hrT.cell (j := 5) rfl)
      have T6 : ∀ x : BW w4, x.world.cell? ⟨T, 6, none⟩ = some _ := fun x => (x.ok.cell (p := ⟨T, 6, none⟩) hlT).trans (hrT.cell (j := 6) rfl)
      have T7 : ∀ x : BW w4, x.world.cell? ⟨T, 7, none⟩ = some _ := fun x => (x.ok.cell (p := ⟨T, 7, none⟩) hlT).trans (hrT.cell (j := 7) rfl)
      have T8 : ∀ x : BW w4, x.world.cell? ⟨T, 8, none⟩ = some _ := fun x => (x.ok.cell (p := ⟨T, 8, none⟩) hlT).trans (hrT.cell (j := 8) rfl)
      have hd : ∀ w, Calls Try.prog 17 #[.string (dS X')] w fun e w' => e = .returned (.string (dS X')) ∧ Below w.heap.size w w' := fun w => dS_again X' w (by omega)
      clear hrB hrR hrT
      go_upto_region 10 with fail
      refine wp_region_bw (by kernel_rfl) (by kernel_rfl) ?_
      repeat (go_big_quiet_step (first | (go_at_call 17; exact bw_call (hd _)) | (go_at_call 12; exact bw_call (awake_any _))))
      refine wpQuiet_nil ?_
      intro _ hw'
      obtain ⟨nx, hw''⟩ := hw'
      subst hw''
      clear R0 T0 mR0 mT0 R1 T1 mR1 mT1 R2 T2 mR2 mT2 R3 T3 mR3 mT3 R4 T4 mR4 mT4 R5 T5 mR5 mT5 R6 T6 mR6 mT6 R7 T7 mR7 mT7 R8 T8 mR8 mT8
      go_wp2_with fail
      go_ret
      exact ⟨rfl, HBB4.out.trans (nx.ok.mono HBB4.out.size)⟩
end Go.Proofs.Ytcffajmhegjhfaa

/- sievelaw12.awake. -/
import Derived.Test.YtabagfhnkdhjdaaGreatDoorDotsW
set_option linter.unusedVariables false
set_option maxRecDepth 100000
namespace Go.Proofs.YtabagfhnkdhjdaaGreatDoor
open Go.RowKit Go.Lib

theorem awake1 : schemeS (strip [32, 74, 97, 86, 97, 9, 115, 99, 114, 105, 112, 116, 58, 120]) = [106, 97, 118, 97, 115, 99, 114, 105, 112, 116] := by kernel_rfl
theorem awake2 : colB (strip [32, 74, 97, 86, 97, 9, 115, 99, 114, 105, 112, 116, 58, 120]) = true := by kernel_rfl
theorem awake3 : encode [97, 32, 98, 37, 50, 103, 34, 195, 169] = [97, 37, 50, 48, 98, 37, 50, 53, 50, 103, 37, 50, 50, 37, 67, 51, 37, 65, 57] := by kernel_rfl
theorem awake4 : dots [47, 97, 47, 98, 47, 99, 47, 46, 47, 46, 46, 47, 46, 46, 47, 103] = [47, 97, 47, 103] := by kernel_rfl

set_option maxRecDepth 100000 in
set_option maxHeartbeats 1000000 in
theorem awake_any (w : World) : Calls Tryz.prog 16 #[] w fun e w' => e = .returned (.bool true) ∧ Below w.heap.size w w' := by
  have h1 := Scheme_any ⟨#[32, 74, 97, 86, 97, 9, 115, 99, 114, 105, 112, 116, 58, 120]⟩ w (by decide)
  rw [awake1, awake2] at h1
  have h2 := fun w => encode_any ⟨#[97, 32, 98, 37, 50, 103, 34, 195, 169]⟩ w (by decide)
  rw [awake3] at h2
  have h3 := fun w => dots_any ⟨#[47, 97, 47, 98, 47, 99, 47, 46, 47, 46, 46, 47, 46, 46, 47, 103]⟩ w (by decide)
  rw [awake4] at h3
  go_enter Tryz.func16, Tryz.ntmps16
  go_wp2_with fail
  refine h1.mono ?_
  clear h1
  rintro e w1 ⟨rfl, hb1⟩
  have HB1 := Lib.hid hb1
  clear hb1
  go_wp2_with fail
  refine (h2 _).mono ?_
  clear h2
  rintro e w2 ⟨rfl, hb2⟩
  have HB2 := Lib.hid hb2
  clear hb2
  go_wp2_with fail
  refine (h3 _).mono ?_
  clear h3
  rintro e w3 ⟨rfl, hb3⟩
  have HB3 := Lib.hid hb3
  clear hb3
  go_wp2_with fail
  go_ret
  exact ⟨rfl, HB1.out.trans ((HB2.out.trans (HB3.out.mono HB2.out.size)).mono HB1.out.size)⟩
end Go.Proofs.YtabagfhnkdhjdaaGreatDoor

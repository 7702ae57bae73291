/- The function within link.Resolve: the query set. -/
import Derived.Test.YtabagfhnkdhjdaaGreatDoorMerged
import Derived.Test.YtabagfhnkdhjdaaGreatDoorMended
import Derived.RegionTactic
set_option linter.unusedVariables false
set_option maxRecDepth 100000
namespace Go.Proofs.YtabagfhnkdhjdaaGreatDoor
open Go.RowKit Go.Lib Go.BigFrame

set_option maxRecDepth 100000 in
set_option maxHeartbeats 2000000 in
theorem query_any (a b c d f : ByteArray) (x y z u : Bool) (T : Nat) (row : List Value) (w : World) (hT : RowAt w T row) (hlen : row.length = 9) :
    Calls Tryz.prog 47 #[.agg #[.string a, .string b, .string c, .string d, .string f, .bool x, .bool y, .bool z, .bool u], .pointer (some ⟨T, 0, none⟩)] w fun e w' =>
      e = .returned (.tuple #[]) ∧ RowAt w' T ((row.set 3 (.string d)).set 7 (.bool z)) ∧ Below T w w' := by
  have hlt := hT.lt
  have hr0 := RowAt.new w #[.string a, .string b, .string c, .string d, .string f, .bool x, .bool y, .bool z, .bool u] 42 [.string a, .string b, .string c, .string d, .string f, .bool x, .bool y, .bool z, .bool u] rfl
  have hb0 : Below T w (w.alloc (.cells #[.string a, .string b, .string c, .string d, .string f, .bool x, .bool y, .bool z, .bool u] 42)) := (Below.refl T w).alloc (Nat.le_of_lt hlt) _
  have hT1 := hT.alloc (.cells #[.string a, .string b, .string c, .string d, .string f, .bool x, .bool y, .bool z, .bool u] 42)
  go_enter Tryz.func47, Tryz.ntmps47
  go_upto_region 1 with fail
  obtain ⟨B, hB⟩ : ∃ B, w.heap.size = B := ⟨_, rfl⟩
  rw [hB] at hr0 hlt
  obtain ⟨w1, hw1⟩ : ∃ w1, w.alloc (.cells #[.string a, .string b, .string c, .string d, .string f, .bool x, .bool y, .bool z, .bool u] 42) = w1 := ⟨_, rfl⟩
  rw [hw1] at hr0 hb0 hT1
  have HR := Lib.hid hT1
  have HB := Lib.hid hb0
  have hlt1 := hT1.lt
  rw [hB, hw1]
  have k3 := hr0.cell (j := 3) rfl
  have k7 := hr0.cell (j := 7) rfl
  have f3 := hT1.frozen (j := 3) (by omega)
  have f7 := hT1.frozen (j := 7) (by omega)
  obtain ⟨v3, t3⟩ : ∃ v, w1.cell? ⟨T, 3, none⟩ = some v := ⟨_, hT1.cell (j := 3) (List.getElem?_eq_getElem (by omega))⟩
  obtain ⟨v7, t7⟩ : ∃ v, w1.cell? ⟨T, 7, none⟩ = some v := ⟨_, hT1.cell (j := 7) (List.getElem?_eq_getElem (by omega))⟩
  have hne : T ≠ B := by omega
  have hne2 : B ≠ T := by omega
  clear hw1 hT hb0 hT1 hr0 hB hlt hlen
  go_region
  all_goals
    go_wp2_with fail
    go_end0
    refine ⟨rfl, ?_, ?_⟩
    · exact ((HR.out.set 3 (.string d)).set 7 (.bool z)).drew
    · exact ((HB.out.setCell (p := ⟨T, 3, none⟩) (Nat.le_refl _) _).setCell (p := ⟨T, 7, none⟩) (Nat.le_refl _) _).drew
end Go.Proofs.YtabagfhnkdhjdaaGreatDoor

/- The reference's Join. -/
import Derived.Test.YtabagfhnkdhjdaaJoin
import Derived.Test.YtabagfhnkdhjdaaRefE
set_option linter.unusedVariables false
set_option maxRecDepth 100000
namespace Go.Proofs.Ytabagfhnkdhjdaa
open Go.RowKit Go.Lib

set_option maxRecDepth 100000 in
set_option maxHeartbeats 4000000 in
theorem rjoin_any (A B C D F : ByteArray) (x y z u : Bool) (w : World) (hA : A.size ≤ 140737488355328) (hB : B.size ≤ 140737488355328) (hC : C.size ≤ 140737488355328) (hD : D.size ≤ 140737488355328) (hF : F.size ≤ 140737488355328) :
    Calls Try.prog 10 #[.agg #[.string A, .string B, .string C, .string D, .string F, .bool x, .bool y, .bool z, .bool u]] w fun e w' =>
      e = .returned (.string ⟨(joinL ⟨A.data.toList, B.data.toList, C.data.toList, D.data.toList, F.data.toList, x, y, z, u⟩).toArray⟩) ∧ Below w.heap.size w w' := by
  have hr := RowAt.new w #[.string A, .string B, .string C, .string D, .string F, .bool x, .bool y, .bool z, .bool u] 23 [.string A, .string B, .string C, .string D, .string F, .bool x, .bool y, .bool z, .bool u] rfl
  have hb := (Below.refl w.heap.size w).alloc (Nat.le_refl _) (.cells #[.string A, .string B, .string C, .string D, .string F, .bool x, .bool y, .bool z, .bool u] 23)
  go_enter Try.func10, Try.ntmps10
  go_upto_region 1 with fail
  obtain ⟨w1, hw1⟩ : ∃ w1, w.alloc (.cells #[.string A, .string B, .string C, .string D, .string F, .bool x, .bool y, .bool z, .bool u] 23) = w1 := ⟨_, rfl⟩
  rw [hw1] at hr hb ⊢
  clear hw1
  have c0 := hr.cell (j := 0) rfl
  have c1 := hr.cell (j := 1) rfl
  have c2 := hr.cell (j := 2) rfl
  have c3 := hr.cell (j := 3) rfl
  have c4 := hr.cell (j := 4) rfl
  have c5 := hr.cell (j := 5) rfl
  have c6 := hr.cell (j := 6) rfl
  have c7 := hr.cell (j := 7) rfl
  have c8 := hr.cell (j := 8) rfl
  have HBB := Lib.hid hb
  clear hr hb
  cases x <;> cases y <;> cases z <;> cases u
  all_goals
    go_wp2_with fail
    go_ret
    refine ⟨ret_str ?_, HBB.out⟩
    apply ByteArray.ext
    simp [joinL]

end Go.Proofs.Ytabagfhnkdhjdaa

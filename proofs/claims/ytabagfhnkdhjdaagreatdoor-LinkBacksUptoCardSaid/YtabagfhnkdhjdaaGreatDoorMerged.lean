/- link.merged: a path by a base's path. -/
import Derived.Test.YtabagfhnkdhjdaaGreatDoorJoinP
import Derived.Test.YtabagfhnkdhjdaaGreatDoorNf
import Derived.Test.YtabagfhnkdhjdaaGreatDoorBw
set_option linter.unusedVariables false
set_option maxRecDepth 100000
namespace Go.Proofs.YtabagfhnkdhjdaaGreatDoor
open Go.RowKit Go.Lib Go.BigFrame

def mergedL (hh : Bool) (c p : List UInt8) : List UInt8 := if hh && c.isEmpty then 47 :: p else c.take (lastI c + 1).toNat ++ p

set_option maxRecDepth 100000 in
set_option maxHeartbeats 2000000 in
theorem merged_any (a b c d f : ByteArray) (x y z u : Bool) (p : ByteArray) (w : World) (hc : c.size ≤ 100000000) (hp : p.size ≤ 100000000) :
    Calls Tryz.prog 49 #[.agg #[.string a, .string b, .string c, .string d, .string f, .bool x, .bool y, .bool z, .bool u], .string p] w fun e w' =>
      e = .returned (.string ⟨(mergedL y c.data.toList p.data.toList).toArray⟩) ∧ Below w.heap.size w w' := by
  have hr0 := RowAt.new w #[.string a, .string b, .string c, .string d, .string f, .bool x, .bool y, .bool z, .bool u] 42 [.string a, .string b, .string c, .string d, .string f, .bool x, .bool y, .bool z, .bool u] rfl
  have hb0 := (Below.refl w.heap.size w).alloc (Nat.le_refl _) (.cells #[.string a, .string b, .string c, .string d, .string f, .bool x, .bool y, .bool z, .bool u] 42)
  have HB0 := Lib.hid hb0
  have HR0 := Lib.hid hr0
  clear hr0 hb0
  have hli := fun w => Tryz.strings_LastIndexByte c 47 (by omega) w
  have hbd := lastI_bd c.data.toList
  rw [← size_eq] at hbd
  obtain ⟨i, hi⟩ : ∃ i, lastI c.data.toList = i := ⟨_, rfl⟩
  rw [lastIndex_slash, hi] at hli
  rw [hi] at hbd
  have HI := Lib.hid hi
  clear hi
  obtain ⟨hb1, hb2⟩ := hbd
  have q1 : (0 : Int) ≤ i + 1 := by omega
  have q2 : i + 1 ≤ (c.size : Int) := by omega
  have q3 : IntKind.i64.wrap (i + 1) = i + 1 := IntWalk.i64_in _ (by omega)
  cases y
  · go_enter Tryz.func49, Tryz.ntmps49
    go_wp2_with fail
    go_quiet ((go_at_call 44; first | exact Calls.quiet_of_same (hli _) | exact quiet_add_same (hli _)))
    go_wp2_with fail
    go_ret
    refine ⟨ret_str ?_, Below.drewN HB0.out _⟩
    rw [take_mk]
    apply ByteArray.ext
    apply Array.toList_inj.1
    rw [data_append]
    unfold mergedL
    rw [(HI.out : lastI c.data.toList = i)]
    simp
  · by_cases h0 : 0 < c.size
    · have hne := empty_false c h0
      go_enter Tryz.func49, Tryz.ntmps49
      go_wp2_with fail
      go_quiet ((go_at_call 44; first | exact Calls.quiet_of_same (hli _) | exact quiet_add_same (hli _)))
      go_wp2_with fail
      go_ret
      refine ⟨ret_str ?_, Below.drewN HB0.out _⟩
      rw [take_mk]
      apply ByteArray.ext
      apply Array.toList_inj.1
      rw [data_append]
      unfold mergedL
      rw [← Lib.toList_data c, hne, Lib.toList_data, (HI.out : lastI c.data.toList = i)]
      simp
    · have hne := empty_true c (by omega)
      go_enter Tryz.func49, Tryz.ntmps49
      go_wp2_with fail
      go_ret
      refine ⟨ret_str ?_, HB0.out⟩
      apply ByteArray.ext
      apply Array.toList_inj.1
      unfold mergedL
      rw [← Lib.toList_data c, hne]
      simp
end Go.Proofs.YtabagfhnkdhjdaaGreatDoor

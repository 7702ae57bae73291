/- sievelaw12.LinkParts: the walk. -/
import Derived.Test.YtabagfhnkdhjdaaJoin
import Derived.Test.YtabagfhnkdhjdaaBw
import Derived.Test.YtabagfhnkdhjdaaRefH
import Derived.Test.YtabagfhnkdhjdaaRefI
import Derived.Test.YtabagfhnkdhjdaaRefJ
set_option linter.unusedVariables false
set_option maxRecDepth 100000
namespace Go.Proofs.Ytabagfhnkdhjdaa
open Go.RowKit Go.Lib Go.BigFrame

theorem lkV_agg (l : Lk) : ∃ A B C D F x y z u, lkV l = .agg #[.string A, .string B, .string C, .string D, .string F, .bool x, .bool y, .bool z, .bool u] := ⟨_, _, _, _, _, _, _, _, _, rfl⟩

theorem mendS_size {s : ByteArray} (h : s.size ≤ 1048576) : (mendS s).size ≤ 140737488355328 := by
  have := mend_len s.data.toList
  rw [← size_eq] at this
  show (⟨(mend s.data.toList).toArray⟩ : ByteArray).size ≤ _
  rw [size_eq]
  show (mend s.data.toList).length ≤ _
  omega

set_option maxRecDepth 100000 in
set_option maxHeartbeats 4000000 in
theorem linkParts_any (v a b c d f : ByteArray) (x y z u : Bool) (w : World) (hv : v.size ≤ 1048576) (hsz : ∀ s ∈ [a, b, c, d, f], s.size ≤ 1048576) :
    Calls Try.prog 3 #[.string v, .agg #[.string a, .string b, .string c, .string d, .string f, .bool x, .bool y, .bool z, .bool u]] w fun e w' => e = .returned (.bool true) ∧ Below w.heap.size w w' := by
  have h1 := fun w => split_any v w (by omega)
  have h2 := fun w => rsplit_any v w (by omega)
  obtain ⟨A, B, C, D, F, X, Y, Z, U, hlk⟩ := lkV_agg (splitL (strip v.data.toList))
  rw [hlk] at h1 h2
  clear hlk
  have h3 : ∀ (a b c d f : ByteArray) (x y z u : Bool) (w : World), Calls Try.prog 7 #[.agg #[.string a, .string b, .string c, .string d, .string f, .bool x, .bool y, .bool z, .bool u]] w fun e w' => e = .returned (.agg #[.string a, .string b, .string c, .string d, .string f, .bool x, .bool y, .bool z, .bool u]) ∧ Below w.heap.size w w' := to_any
  have h4 := fun w => join_any a b c d f x y z u w (fun s hs => by have := hsz s hs; omega)
  have h5 := fun w => rmended_any a b c d f x y z u w (fun s hs => by have := hsz s hs; omega)
  have h6 := fun w => rjoin_any (mendS a) (mendS b) (mendS c) (mendS d) (mendS f) x y z u w (mendS_size (hsz a (by simp))) (mendS_size (hsz b (by simp))) (mendS_size (hsz c (by simp))) (mendS_size (hsz d (by simp))) (mendS_size (hsz f (by simp)))
  have e6 : (⟨(mendS a).data.toList, (mendS b).data.toList, (mendS c).data.toList, (mendS d).data.toList, (mendS f).data.toList, x, y, z, u⟩ : Lk) = ⟨mend a.data.toList, mend b.data.toList, mend c.data.toList, mend d.data.toList, mend f.data.toList, x, y, z, u⟩ := rfl
  rw [e6] at h6
  clear e6
  generalize (⟨(joinL ⟨mend a.data.toList, mend b.data.toList, mend c.data.toList, mend d.data.toList, mend f.data.toList, x, y, z, u⟩).toArray⟩ : ByteArray) = j at h4 h6
  generalize mendS a = a' at h5 h6
  generalize mendS b = b' at h5 h6
  generalize mendS c = c' at h5 h6
  generalize mendS d = d' at h5 h6
  generalize mendS f = f' at h5 h6
  have hr := RowAt.new w #[.string a, .string b, .string c, .string d, .string f, .bool x, .bool y, .bool z, .bool u] 23 [.string a, .string b, .string c, .string d, .string f, .bool x, .bool y, .bool z, .bool u] rfl
  have hb := (Below.refl w.heap.size w).alloc (Nat.le_refl _) (.cells #[.string a, .string b, .string c, .string d, .string f, .bool x, .bool y, .bool z, .bool u] 23)
  have H1 := Lib.hid h1
  have H2 := Lib.hid h2
  have H3 := Lib.hid h3
  have H4 := Lib.hid h4
  have H5 := Lib.hid h5
  have H6 := Lib.hid h6
  clear h1 h2 h3 h4 h5 h6 hsz hv
  go_enter Try.func3, Try.ntmps3
  go_upto_region 1 with fail
  obtain ⟨w1, hw1⟩ : ∃ w1, w.alloc (.cells #[.string a, .string b, .string c, .string d, .string f, .bool x, .bool y, .bool z, .bool u] 23) = w1 := ⟨_, rfl⟩
  obtain ⟨L, hL⟩ : ∃ L, w.heap.size = L := ⟨_, rfl⟩
  rw [hw1] at hr hb ⊢
  rw [hL] at hr ⊢
  clear hw1
  have hlt := hr.lt
  have HBB := Lib.hid hb
  have d0 : ∀ x : BW w1, x.world.cell? ⟨L, 0, none⟩ = some _ := fun x => (x.ok.cell (p := ⟨L, 0, none⟩) hlt).trans (hr.cell (j := 0) rfl)
  have d1 : ∀ x : BW w1, x.world.cell? ⟨L, 1, none⟩ = some _ := fun x => (x.ok.cell (p := ⟨L, 1, none⟩) hlt).trans (hr.cell (j := 1) rfl)
  have d2 : ∀ x : BW w1, x.world.cell? ⟨L, 2, none⟩ = some _ := fun x => (x.ok.cell (p := ⟨L, 2, none⟩) hlt).trans (hr.cell (j := 2) rfl)
  have d3 : ∀ x : BW w1, x.world.cell? ⟨L, 3, none⟩ = some _ := fun x => (x.ok.cell (p := ⟨L, 3, none⟩) hlt).trans (hr.cell (j := 3) rfl)
  have d4 : ∀ x : BW w1, x.world.cell? ⟨L, 4, none⟩ = some _ := fun x => (x.ok.cell (p := ⟨L, 4, none⟩) hlt).trans (hr.cell (j := 4) rfl)
  have d5 : ∀ x : BW w1, x.world.cell? ⟨L, 5, none⟩ = some _ := fun x => (x.ok.cell (p := ⟨L, 5, none⟩) hlt).trans (hr.cell (j := 5) rfl)
  have d6 : ∀ x : BW w1, x.world.cell? ⟨L, 6, none⟩ = some _ := fun x => (x.ok.cell (p := ⟨L, 6, none⟩) hlt).trans (hr.cell (j := 6) rfl)
  have d7 : ∀ x : BW w1, x.world.cell? ⟨L, 7, none⟩ = some _ := fun x => (x.ok.cell (p := ⟨L, 7, none⟩) hlt).trans (hr.cell (j := 7) rfl)
  have d8 : ∀ x : BW w1, x.world.cell? ⟨L, 8, none⟩ = some _ := fun x => (x.ok.cell (p := ⟨L, 8, none⟩) hlt).trans (hr.cell (j := 8) rfl)
  clear hr hb
  refine wp_region_bw (by kernel_rfl) (by kernel_rfl) ?_
  repeat (go_big_quiet_step (first | (go_at_call 6; exact bw_call (H1.out _)) | (go_at_call 8; exact bw_call (H2.out _)) | (go_at_call 7; exact bw_call (H3.out _ _ _ _ _ _ _ _ _ _)) | (go_at_call 9; exact bw_call (H4.out _)) | (go_at_call 11; exact bw_call (H5.out _)) | (go_at_call 10; exact bw_call (H6.out _)) | (go_at_call 12; exact bw_call (awake_any _))))
  refine wpQuiet_nil ?_
  intro _ hw'
  obtain ⟨nx, hw''⟩ := hw'
  subst hw''
  clear d0 d1 d2 d3 d4 d5 d6 d7 d8
  go_wp2_with fail
  go_ret
  exact ⟨rfl, HBB.out.trans (nx.ok.mono HBB.out.size)⟩

end Go.Proofs.Ytabagfhnkdhjdaa

/- link.Join: the parts in one. -/
import Derived.Test.YtabagfhnkdhjdaaMended
set_option linter.unusedVariables false
namespace Go.Proofs.Ytabagfhnkdhjdaa
open Go.RowKit Go.Lib

def joinL (l : Lk) : List UInt8 :=
  (if l.hs then l.scheme ++ [58] else []) ++ (if l.hh then 47 :: 47 :: l.host else []) ++ l.path ++ (if l.hq then 63 :: l.query else []) ++ (if l.hf then 35 :: l.frag else [])

theorem ret_str {a b : ByteArray} (h : a = b) : Ending.returned (.string a) = Ending.returned (.string b) := by rw [h]

set_option maxRecDepth 100000 in
set_option maxHeartbeats 4000000 in
theorem join_any (a b c d f : ByteArray) (x y z u : Bool) (w : World) (hsz : ∀ s ∈ [a, b, c, d, f], s.size ≤ 35184372088831) :
    Calls Try.prog 9 #[.agg #[.string a, .string b, .string c, .string d, .string f, .bool x, .bool y, .bool z, .bool u]] w fun e w' =>
      e = .returned (.string ⟨(joinL ⟨mend a.data.toList, mend b.data.toList, mend c.data.toList, mend d.data.toList, mend f.data.toList, x, y, z, u⟩).toArray⟩) ∧ Below w.heap.size w w' := by
  have hm := mended_any a b c d f x y z u (w.alloc (.cells #[.string a, .string b, .string c, .string d, .string f, .bool x, .bool y, .bool z, .bool u] 24)) hsz
  have hr0 := RowAt.new w #[.string a, .string b, .string c, .string d, .string f, .bool x, .bool y, .bool z, .bool u] 24 [.string a, .string b, .string c, .string d, .string f, .bool x, .bool y, .bool z, .bool u] rfl
  have hb0 := (Below.refl w.heap.size w).alloc (Nat.le_refl _) (.cells #[.string a, .string b, .string c, .string d, .string f, .bool x, .bool y, .bool z, .bool u] 24)
  rw [World.size_alloc] at hm
  have HSZ := Lib.hid hsz
  clear hsz
  have H0 := Lib.hid hr0
  have HB0 := Lib.hid hb0
  clear hr0 hb0
  have hszA : ∀ s : ByteArray, s.size ≤ 35184372088831 → (mendS s).size ≤ 140737488355328 := fun s h => by
    have := mend_len s.data.toList
    rw [← size_eq] at this
    show (⟨(mend s.data.toList).toArray⟩ : ByteArray).size ≤ _
    rw [size_eq]
    show (mend s.data.toList).length ≤ _
    omega
  have hA := hszA a (HSZ.out a (by simp))
  have hB := hszA b (HSZ.out b (by simp))
  have hC := hszA c (HSZ.out c (by simp))
  have hD := hszA d (HSZ.out d (by simp))
  have hF := hszA f (HSZ.out f (by simp))
  obtain ⟨A, eA⟩ : ∃ A, mendS a = A := ⟨_, rfl⟩
  obtain ⟨B, eB⟩ : ∃ A, mendS b = A := ⟨_, rfl⟩
  obtain ⟨C, eC⟩ : ∃ A, mendS c = A := ⟨_, rfl⟩
  obtain ⟨D, eD⟩ : ∃ A, mendS d = A := ⟨_, rfl⟩
  obtain ⟨F, eF⟩ : ∃ A, mendS f = A := ⟨_, rfl⟩
  have HA := Lib.hid eA
  have HBb := Lib.hid eB
  have HC := Lib.hid eC
  have HD := Lib.hid eD
  have HF := Lib.hid eF
  rw [eA] at hA
  rw [eB] at hB
  rw [eC] at hC
  rw [eD] at hD
  rw [eF] at hF
  rw [eA, eB, eC, eD, eF] at hm
  clear hszA eA eB eC eD eF
  go_enter Try.func9, Try.ntmps9
  go_upto_region 1 with fail
  go_cut [1] (fun p wx => p = .pointer (some ⟨w.heap.size, 0, none⟩) ∧ RowAt wx w.heap.size [.string A, .string B, .string C, .string D, .string F, .bool x, .bool y, .bool z, .bool u] ∧ Below w.heap.size w wx)
  case first =>
    go_wp2_with fail
    refine hm.mono ?_
    clear hm
    rintro e w1 ⟨rfl, hb1⟩
    have h0 := H0.out.below hb1 (by omega)
    have c0 := h0.cell (j := 0) rfl
    have c1 := h0.cell (j := 1) rfl
    have c2 := h0.cell (j := 2) rfl
    have c3 := h0.cell (j := 3) rfl
    have c4 := h0.cell (j := 4) rfl
    have c5 := h0.cell (j := 5) rfl
    have c6 := h0.cell (j := 6) rfl
    have c7 := h0.cell (j := 7) rfl
    have c8 := h0.cell (j := 8) rfl
    have f0 := h0.frozen (j := 0) (by simp)
    have f1 := h0.frozen (j := 1) (by simp)
    have f2 := h0.frozen (j := 2) (by simp)
    have f3 := h0.frozen (j := 3) (by simp)
    have f4 := h0.frozen (j := 4) (by simp)
    have f5 := h0.frozen (j := 5) (by simp)
    have f6 := h0.frozen (j := 6) (by simp)
    have f7 := h0.frozen (j := 7) (by simp)
    have f8 := h0.frozen (j := 8) (by simp)
    have HB1 : Hid (Below w.heap.size w w1) := HB0.out.trans (hb1.mono (by omega))
    have HR1 := Lib.hid h0
    clear h0 hb1
    go_wp2_with fail
    go_meet
    case rel =>
      refine ⟨rfl, ?_, ?_⟩
      · exact ((((((((HR1.out.set 0 (.string A)).set 1 (.string B)).set 2 (.string C)).set 3 (.string D)).set 4 (.string F)).set 5 (.bool x)).set 6 (.bool y)).set 7 (.bool z)).set 8 (.bool u)
      · iterate 9 (refine Below.setCell ?_ (by exact Nat.le_refl _) _)
        exact HB1.out
  case rest =>
    obtain ⟨rfl, hr, hb⟩ := hcut
    have c0 := hr.cell (j := 0) rfl
    have c1 := hr.cell (j := 1) rfl
    have c2 := hr.cell (j := 2) rfl
    have c3 := hr.cell (j := 3) rfl
    have c4 := hr.cell (j := 4) rfl
    have c5 := hr.cell (j := 5) rfl
    have c6 := hr.cell (j := 6) rfl
    have c7 := hr.cell (j := 7) rfl
    have c8 := hr.cell (j := 8) rfl
    have HBB := Lib.hid hb
    clear hr hb
    cases x <;> cases y <;> cases z <;> cases u
    all_goals
      go_wp2_with fail
      go_ret
      refine ⟨ret_str ?_, HBB.out⟩
      obtain rfl := HA.out
      obtain rfl := HBb.out
      obtain rfl := HC.out
      obtain rfl := HD.out
      obtain rfl := HF.out
      apply ByteArray.ext
      simp [joinL, mendS]
end Go.Proofs.Ytabagfhnkdhjdaa

/- sievelaw12.LinkRoads: what the walk leans on. -/
import Derived.Test.YtabagfhnkdhjdaaGreatDoorBack
import Derived.Test.YtabagfhnkdhjdaaGreatDoorResolve
set_option linter.unusedVariables false
set_option maxRecDepth 100000
namespace Go.Proofs.YtabagfhnkdhjdaaGreatDoor
open Go.RowKit Go.Lib Go.BigFrame

theorem dotsF_len : ∀ (n : Nat) (i o : List UInt8), (dotsF n i o).length ≤ i.length + o.length
  | 0, i, o => by rw [dotsF]; omega
  | n + 1, i, o => by
    rw [dotsF]
    cases i with
    | nil => simp
    | cons c t =>
      have h := dotStep_len (c :: t) o (by simp)
      have h2 := dotsF_len n (dotStep (c :: t) o).1 (dotStep (c :: t) o).2
      show (dotsF n _ _).length ≤ _
      omega
theorem dots_len (v : List UInt8) : (dots v).length ≤ 4 * v.length := by
  unfold dots
  have h := dotsF_len (mend v).length (mend v) []
  have h2 := mend_len v
  simp at h
  omega
theorem dS_size (c : ByteArray) : (dS c).size ≤ 4 * c.size := by
  rw [size_eq, size_eq]
  exact dots_len _
theorem mS_size2 (y : Bool) (c p : ByteArray) : (mS y c p).size ≤ c.size + p.size + 1 := by
  rw [size_eq, size_eq, size_eq]
  show (mergedL y c.data.toList p.data.toList).length ≤ _
  unfold mergedL
  split
  · rw [List.length_cons]; omega
  · rw [List.length_append, List.length_take]; omega
theorem dS_again (c : ByteArray) (w : World) (h : c.size ≤ 100000000) : Calls Tryz.prog 48 #[.string (dS c)] w fun e w' => e = .returned (.string (dS c)) ∧ Below w.heap.size w w' := by
  have := dots_any (dS c) w (by have := dS_size c; omega)
  have e : dots (dS c).data.toList = (dS c).data.toList := dots_dots c.data.toList
  rw [e, mk_data] at this
  exact this

/-- What Split gives. -/
structure Parts (v A B C D F : ByteArray) (x y z u : Bool) : Prop where
  split : ∀ w, Calls Tryz.prog 13 #[.string v] w fun e w' => e = .returned (.agg #[.string A, .string B, .string C, .string D, .string F, .bool x, .bool y, .bool z, .bool u]) ∧ Below w.heap.size w w'
  mend : ∀ w, Calls Tryz.prog 40 #[.agg #[.string A, .string B, .string C, .string D, .string F, .bool x, .bool y, .bool z, .bool u]] w fun e w' => e = .returned (.agg #[.string A, .string B, .string C, .string D, .string F, .bool x, .bool y, .bool z, .bool u]) ∧ Below w.heap.size w w'
  sizes : A.size ≤ 8000000 ∧ B.size ≤ 8000000 ∧ C.size ≤ 8000000 ∧ D.size ≤ 8000000 ∧ F.size ≤ 8000000
  noA : x = false → A = eS
  noB : y = false → B = eS
  noD : z = false → D = eS
  noF : u = false → F = eS

theorem parts_any (v : ByteArray) (hv : v.size ≤ 1048576) : ∃ A B C D F x y z u, Parts v A B C D F x y z u := by
  have h2 := fun w => split_any v w (by omega)
  have hl := strip_len v.data.toList
  rw [← size_eq] at hl
  have hcl := strip_clean v.data.toList
  obtain ⟨S, hS⟩ : ∃ S, strip v.data.toList = S := ⟨_, rfl⟩
  rw [hS] at h2 hl hcl
  have hSl : S.length ≤ 8000000 := by omega
  obtain ⟨l1, l2, l3, l4, l5⟩ := split_len S
  obtain ⟨hval, v2, v4, v6, v8, v0⟩ := split_valid hcl.valid
  have hz : ∀ l : List UInt8, (⟨l.toArray⟩ : ByteArray).size = l.length := fun l => size_eq _
  have hm : ∀ l : List UInt8, Valid l → mendS ⟨l.toArray⟩ = ⟨l.toArray⟩ := fun l h => by
    unfold mendS
    rw [show (⟨l.toArray⟩ : ByteArray).data.toList = l from rfl, mend_of_valid h]
  refine ⟨⟨(splitL S).scheme.toArray⟩, ⟨(splitL S).host.toArray⟩, ⟨(splitL S).path.toArray⟩, ⟨(splitL S).query.toArray⟩, ⟨(splitL S).frag.toArray⟩, (splitL S).hs, (splitL S).hh, (splitL S).hq, (splitL S).hf, h2, fun w => ?_, ?_, fun h => ?_, fun h => ?_, fun h => ?_, fun h => ?_⟩
  · have := mended_any ⟨(splitL S).scheme.toArray⟩ ⟨(splitL S).host.toArray⟩ ⟨(splitL S).path.toArray⟩ ⟨(splitL S).query.toArray⟩ ⟨(splitL S).frag.toArray⟩ (splitL S).hs (splitL S).hh (splitL S).hq (splitL S).hf w (by
      intro s hs
      simp only [List.mem_cons, List.not_mem_nil, or_false] at hs
      rcases hs with rfl | rfl | rfl | rfl | rfl <;> rw [hz] <;> omega)
    rw [hm (splitL S).scheme v0, hm (splitL S).host v2, hm (splitL S).path v4, hm (splitL S).query v6, hm (splitL S).frag v8] at this
    exact this
  · rw [hz, hz, hz, hz, hz]
    exact ⟨Nat.le_trans l1 hSl, Nat.le_trans l2 hSl, Nat.le_trans l3 hSl, Nat.le_trans l4 hSl, Nat.le_trans l5 hSl⟩
  · have : (splitL S).scheme = [] := by
      show spScheme S = []
      unfold spScheme
      rw [if_neg (by rw [show colB S = false from h]; exact Bool.false_ne_true)]
    rw [this]; rfl
  · have : (splitL S).host = [] := by
      show spHost _ = []
      unfold spHost
      rw [if_neg (by rw [show spHH (sp1 S) = false from h]; exact Bool.false_ne_true)]
    rw [this]; rfl
  · have : (splitL S).query = [] := by
      show spQuery _ = []
      unfold spQuery
      rw [if_neg (by rw [show spHQ (sp3 (sp2 (sp1 S))) = false from h]; exact Bool.false_ne_true)]
    rw [this]; rfl
  · have : (splitL S).frag = [] := by
      show spFrag _ = []
      have h' : spHF (sp4 (sp3 (sp2 (sp1 S)))) = false := h
      unfold spFrag
      unfold spHF at h'
      cases e : sp4 (sp3 (sp2 (sp1 S))) with
      | nil => rfl
      | cons b t => rw [e] at h'; cases h'
    rw [this]; rfl

/-- The forms of what Resolve gives. -/
theorem resF_scheme (a0 b0 c0 d0 a1 b1 c1 d1 f1 : ByteArray) (x0 y0 z0 y1 z1 u1 : Bool) : resF a0 b0 c0 d0 a1 b1 c1 d1 f1 x0 y0 z0 true y1 z1 u1 = row9 a1 b1 (dS c1) d1 f1 true y1 z1 u1 := rfl
theorem resF_path (a0 b0 c0 d0 a1 b1 c1 d1 f1 : ByteArray) (x0 y0 z0 y1 z1 u1 : Bool) (hc : ¬ c1.data.toList = []) : ∃ B D Y Z X, resF a0 b0 c0 d0 a1 b1 c1 d1 f1 x0 y0 z0 false y1 z1 u1 = row9 a0 B (dS X) D f1 x0 Y Z u1 ∧ X.size ≤ c0.size + c1.size + 1 := by
  unfold resF resT
  rw [if_neg Bool.false_ne_true, if_neg Bool.false_ne_true]
  by_cases hy : y1 = true
  · rw [if_pos hy]
    exact ⟨_, _, _, _, c1, rfl, by omega⟩
  · rw [if_neg hy, if_neg hc]
    by_cases hs : c1.data.toList.head? = some 47
    · rw [if_pos hs]; exact ⟨_, _, _, _, c1, rfl, by omega⟩
    · rw [if_neg hs]; exact ⟨_, _, _, _, mS y0 c0 c1, rfl, mS_size2 _ _ _⟩
theorem resF_empty (a0 b0 c0 d0 a1 b1 c1 d1 f1 : ByteArray) (x0 y0 z0 y1 z1 u1 : Bool) (hc : c1.data.toList = []) : ∃ B C D Y Z, resF a0 b0 c0 d0 a1 b1 c1 d1 f1 x0 y0 z0 false y1 z1 u1 = row9 a0 B C D f1 x0 Y Z u1 := by
  unfold resF resT
  rw [if_neg Bool.false_ne_true, if_neg Bool.false_ne_true]
  by_cases hy : y1 = true
  · rw [if_pos hy]
    exact ⟨_, _, _, _, _, rfl⟩
  · rw [if_neg hy, if_pos hc]
    split
    · exact ⟨_, _, _, _, _, rfl⟩
    · exact ⟨_, _, _, _, _, rfl⟩
theorem resF_zero (a0 b0 c0 d0 a1 b1 c1 d1 f1 : ByteArray) (x0 y0 z0 u1 : Bool) (hc : c1.data.toList = []) : resF a0 b0 c0 d0 a1 b1 c1 d1 f1 x0 y0 z0 false false false u1 = row9 a0 b0 c0 d0 f1 x0 y0 z0 u1 := by
  unfold resF resT
  rw [if_neg Bool.false_ne_true, if_neg Bool.false_ne_true, if_neg Bool.false_ne_true, if_pos hc, if_neg Bool.false_ne_true]
  rfl
end Go.Proofs.YtabagfhnkdhjdaaGreatDoor
